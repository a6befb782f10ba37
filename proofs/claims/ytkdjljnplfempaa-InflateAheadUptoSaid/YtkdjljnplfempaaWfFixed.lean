/- The fixed lengths. -/
import Derived.Test.YtkdjljnplfempaaWfRead
import Derived.Test.YtkdjljnplfempaaWfInf
import Derived.Test.YtkdjljnplfempaaWfStr
import Derived.Test.YtkdjljnplfempaaWfSteps
import Derived.Test.YtkdjljnplfempaaWfHuffC
import Derived.RegionTactic
import Derived.ChangeAlike
import Derived.Test.YtkdjljnplfempaaWfHuffP
import Derived.WalkKit
import Derived.WalkLawsBesides
import Derived.Lib.Hide
import Derived.Deep.QuietTactic
import Derived.BigQuiet
import Derived.Handy
set_option linter.unusedVariables false
set_option linter.unusedSimpArgs false
set_option linter.unusedSectionVars false
namespace Go.Proofs.Ytkdjljnplfempaa
open Go.RowKit Wf

def zV (n : Nat) : Array Value := arr n fun _ => .int .i64 0

theorem run_make35 (n : Nat) (hn : n ≤ 512) (w : World) : (Instr.makeSlice 35 (.int .i64 (n : Int)) (.int .i64 (n : Int))).run Try.prog w = .ok (.slice (some ⟨w.heap.size, 0, none⟩) n n) (w.alloc (.cells (zV n) 3)) := by
  obtain ⟨i0, hi, hz0, hz1, hz2⟩ := info_parts info3
  have := run_make (P := Try.prog) w 35 3 i0 (.int .i64 0) Try.underlying35 hi hz0 .i64 .i64 n n (by omega) (by omega) (by rw [hz2]; omega) (by omega)
  rw [this, hz1, Int.toNat_natCast, Nat.mul_one]
  have e : madeCells (Value.int .i64 0).cells n = zV n := by
    have := made_arr (.int .i64 0) n
    rw [show (madeCells #[Value.int .i64 0] n).toList.toArray = madeCells #[Value.int .i64 0] n from by simp] at this
    exact this
  rw [e]

set_option maxHeartbeats 1600000 in
set_option maxRecDepth 100000 in
theorem fixed_calls (w : World) : Calls Try.prog 18 #[] w fun e w' => ∃ g1 g2, e = .returned (.tuple #[.slice (some ⟨g1, 0, none⟩) 288 288, .slice (some ⟨g2, 0, none⟩) 30 30]) ∧ w.heap.size ≤ g1 ∧ w.heap.size ≤ g2 ∧ g1 ≠ g2 ∧ Blk w' g1 3 (arr 288 fun k => .int .i64 (fsV k)) ∧ Blk w' g2 3 (arr 30 fun _ => .int .i64 5) ∧ Below w.heap.size w w' := by
  have hm1 : ∀ w, (Instr.makeSlice 35 (.int .i64 288) (.int .i64 288)).run Try.prog w = .ok (.slice (some ⟨w.heap.size, 0, none⟩) 288 288) (w.alloc (.cells (zV 288) 3)) := run_make35 288 (by omega)
  have hm2 : ∀ w, (Instr.makeSlice 35 (.int .i64 30) (.int .i64 30)).run Try.prog w = .ok (.slice (some ⟨w.heap.size, 0, none⟩) 30 30) (w.alloc (.cells (zV 30) 3)) := run_make35 30 (by omega)
  go_enter Try.func18, Try.ntmps18
  go_wp2
  go_region
  · have hb1 : Blk ((w.drew.alloc (.cells (zV 288) 3)).alloc (.cells (zV 30) 3)) w.heap.size 3 (arr 288 (upTo 0 fsV)) := by
      rw [upTo_zero]
      exact (Blk.new w.drew 3 (zV 288)).alloc _
    have hb2 : Blk ((w.drew.alloc (.cells (zV 288) 3)).alloc (.cells (zV 30) 3)) (w.heap.size + 1) 3 (arr 30 fun _ => .int .i64 0) := by
      have h := Blk.new (w.drew.alloc (.cells (zV 288) 3)) 3 (zV 30)
      simp at h
      exact h
    have hbel : Below w.heap.size w ((w.drew.alloc (.cells (zV 288) 3)).alloc (.cells (zV 30) 3)) := ((Below.refl _ _).drew.alloc (Nat.le_refl _) _).alloc (by simp) _
    go_wp2
    go_loopw [8] (fun vi wr => ∃ i : Nat, i ≤ 288 ∧ vi = .int .i64 i ∧ Blk wr w.heap.size 3 (arr 288 (upTo i fsV)) ∧ Blk wr (w.heap.size + 1) 3 (arr 30 fun _ => .int .i64 0) ∧ Below w.heap.size w wr) (fun vi _ => 288 - (intOf vi).toNat)
    case atStart => exact ⟨0, by omega, rfl, hb1, hb2, hbel⟩
    case round =>
      clear hb1 hb2 hbel
      obtain ⟨i, hi, rfl, hb1, hb2, hbel⟩ := hrel
      by_cases hlt : i < 288
      · have c1 := (hb1.cell i).trans (arr_get hlt)
        have f1 := hb1.frozen i
        have hs := fun v (h : fsV i = v) => (upTo_set (n := 288) h) ▸ hb1.set_ i (.int .i64 v)
        have HS := Lib.hid hs
        clear hs
        by_cases h1 : i ≤ 143
        · have he := HS.out 8 (by unfold fsV; rw [if_pos h1])
          have HE := Lib.hid he
          clear he
          go_wp2
          exact ⟨⟨i + 1, by omega, by go_num, HE.out, hb2.far (by simp; try omega) _, hbel.setCell (by simp) _⟩, by simp [intOf]; omega⟩
        · by_cases h2 : i ≤ 255
          · have he := HS.out 9 (by unfold fsV; rw [if_neg h1, if_pos h2])
            have HE := Lib.hid he
            clear he
            go_wp2
            exact ⟨⟨i + 1, by omega, by go_num, HE.out, hb2.far (by simp; try omega) _, hbel.setCell (by simp) _⟩, by simp [intOf]; omega⟩
          · by_cases h3 : i ≤ 279
            · have he := HS.out 7 (by unfold fsV; rw [if_neg h1, if_neg h2, if_pos h3])
              have HE := Lib.hid he
              clear he
              go_wp2
              exact ⟨⟨i + 1, by omega, by go_num, HE.out, hb2.far (by simp; try omega) _, hbel.setCell (by simp) _⟩, by simp [intOf]; omega⟩
            · have he := HS.out 8 (by unfold fsV; rw [if_neg h1, if_neg h2, if_neg h3])
              have HE := Lib.hid he
              clear he
              go_wp2
              exact ⟨⟨i + 1, by omega, by go_num, HE.out, hb2.far (by simp; try omega) _, hbel.setCell (by simp) _⟩, by simp [intOf]; omega⟩
      · obtain rfl : i = 288 := by omega
        rw [upTo_end] at hb1
        have hb3 : Blk wr (w.heap.size + 1) 3 (arr 30 (upTo 0 fun _ => 5)) := by rw [upTo_zero]; exact hb2
        clear hb2 hlt
        go_wp2
        obtain ⟨wo, rfl⟩ : ∃ wo : World, wo = wr := ⟨_, rfl⟩
        go_loopw [35] (fun vi wr => ∃ i : Nat, i ≤ 30 ∧ vi = .int .i64 i ∧ Blk wr w.heap.size 3 (arr 288 fun k => .int .i64 (fsV k)) ∧ Blk wr (w.heap.size + 1) 3 (arr 30 (upTo i fun _ => 5)) ∧ Below w.heap.size w wr) (fun vi _ => 30 - (intOf vi).toNat)
        case atStart => exact ⟨0, by omega, rfl, hb1, hb3, hbel⟩
        case round =>
          clear hb1 hb3 hbel
          obtain ⟨i, hi, rfl, hb1, hb3, hbel⟩ := hrel
          by_cases hlt : i < 30
          · have c1 := (hb3.cell i).trans (arr_get hlt)
            have f1 := hb3.frozen i
            have HE := Lib.hid ((upTo_set (n := 30) (f := fun _ => 5) (i := i) (v := 5) rfl) ▸ hb3.set_ i (.int .i64 5))
            go_wp2
            exact ⟨⟨i + 1, by omega, by go_num, hb1.far (by simp; try omega) _, HE.out, hbel.setCell (by simp) _⟩, by simp [intOf]; omega⟩
          · obtain rfl : i = 30 := by omega
            rw [upTo_end] at hb3
            go_wp2
            go_ret2
            exact ⟨w.heap.size, (w.heap.size + 1), rfl, by omega, by omega, by omega, hb1, hb3, hbel⟩
  · have hb1 : Blk ((w.drew.alloc (.cells (zV 30) 3)).alloc (.cells (zV 288) 3)) (w.heap.size + 1) 3 (arr 288 (upTo 0 fsV)) := by
      rw [upTo_zero]
      have h := Blk.new (w.drew.alloc (.cells (zV 30) 3)) 3 (zV 288)
      simp at h
      exact h
    have hb2 : Blk ((w.drew.alloc (.cells (zV 30) 3)).alloc (.cells (zV 288) 3)) w.heap.size 3 (arr 30 fun _ => .int .i64 0) := (Blk.new w.drew 3 (zV 30)).alloc _
    have hbel : Below w.heap.size w ((w.drew.alloc (.cells (zV 30) 3)).alloc (.cells (zV 288) 3)) := ((Below.refl _ _).drew.alloc (Nat.le_refl _) _).alloc (by simp) _
    go_wp2
    go_loopw [8] (fun vi wr => ∃ i : Nat, i ≤ 288 ∧ vi = .int .i64 i ∧ Blk wr (w.heap.size + 1) 3 (arr 288 (upTo i fsV)) ∧ Blk wr w.heap.size 3 (arr 30 fun _ => .int .i64 0) ∧ Below w.heap.size w wr) (fun vi _ => 288 - (intOf vi).toNat)
    case atStart => exact ⟨0, by omega, rfl, hb1, hb2, hbel⟩
    case round =>
      clear hb1 hb2 hbel
      obtain ⟨i, hi, rfl, hb1, hb2, hbel⟩ := hrel
      by_cases hlt : i < 288
      · have c1 := (hb1.cell i).trans (arr_get hlt)
        have f1 := hb1.frozen i
        have hs := fun v (h : fsV i = v) => (upTo_set (n := 288) h) ▸ hb1.set_ i (.int .i64 v)
        have HS := Lib.hid hs
        clear hs
        by_cases h1 : i ≤ 143
        · have he := HS.out 8 (by unfold fsV; rw [if_pos h1])
          have HE := Lib.hid he
          clear he
          go_wp2
          exact ⟨⟨i + 1, by omega, by go_num, HE.out, hb2.far (by simp; try omega) _, hbel.setCell (by simp) _⟩, by simp [intOf]; omega⟩
        · by_cases h2 : i ≤ 255
          · have he := HS.out 9 (by unfold fsV; rw [if_neg h1, if_pos h2])
            have HE := Lib.hid he
            clear he
            go_wp2
            exact ⟨⟨i + 1, by omega, by go_num, HE.out, hb2.far (by simp; try omega) _, hbel.setCell (by simp) _⟩, by simp [intOf]; omega⟩
          · by_cases h3 : i ≤ 279
            · have he := HS.out 7 (by unfold fsV; rw [if_neg h1, if_neg h2, if_pos h3])
              have HE := Lib.hid he
              clear he
              go_wp2
              exact ⟨⟨i + 1, by omega, by go_num, HE.out, hb2.far (by simp; try omega) _, hbel.setCell (by simp) _⟩, by simp [intOf]; omega⟩
            · have he := HS.out 8 (by unfold fsV; rw [if_neg h1, if_neg h2, if_neg h3])
              have HE := Lib.hid he
              clear he
              go_wp2
              exact ⟨⟨i + 1, by omega, by go_num, HE.out, hb2.far (by simp; try omega) _, hbel.setCell (by simp) _⟩, by simp [intOf]; omega⟩
      · obtain rfl : i = 288 := by omega
        rw [upTo_end] at hb1
        have hb3 : Blk wr w.heap.size 3 (arr 30 (upTo 0 fun _ => 5)) := by rw [upTo_zero]; exact hb2
        clear hb2 hlt
        go_wp2
        obtain ⟨wo, rfl⟩ : ∃ wo : World, wo = wr := ⟨_, rfl⟩
        go_loopw [35] (fun vi wr => ∃ i : Nat, i ≤ 30 ∧ vi = .int .i64 i ∧ Blk wr (w.heap.size + 1) 3 (arr 288 fun k => .int .i64 (fsV k)) ∧ Blk wr w.heap.size 3 (arr 30 (upTo i fun _ => 5)) ∧ Below w.heap.size w wr) (fun vi _ => 30 - (intOf vi).toNat)
        case atStart => exact ⟨0, by omega, rfl, hb1, hb3, hbel⟩
        case round =>
          clear hb1 hb3 hbel
          obtain ⟨i, hi, rfl, hb1, hb3, hbel⟩ := hrel
          by_cases hlt : i < 30
          · have c1 := (hb3.cell i).trans (arr_get hlt)
            have f1 := hb3.frozen i
            have HE := Lib.hid ((upTo_set (n := 30) (f := fun _ => 5) (i := i) (v := 5) rfl) ▸ hb3.set_ i (.int .i64 5))
            go_wp2
            exact ⟨⟨i + 1, by omega, by go_num, hb1.far (by simp; try omega) _, HE.out, hbel.setCell (by simp) _⟩, by simp [intOf]; omega⟩
          · obtain rfl : i = 30 := by omega
            rw [upTo_end] at hb3
            go_wp2
            go_ret2
            exact ⟨(w.heap.size + 1), w.heap.size, rfl, by omega, by omega, by omega, hb1, hb3, hbel⟩
end Go.Proofs.Ytkdjljnplfempaa
