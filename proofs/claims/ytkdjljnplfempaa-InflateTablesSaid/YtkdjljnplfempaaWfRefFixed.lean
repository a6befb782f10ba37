/- The fixed lengths, of the reference. -/
import Derived.Test.YtkdjljnplfempaaWfRead
import Derived.Test.YtkdjljnplfempaaWfInf
import Derived.Test.YtkdjljnplfempaaWfFixed
import Derived.Test.YtkdjljnplfempaaWfSteps
import Derived.Test.YtkdjljnplfempaaWfHuffC
import Derived.RegionTactic
import Derived.ChangeAlike
import Derived.Test.YtkdjljnplfempaaWfHuffP
import Derived.WalkKit
import Derived.WalkLawsBesides
import Derived.Lib.Hide
import Derived.Deep.QuietTactic
import Derived.BigQuiet
import Derived.Handy
set_option linter.unusedVariables false
set_option linter.unusedSimpArgs false
set_option linter.unusedSectionVars false
namespace Go.Proofs.Ytkdjljnplfempaa
open Go.RowKit Wf

set_option maxHeartbeats 1600000 in
set_option maxRecDepth 100000 in
theorem refFixed_calls (w : World) : Calls Try.prog 19 #[] w fun e w' => ∃ g1 g2, e = .returned (.tuple #[.slice (some ⟨g1, 0, none⟩) 288 288, .slice (some ⟨g2, 0, none⟩) 30 30]) ∧ w.heap.size ≤ g1 ∧ w.heap.size ≤ g2 ∧ g1 ≠ g2 ∧ Blk w' g1 3 (arr 288 fun k => .int .i64 (fsV k)) ∧ Blk w' g2 3 (arr 30 fun _ => .int .i64 5) ∧ Below w.heap.size w w' := by
  have hm1 : ∀ w, (Instr.makeSlice 35 (.int .i64 288) (.int .i64 288)).run Try.prog w = .ok (.slice (some ⟨w.heap.size, 0, none⟩) 288 288) (w.alloc (.cells (zV 288) 3)) := run_make35 288 (by omega)
  have hm2 : ∀ w, (Instr.makeSlice 35 (.int .i64 30) (.int .i64 30)).run Try.prog w = .ok (.slice (some ⟨w.heap.size, 0, none⟩) 30 30) (w.alloc (.cells (zV 30) 3)) := run_make35 30 (by omega)
  go_enter Try.func19, Try.ntmps19
  go_wp2
  go_region
  · have hb1 : Blk ((w.drew.alloc (.cells (zV 288) 3)).alloc (.cells (zV 30) 3)) w.heap.size 3 (arr 288 (upTo 0 fsV)) := by
      rw [upTo_zero]
      exact (Blk.new w.drew 3 (zV 288)).alloc _
    have hb2 : Blk ((w.drew.alloc (.cells (zV 288) 3)).alloc (.cells (zV 30) 3)) (w.heap.size + 1) 3 (arr 30 fun _ => .int .i64 0) := by
      have h := Blk.new (w.drew.alloc (.cells (zV 288) 3)) 3 (zV 30)
      simp at h
      exact h
    have hbel : Below w.heap.size w ((w.drew.alloc (.cells (zV 288) 3)).alloc (.cells (zV 30) 3)) := ((Below.refl _ _).drew.alloc (Nat.le_refl _) _).alloc (by simp) _
    go_wp2
    go_loopw [4] (fun vi wr => ∃ i : Nat, i ≤ 288 ∧ vi = .int .i64 i ∧ Blk wr w.heap.size 3 (arr 288 (upTo i fsV)) ∧ Blk wr (w.heap.size + 1) 3 (arr 30 fun _ => .int .i64 0) ∧ Below w.heap.size w wr) (fun vi _ => 288 - (intOf vi).toNat)
    case atStart => exact ⟨0, by omega, rfl, hb1, hb2, hbel⟩
    case round =>
      clear hb1 hb2 hbel
      obtain ⟨i, hi, rfl, hb1, hb2, hbel⟩ := hrel
      by_cases hlt : i < 288
      · have c1 := (hb1.cell i).trans (arr_get hlt)
        have f1 := hb1.frozen i
        have hs1 := fun v (h : fsV i = v) => (upTo_set (n := 288) h) ▸ hb1.set_ i (.int .i64 v)
        have hs2 := fun v (h : fsV i = v) => (upTo_set2 (n := 288) (u := 8) h) ▸ (hb1.set_ i (.int .i64 8)).set_ i (.int .i64 v)
        have HS := Lib.hid hs1
        have HS2 := Lib.hid hs2
        clear hs1 hs2
        by_cases h1 : i ≤ 143
        · have he := HS.out 8 (by unfold fsV; rw [if_pos h1])
          have HE := Lib.hid he
          clear he
          go_wp2
          exact ⟨⟨i + 1, by omega, by go_num, HE.out, hb2.far (by simp; try omega) _, hbel.setCell (by simp) _⟩, by simp [intOf]; omega⟩
        · by_cases h2 : i ≤ 255
          · have he := HS2.out 9 (by unfold fsV; rw [if_neg h1, if_pos h2])
            have HE := Lib.hid he
            clear he
            go_wp2
            exact ⟨⟨i + 1, by omega, by go_num, HE.out, (hb2.far (p := ⟨w.heap.size, i, none⟩) (by simp; try omega) _).far (p := ⟨w.heap.size, i, none⟩) (by simp; try omega) _, (hbel.setCell (p := ⟨w.heap.size, i, none⟩) (by simp) _).setCell (p := ⟨w.heap.size, i, none⟩) (by simp) _⟩, by simp [intOf]; omega⟩
          · by_cases h3 : i ≤ 279
            · have he := HS2.out 7 (by unfold fsV; rw [if_neg h1, if_neg h2, if_pos h3])
              have HE := Lib.hid he
              clear he
              go_wp2
              exact ⟨⟨i + 1, by omega, by go_num, HE.out, (hb2.far (p := ⟨w.heap.size, i, none⟩) (by simp; try omega) _).far (p := ⟨w.heap.size, i, none⟩) (by simp; try omega) _, (hbel.setCell (p := ⟨w.heap.size, i, none⟩) (by simp) _).setCell (p := ⟨w.heap.size, i, none⟩) (by simp) _⟩, by simp [intOf]; omega⟩
            · have he := HS.out 8 (by unfold fsV; rw [if_neg h1, if_neg h2, if_neg h3])
              have HE := Lib.hid he
              clear he
              go_wp2
              exact ⟨⟨i + 1, by omega, by go_num, HE.out, hb2.far (by simp; try omega) _, hbel.setCell (by simp) _⟩, by simp [intOf]; omega⟩
      · obtain rfl : i = 288 := by omega
        rw [upTo_end] at hb1
        have hb3 : Blk wr (w.heap.size + 1) 3 (arr 30 (upTo 0 fun _ => 5)) := by rw [upTo_zero]; exact hb2
        clear hb2 hlt
        go_wp2
        obtain ⟨wo, rfl⟩ : ∃ wo : World, wo = wr := ⟨_, rfl⟩
        go_loopw [5] (fun vi wr => ∃ i : Nat, i ≤ 30 ∧ vi = .int .i64 i ∧ Blk wr w.heap.size 3 (arr 288 fun k => .int .i64 (fsV k)) ∧ Blk wr (w.heap.size + 1) 3 (arr 30 (upTo i fun _ => 5)) ∧ Below w.heap.size w wr) (fun vi _ => 30 - (intOf vi).toNat)
        case atStart => exact ⟨0, by omega, rfl, hb1, hb3, hbel⟩
        case round =>
          clear hb1 hb3 hbel
          obtain ⟨i, hi, rfl, hb1, hb3, hbel⟩ := hrel
          by_cases hlt : i < 30
          · have c1 := (hb3.cell i).trans (arr_get hlt)
            have f1 := hb3.frozen i
            have HE := Lib.hid ((upTo_set (n := 30) (f := fun _ => 5) (i := i) (v := 5) rfl) ▸ hb3.set_ i (.int .i64 5))
            go_wp2
            exact ⟨⟨i + 1, by omega, by go_num, hb1.far (by simp; try omega) _, HE.out, hbel.setCell (by simp) _⟩, by simp [intOf]; omega⟩
          · obtain rfl : i = 30 := by omega
            rw [upTo_end] at hb3
            go_wp2
            go_ret2
            exact ⟨w.heap.size, (w.heap.size + 1), rfl, by omega, by omega, by omega, hb1, hb3, hbel⟩
  · have hb1 : Blk ((w.drew.alloc (.cells (zV 30) 3)).alloc (.cells (zV 288) 3)) (w.heap.size + 1) 3 (arr 288 (upTo 0 fsV)) := by
      rw [upTo_zero]
      have h := Blk.new (w.drew.alloc (.cells (zV 30) 3)) 3 (zV 288)
      simp at h
      exact h
    have hb2 : Blk ((w.drew.alloc (.cells (zV 30) 3)).alloc (.cells (zV 288) 3)) w.heap.size 3 (arr 30 fun _ => .int .i64 0) := (Blk.new w.drew 3 (zV 30)).alloc _
    have hbel : Below w.heap.size w ((w.drew.alloc (.cells (zV 30) 3)).alloc (.cells (zV 288) 3)) := ((Below.refl _ _).drew.alloc (Nat.le_refl _) _).alloc (by simp) _
    go_wp2
    go_loopw [4] (fun vi wr => ∃ i : Nat, i ≤ 288 ∧ vi = .int .i64 i ∧ Blk wr (w.heap.size + 1) 3 (arr 288 (upTo i fsV)) ∧ Blk wr w.heap.size 3 (arr 30 fun _ => .int .i64 0) ∧ Below w.heap.size w wr) (fun vi _ => 288 - (intOf vi).toNat)
    case atStart => exact ⟨0, by omega, rfl, hb1, hb2, hbel⟩
    case round =>
      clear hb1 hb2 hbel
      obtain ⟨i, hi, rfl, hb1, hb2, hbel⟩ := hrel
      by_cases hlt : i < 288
      · have c1 := (hb1.cell i).trans (arr_get hlt)
        have f1 := hb1.frozen i
        have hs1 := fun v (h : fsV i = v) => (upTo_set (n := 288) h) ▸ hb1.set_ i (.int .i64 v)
        have hs2 := fun v (h : fsV i = v) => (upTo_set2 (n := 288) (u := 8) h) ▸ (hb1.set_ i (.int .i64 8)).set_ i (.int .i64 v)
        have HS := Lib.hid hs1
        have HS2 := Lib.hid hs2
        clear hs1 hs2
        by_cases h1 : i ≤ 143
        · have he := HS.out 8 (by unfold fsV; rw [if_pos h1])
          have HE := Lib.hid he
          clear he
          go_wp2
          exact ⟨⟨i + 1, by omega, by go_num, HE.out, hb2.far (by simp; try omega) _, hbel.setCell (by simp) _⟩, by simp [intOf]; omega⟩
        · by_cases h2 : i ≤ 255
          · have he := HS2.out 9 (by unfold fsV; rw [if_neg h1, if_pos h2])
            have HE := Lib.hid he
            clear he
            go_wp2
            exact ⟨⟨i + 1, by omega, by go_num, HE.out, (hb2.far (p := ⟨w.heap.size + 1, i, none⟩) (by simp; try omega) _).far (p := ⟨w.heap.size + 1, i, none⟩) (by simp; try omega) _, (hbel.setCell (p := ⟨w.heap.size + 1, i, none⟩) (by simp) _).setCell (p := ⟨w.heap.size + 1, i, none⟩) (by simp) _⟩, by simp [intOf]; omega⟩
          · by_cases h3 : i ≤ 279
            · have he := HS2.out 7 (by unfold fsV; rw [if_neg h1, if_neg h2, if_pos h3])
              have HE := Lib.hid he
              clear he
              go_wp2
              exact ⟨⟨i + 1, by omega, by go_num, HE.out, (hb2.far (p := ⟨w.heap.size + 1, i, none⟩) (by simp; try omega) _).far (p := ⟨w.heap.size + 1, i, none⟩) (by simp; try omega) _, (hbel.setCell (p := ⟨w.heap.size + 1, i, none⟩) (by simp) _).setCell (p := ⟨w.heap.size + 1, i, none⟩) (by simp) _⟩, by simp [intOf]; omega⟩
            · have he := HS.out 8 (by unfold fsV; rw [if_neg h1, if_neg h2, if_neg h3])
              have HE := Lib.hid he
              clear he
              go_wp2
              exact ⟨⟨i + 1, by omega, by go_num, HE.out, hb2.far (by simp; try omega) _, hbel.setCell (by simp) _⟩, by simp [intOf]; omega⟩
      · obtain rfl : i = 288 := by omega
        rw [upTo_end] at hb1
        have hb3 : Blk wr w.heap.size 3 (arr 30 (upTo 0 fun _ => 5)) := by rw [upTo_zero]; exact hb2
        clear hb2 hlt
        go_wp2
        obtain ⟨wo, rfl⟩ : ∃ wo : World, wo = wr := ⟨_, rfl⟩
        go_loopw [5] (fun vi wr => ∃ i : Nat, i ≤ 30 ∧ vi = .int .i64 i ∧ Blk wr (w.heap.size + 1) 3 (arr 288 fun k => .int .i64 (fsV k)) ∧ Blk wr w.heap.size 3 (arr 30 (upTo i fun _ => 5)) ∧ Below w.heap.size w wr) (fun vi _ => 30 - (intOf vi).toNat)
        case atStart => exact ⟨0, by omega, rfl, hb1, hb3, hbel⟩
        case round =>
          clear hb1 hb3 hbel
          obtain ⟨i, hi, rfl, hb1, hb3, hbel⟩ := hrel
          by_cases hlt : i < 30
          · have c1 := (hb3.cell i).trans (arr_get hlt)
            have f1 := hb3.frozen i
            have HE := Lib.hid ((upTo_set (n := 30) (f := fun _ => 5) (i := i) (v := 5) rfl) ▸ hb3.set_ i (.int .i64 5))
            go_wp2
            exact ⟨⟨i + 1, by omega, by go_num, hb1.far (by simp; try omega) _, HE.out, hbel.setCell (by simp) _⟩, by simp [intOf]; omega⟩
          · obtain rfl : i = 30 := by omega
            rw [upTo_end] at hb3
            go_wp2
            go_ret2
            exact ⟨(w.heap.size + 1), w.heap.size, rfl, by omega, by omega, by omega, hb1, hb3, hbel⟩
end Go.Proofs.Ytkdjljnplfempaa
