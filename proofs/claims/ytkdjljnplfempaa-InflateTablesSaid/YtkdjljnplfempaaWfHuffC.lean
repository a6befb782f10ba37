/- Codes are made: the reference's high; package huff's codes. -/
import Derived.Test.YtkdjljnplfempaaWfRead
import Derived.Test.YtkdjljnplfempaaWfInf
import Derived.Test.YtkdjljnplfempaaWfHuffB
import Derived.Test.YtkdjljnplfempaaWfHuffQ
import Derived.Test.YtkdjljnplfempaaWfHuffP
import Derived.WalkKit
import Derived.WalkLawsBesides
import Derived.Lib.Hide
import Derived.Deep.QuietTactic
import Derived.BigQuiet
import Derived.Handy
set_option linter.unusedVariables false
set_option linter.unusedSimpArgs false
set_option linter.unusedSectionVars false
namespace Go.Proofs.Ytkdjljnplfempaa
open Go.RowKit Wf

theorem info3 : (Try.prog.info? 3).map (fun i => (i.zero, i.size, i.bytes)) = some (some (.int .i64 0), 1, 8) := by kernel_rfl

def hiV (zs : List Int) (n i k : Nat) : Value := .int .i64 (hiAt zs n i k : Nat)

set_option maxHeartbeats 1600000 in
set_option maxRecDepth 100000 in
theorem high_calls (w : World) (A : Option Addr) (c : Nat) (zs : List Int) (hA : Sees w A (ints .i64 zs)) (hn : zs.length ≤ 512) (hz : lensIn zs) (hw : wt zs ≤ 32768) :
    Calls Try.prog 96 #[.slice A zs.length c] w fun e w' => ∃ g, e = .returned (.slice (some ⟨g, 0, none⟩) zs.length zs.length) ∧ w.heap.size ≤ g ∧ Blk w' g 3 (arr zs.length fun k => .int .i64 (hiOf zs k : Nat)) ∧ Below w.heap.size w w' := by
  obtain ⟨i0, hi, hz0, hz1, hz2⟩ := info_parts info3
  go_enter Try.func96, Try.ntmps96
  go_wp2_with (at_make; refine wpList_make_full _ rfl _ _ _ rfl w.heap.size 3 i0 (.int .i64 0) 1 Try.underlying35 hi hz0 hz1 _ _ _ _ zs.length rfl rfl rfl rfl (by rw [hz2]; omega) (by unfold maxLen; omega) (Nat.le_refl _) ?_)
  intro w1 ho1 hg1
  have hb1 : Blk w1 w.heap.size 3 (arr zs.length (hiV zs 1 0)) := by
    have h := Blk.ofFull ho1
    rw [made_arr] at h
    rwa [← arr_congr (f := fun _ => .int .i64 0) fun k _ => by rw [hiV, hiAt_start]; rfl]
  have hbel : Below w.heap.size w w1 := (Below.refl _ _).grown hg1 (Nat.le_refl _) (by simp)
  clear hg1 ho1
  go_wp2
  go_loopw [4, 5] (fun v k wr => ∃ n : Nat, 1 ≤ n ∧ n ≤ 16 ∧ k = .int .i64 n ∧ v = .int .i64 (before zs n 0 : Nat) ∧ Blk wr w.heap.size 3 (arr zs.length (hiV zs n 0)) ∧ Below w.heap.size w wr) (fun _ k _ => 16 - (intOf k).toNat)
  case atStart => exact ⟨1, by omega, by omega, rfl, by rw [before_first]; rfl, hb1, hbel⟩
  case round =>
    obtain ⟨n, hn1, hn16, rfl, rfl, hb2, hbel2⟩ := hrel
    clear hb1 hbel w1
    by_cases hlt : n ≤ 15
    · go_wp2
      obtain ⟨wo, rfl⟩ : ∃ wo : World, wo = wr := ⟨_, rfl⟩
      go_loopw [4, 6] (fun v k wr => ∃ i : Nat, i ≤ zs.length ∧ k = .int .i64 i ∧ v = .int .i64 (before zs n i : Nat) ∧ Blk wr w.heap.size 3 (arr zs.length (hiV zs n i)) ∧ Below w.heap.size w wr) (fun _ k _ => zs.length - (intOf k).toNat)
      case atStart => exact ⟨0, by omega, rfl, rfl, hb2, hbel2⟩
      case round =>
        obtain ⟨i, hi, rfl, rfl, hb3, hbel3⟩ := hrel
        clear hb2 hbel2 wo
        by_cases hlt2 : i < zs.length
        · obtain ⟨b, o, rfl, hbl, hc⟩ := (hA.below hbel3).int hlt2
          have hc1 := hc i hlt2
          clear hc
          have hble := before_le zs n i (by omega) (by omega)
          by_cases he : nth zs i = (n : Int)
          · have heb : (nth zs i == (n : Int)) = true := by rw [he]; simp
            have HE := Lib.hid he
            clear he
            have c1 := (hb3.cell i).trans (arr_get hlt2)
            have f1 := hb3.frozen i
            go_wp2
            refine ⟨⟨i + 1, by omega, by go_num, congrArg _ (high_step (by omega) hlt2 HE.out hw), ?_, hbel3.setCell (Nat.le_refl _) _⟩, by simp [intOf]; omega⟩
            have h4 := hb3.set_ i (.int .i64 (↑(before zs n i) / 2 ^ (15 - n)))
            rw [arr_set] at h4
            rw [← arr_congr fun k _ => ?_]
            · exact h4
            · show _ = Value.int .i64 ((hiAt zs n (i + 1) k : Nat) : Int)
              rw [hiAt_hit (by omega) HE.out, codeAt_int]
              by_cases e : k = i <;> simp [e, hiV]
          · have heb : (nth zs i == (n : Int)) = false := by simp [he]
            have HE := Lib.hid he
            clear he
            go_wp2
            refine ⟨⟨i + 1, by omega, by go_num, congrArg _ (by rw [before_succ_miss HE.out]), ?_, hbel3⟩, by simp [intOf]; omega⟩
            rw [← arr_congr (f := hiV zs n i) fun k _ => by rw [hiV, hiV, hiAt_miss HE.out]]
            exact hb3
        · obtain rfl : i = zs.length := by omega
          go_wp2
          refine ⟨⟨n + 1, by omega, by omega, by go_num, congrArg _ (by rw [before_next zs n (by omega)]), ?_, hbel3⟩, by simp [intOf]; omega⟩
          rw [← arr_congr (f := hiV zs n zs.length) fun k hk => by rw [hiV, hiV, hiAt_next zs n hk]]
          exact hb3
    · obtain rfl : n = 16 := by omega
      go_wp2
      go_ret
      refine ⟨w.heap.size, rfl, Nat.le_refl _, ?_, hbel2⟩
      rw [← arr_congr (f := hiV zs 16 0) fun k _ => by rw [hiV, hiAt_end hz]]
      exact hb2
end Go.Proofs.Ytkdjljnplfempaa
