/- Package huff's codes are made. -/
import Derived.Test.YtkdjljnplfempaaWfRead
import Derived.Test.YtkdjljnplfempaaWfInf
import Derived.Test.YtkdjljnplfempaaWfHuffC
import Derived.Test.YtkdjljnplfempaaWfHuffP
import Derived.WalkKit
import Derived.WalkLawsBesides
import Derived.Lib.Hide
import Derived.Deep.QuietTactic
import Derived.BigQuiet
import Derived.Handy
set_option linter.unusedVariables false
set_option linter.unusedSimpArgs false
set_option linter.unusedSectionVars false
namespace Go.Proofs.Ytkdjljnplfempaa
open Go.RowKit Wf

theorem info118 : (Try.prog.info? 118).map (fun i => (i.zero, i.size, i.bytes)) = some (some (.agg #[.int .i64 0, .int .u64 0]), 2, 16) := by kernel_rfl

def cdV (zs : List Int) (n i c : Nat) : Value := if c % 2 = 0 then .int .i64 (szAt zs n i (c / 2) : Nat) else .int .u64 (hiAt zs n i (c / 2) : Nat)

set_option maxHeartbeats 1600000 in
set_option maxRecDepth 100000 in
theorem codes_calls (w : World) (A : Option Addr) (c : Nat) (zs : List Int) (hA : Sees w A (ints .i64 zs)) (hn : zs.length ≤ 512) (hz : lensIn zs) (hw : wt zs ≤ 32768) :
    Calls Try.prog 74 #[.slice A zs.length c] w fun e w' => ∃ g, e = .returned (.slice (some ⟨g, 0, none⟩) zs.length zs.length) ∧ w.heap.size ≤ g ∧ Blk w' g 118 (arr (zs.length * 2) fun c => if c % 2 = 0 then .int .i64 (nth zs (c / 2)) else .int .u64 (hiOf zs (c / 2) : Nat)) ∧ Below w.heap.size w w' := by
  obtain ⟨i0, hi, hz0, hz1, hz2⟩ := info_parts info118
  go_enter Try.func74, Try.ntmps74
  go_wp2_with (at_make; refine wpList_make_full _ rfl _ _ _ rfl w.heap.size 118 i0 (.agg #[.int .i64 0, .int .u64 0]) 2 Try.underlying115 hi hz0 hz1 _ _ _ _ zs.length rfl rfl rfl rfl (by rw [hz2]; omega) (by unfold maxLen; omega) (Nat.le_refl _) ?_)
  intro w1 ho1 hg1
  have hb1 : Blk w1 w.heap.size 118 (arr (zs.length * 2) (cdV zs 1 0)) := by
    have h := Blk.ofFull ho1
    rw [made_arrN] at h
    rwa [← arr_congr fun k _ => ?_]
    rw [cdV, szAt_start, hiAt_start]
    rcases Nat.mod_two_eq_zero_or_one k with e | e <;> simp [e]
  have hbel : Below w.heap.size w w1 := (Below.refl _ _).grown hg1 (Nat.le_refl _) (by simp)
  clear hg1 ho1
  go_wp2
  go_loopw [4, 5] (fun v k wr => ∃ n : Nat, 1 ≤ n ∧ n ≤ 16 ∧ k = .int .i64 n ∧ v = .int .u64 (before zs n 0 : Nat) ∧ Blk wr w.heap.size 118 (arr (zs.length * 2) (cdV zs n 0)) ∧ Below w.heap.size w wr) (fun _ k _ => 16 - (intOf k).toNat)
  case atStart => exact ⟨1, by omega, by omega, rfl, by rw [before_first]; rfl, hb1, hbel⟩
  case round =>
    obtain ⟨n, hn1, hn16, rfl, rfl, hb2, hbel2⟩ := hrel
    clear hb1 hbel w1
    by_cases hlt : n ≤ 15
    · go_wp2
      obtain ⟨wo, rfl⟩ : ∃ wo : World, wo = wr := ⟨_, rfl⟩
      go_loopw [4, 17] (fun v k wr => ∃ i : Nat, i ≤ zs.length ∧ k = .int .i64 i ∧ v = .int .u64 (before zs n i : Nat) ∧ Blk wr w.heap.size 118 (arr (zs.length * 2) (cdV zs n i)) ∧ Below w.heap.size w wr) (fun _ k _ => zs.length - (intOf k).toNat)
      case atStart => exact ⟨0, by omega, rfl, rfl, hb2, hbel2⟩
      case round =>
        obtain ⟨i, hi, rfl, rfl, hb3, hbel3⟩ := hrel
        clear hb2 hbel2 wo
        by_cases hlt2 : i < zs.length
        · obtain ⟨b, o, rfl, hbl, hc⟩ := (hA.below hbel3).int hlt2
          have hc1 := hc i hlt2
          clear hc
          have hble := before_le zs n i (by omega) (by omega)
          by_cases he : nth zs i = (n : Int)
          · have heb : (nth zs i == (n : Int)) = true := by rw [he]; simp
            have HE := Lib.hid he
            clear he
            have c1 := (hb3.cell (i * 2)).trans (arr_get (by omega))
            have c2 := (hb3.cell (i * 2 + 1)).trans (arr_get (by omega))
            have f1 := hb3.frozen (i * 2)
            have f2 := hb3.frozen (i * 2 + 1)
            go_wp2
            refine ⟨⟨i + 1, by omega, by go_num, congrArg _ (codes_step (by omega) (by omega) hlt2 HE.out hw), ?_, (hbel3.setCell (Nat.le_refl _) _).setCell (Nat.le_refl _) _⟩, by simp [intOf]; omega⟩
            have h4 := (hb3.set_ (i * 2) (.int .i64 n)).set_ (i * 2 + 1) (.int .u64 (↑(before zs n i) / 2 ^ (15 - n)))
            rw [arr_set, arr_set] at h4
            rw [← arr_congr fun k _ => ?_]
            · exact h4
            · unfold cdV
              rw [hiAt_hit (by omega) HE.out, szAt_hit (by omega) HE.out, codeAt_int]
              by_cases e1 : k = i * 2
              · subst e1; simp
              · by_cases e2 : k = i * 2 + 1
                · subst e2
                  have e3 : (i * 2 + 1) / 2 = i := by omega
                  have e4 : (i * 2 + 1) % 2 = 1 := by omega
                  simp [e3, e4]
                · have e3 : ¬ k / 2 = i := by omega
                  simp [e1, e2, e3]
          · have heb : (nth zs i == (n : Int)) = false := by simp [he]
            have HE := Lib.hid he
            clear he
            go_wp2
            refine ⟨⟨i + 1, by omega, by go_num, congrArg _ (by rw [before_succ_miss HE.out]), ?_, hbel3⟩, by simp [intOf]; omega⟩
            rw [← arr_congr (f := cdV zs n i) fun k _ => by rw [cdV, cdV, hiAt_miss HE.out, szAt_miss HE.out]]
            exact hb3
        · obtain rfl : i = zs.length := by omega
          go_wp2
          refine ⟨⟨n + 1, by omega, by omega, by go_num, congrArg _ (by rw [before_next zs n (by omega)]), ?_, hbel3⟩, by simp [intOf]; omega⟩
          rw [← arr_congr (f := cdV zs n zs.length) fun k hk => by rw [cdV, cdV, hiAt_next zs n (by omega), szAt_next zs n (by omega)]]
          exact hb3
    · obtain rfl : n = 16 := by omega
      go_wp2
      go_ret
      refine ⟨w.heap.size, rfl, Nat.le_refl _, ?_, hbel2⟩
      rw [← arr_congr (f := cdV zs 16 0) fun k _ => by rw [cdV, hiAt_end hz, szAt_end hz]]
      exact hb2
end Go.Proofs.Ytkdjljnplfempaa
