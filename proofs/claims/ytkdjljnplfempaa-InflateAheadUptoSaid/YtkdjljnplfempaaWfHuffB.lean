/- The reference of chapter 4: weights; what lengths may be. -/
import Derived.Test.YtkdjljnplfempaaWfRead
import Derived.Test.YtkdjljnplfempaaWfInf
import Derived.Test.YtkdjljnplfempaaWfHuffA
import Derived.Test.YtkdjljnplfempaaWfHuffP
import Derived.WalkKit
import Derived.WalkLawsBesides
import Derived.Lib.Hide
import Derived.Deep.QuietTactic
import Derived.BigQuiet
import Derived.Handy
set_option linter.unusedVariables false
set_option linter.unusedSimpArgs false
set_option linter.unusedSectionVars false
namespace Go.Proofs.Ytkdjljnplfempaa
open Go.RowKit Wf

set_option maxHeartbeats 800000 in
theorem refWeight_calls (w : World) (A : Option Addr) (c : Nat) (zs : List Int) (hA : Sees w A (ints .i64 zs)) (hn : zs.length ≤ 17592186044416) :
    Calls Try.prog 51 #[.slice A zs.length c] w fun e w' => e = .returned (.tuple #[.int .i64 (weightVal zs : Nat), .int .i64 (weightErr zs)]) ∧ ∃ n, w' = w.drewN n := by
  go_enter Try.func51, Try.ntmps51
  go_wp2
  go_loopw [4, 5] (fun v k wr => ∃ j : Nat, j ≤ zs.length ∧ k = .int .i64 j ∧ v = .int .i64 (wt (zs.take j) : Nat) ∧ (∀ i, i < j → 0 ≤ nth zs i ∧ nth zs i ≤ 15) ∧ ∃ n, wr = w.drewN n) (fun _ k _ => zs.length - (intOf k).toNat)
  case atStart => exact ⟨0, by omega, rfl, rfl, fun _ h => absurd h (by omega), 0, rfl⟩
  case round =>
    obtain ⟨j, hj, rfl, rfl, hall, n, rfl⟩ := hrel
    have HA := Lib.hid hall
    clear hall
    by_cases hlt : j < zs.length
    · obtain ⟨b, o, rfl, hbl, hc⟩ := hA.int hlt
      have hc1 := hc j hlt
      clear hc
      by_cases h0 : nth zs j < 0
      · have HM := Lib.hid (show weightVal zs = 0 ∧ weightErr zs = 2 by
          have : ¬ lensIn zs := fun h => by have := (lensIn_nth h j).1; omega
          simp [weightVal, weightErr, this])
        go_wp2
        go_ret2
        exact ⟨by rw [HM.out.1, HM.out.2]; rfl, n, rfl⟩
      · by_cases h1 : 15 < nth zs j
        · have HM := Lib.hid (show weightVal zs = 0 ∧ weightErr zs = 2 by
            have : ¬ lensIn zs := fun h => by have := (lensIn_nth h j).2; omega
            simp [weightVal, weightErr, this])
          go_wp2
          go_ret2
          exact ⟨by rw [HM.out.1, HM.out.2]; rfl, n, rfl⟩
        · have hall2 : ∀ i, i < j + 1 → 0 ≤ nth zs i ∧ nth zs i ≤ 15 := fun i hi => by
            by_cases e : i = j
            · subst e; omega
            · exact HA.out i (by omega)
          have HB := Lib.hid hall2
          clear hall2
          by_cases hp : 0 < nth zs j
          · go_wp2
            exact ⟨⟨j + 1, by omega, by go_num, congrArg _ (refWeight_step hlt hn hp (by omega)), HB.out, n, rfl⟩, by simp [intOf]; omega⟩
          · go_wp2
            exact ⟨⟨j + 1, by omega, by go_num, congrArg _ (weight_skip hlt hp), HB.out, n, rfl⟩, by simp [intOf]; omega⟩
    · obtain rfl : j = zs.length := by omega
      have hz : lensIn zs := lensIn_of_nth HA.out
      by_cases hl : zs.length ≤ 512
      · have HM := Lib.hid (show weightVal zs = wt zs ∧ weightErr zs = 0 by simp [weightVal, weightErr, hz, hl])
        go_wp2
        go_ret2
        exact ⟨by rw [HM.out.1, HM.out.2]; simp, n, rfl⟩
      · have HM := Lib.hid (show weightVal zs = 0 ∧ weightErr zs = 4 by simp [weightVal, weightErr, hz, hl])
        go_wp2
        go_ret2
        exact ⟨by rw [HM.out.1, HM.out.2]; rfl, n, rfl⟩

set_option maxHeartbeats 800000 in
theorem bad_calls (w : World) (A : Option Addr) (c : Nat) (zs : List Int) (hA : Sees w A (ints .i64 zs)) (hn : zs.length ≤ 17592186044416) :
    Calls Try.prog 26 #[.slice A zs.length c] w fun e w' => e = .returned (.int .i64 (mayErr zs)) ∧ ∃ n, w' = w.drewN n := by
  by_cases hz : lensIn zs
  · by_cases hl : zs.length ≤ 512
    · have HM := Lib.hid (show weightVal zs = wt zs ∧ weightErr zs = 0 by simp [weightVal, weightErr, hz, hl])
      have HR := Lib.hid (fun w hA => HM.out.1 ▸ HM.out.2 ▸ refWeight_calls w A c zs hA hn)
      have hwl := wt_le zs
      by_cases hw : wt zs ≤ 32768
      · have HE := Lib.hid (show mayErr zs = 0 by simp [mayErr, hz, hw, hl])
        go_enter Try.func26, Try.ntmps26
        go_wp2_with (go_at_call 51; refine (HR.out _ hA).mono ?_; rintro e w' ⟨rfl, n, rfl⟩)
        go_ret
        exact ⟨by rw [HE.out]; rfl, n, rfl⟩
      · have HE := Lib.hid (show mayErr zs = 2 by simp [mayErr, hw])
        go_enter Try.func26, Try.ntmps26
        go_wp2_with (go_at_call 51; refine (HR.out _ hA).mono ?_; rintro e w' ⟨rfl, n, rfl⟩)
        go_ret
        exact ⟨by rw [HE.out]; rfl, n, rfl⟩
    · have HM := Lib.hid (show weightVal zs = 0 ∧ weightErr zs = 4 by simp [weightVal, weightErr, hz, hl])
      have HR := Lib.hid (fun w hA => HM.out.1 ▸ HM.out.2 ▸ refWeight_calls w A c zs hA hn)
      go_enter Try.func26, Try.ntmps26
      go_wp2_with (go_at_call 51; refine (HR.out _ hA).mono ?_; rintro e w' ⟨rfl, n, rfl⟩)
      go_loopw [3, 5] (fun v k wr => ∃ j : Nat, j ≤ zs.length ∧ k = .int .i64 j ∧ v = .int .i64 (wt (zs.take j) : Nat) ∧ ∃ n, wr = w.drewN n) (fun _ k _ => zs.length - (intOf k).toNat)
      case atStart => exact ⟨0, by omega, rfl, rfl, n, rfl⟩
      case round =>
        obtain ⟨j, hj, rfl, rfl, n2, rfl⟩ := hrel
        have hzj := lensIn_nth hz j
        by_cases hlt : j < zs.length
        · obtain ⟨b, o, rfl, hbl, hc⟩ := hA.int hlt
          have hc1 := hc j hlt
          clear hc
          by_cases hp : 0 < nth zs j
          · go_wp2
            exact ⟨⟨j + 1, by omega, by go_num, congrArg _ (refWeight_step hlt hn hp (by omega)), n2, rfl⟩, by simp [intOf]; omega⟩
          · go_wp2
            exact ⟨⟨j + 1, by omega, by go_num, congrArg _ (weight_skip hlt hp), n2, rfl⟩, by simp [intOf]; omega⟩
        · obtain rfl : j = zs.length := by omega
          by_cases hw : wt zs ≤ 32768
          · have HE := Lib.hid (show mayErr zs = 4 by simp [mayErr, hz, hw, hl])
            go_wp2
            go_ret
            exact ⟨by rw [HE.out]; rfl, n2, rfl⟩
          · have HE := Lib.hid (show mayErr zs = 2 by simp [mayErr, hw])
            go_wp2
            go_ret
            exact ⟨by rw [HE.out]; rfl, n2, rfl⟩
  · have HM := Lib.hid (show weightVal zs = 0 ∧ weightErr zs = 2 by simp [weightVal, weightErr, hz])
    have HE := Lib.hid (show mayErr zs = 2 by simp [mayErr, hz])
    have HR := Lib.hid (fun w hA => HM.out.1 ▸ HM.out.2 ▸ refWeight_calls w A c zs hA hn)
    go_enter Try.func26, Try.ntmps26
    go_wp2_with (go_at_call 51; refine (HR.out _ hA).mono ?_; rintro e w' ⟨rfl, n, rfl⟩)
    go_ret
    exact ⟨by rw [HE.out]; rfl, n, rfl⟩
end Go.Proofs.Ytkdjljnplfempaa
