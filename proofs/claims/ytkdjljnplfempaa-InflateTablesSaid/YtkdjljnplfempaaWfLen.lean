/- Lengths and distances of package inflate. -/
import Derived.Test.YtkdjljnplfempaaWfRead
import Derived.Test.YtkdjljnplfempaaWfInf
import Derived.Test.YtkdjljnplfempaaWfStr
import Derived.Test.YtkdjljnplfempaaWfSteps
import Derived.Test.YtkdjljnplfempaaWfHuffP
import Derived.WalkKit
import Derived.WalkLawsBesides
import Derived.Lib.Hide
import Derived.Deep.QuietTactic
import Derived.BigQuiet
import Derived.Handy
set_option linter.unusedVariables false
set_option linter.unusedSimpArgs false
set_option linter.unusedSectionVars false
namespace Go.Proofs.Ytkdjljnplfempaa
open Go.RowKit Wf

set_option maxHeartbeats 800000 in
theorem stepped_calls (w : World) (n first each base : Nat) (hn : n ≤ 29) (hf : first ≤ 8) (he : 0 < each) (he2 : each ≤ 8) (h : ∀ i, i ≤ n → (stepF first each base i).1 ≤ 65536 ∧ (stepF first each base i).2 ≤ 16) :
    Calls Try.prog 40 #[.int .i64 n, .int .i64 first, .int .i64 each, .int .i64 base] w fun e w' => e = .returned (.tuple #[.int .i64 ((stepF first each base n).1 : Nat), .int .i64 ((stepF first each base n).2 : Nat)]) ∧ w = w' := by
  have HH := Lib.hid h
  clear h
  go_enter Try.func40, Try.ntmps40
  go_wp2
  go_loop [3, 10, 13] (fun vb ve vi => ∃ i : Nat, i ≤ n ∧ vi = .int .i64 i ∧ vb = .int .i64 ((stepF first each base i).1 : Nat) ∧ ve = .int .i64 ((stepF first each base i).2 : Nat)) (fun _ _ vi => n - (intOf vi).toNat)
  case atStart => exact ⟨0, by omega, rfl, rfl, rfl⟩
  case round =>
    obtain ⟨i, hi, rfl, rfl, rfl⟩ := hrel
    have hx := (HH.out i hi)
    obtain ⟨hx1, hx2⟩ := hx
    by_cases hlt : i < n
    · by_cases h2 : first ≤ i + 1
      · have hd0 : 0 ≤ (i : Int) + 1 - first := by omega
        go_wp2
        exact ⟨⟨i + 1, by omega, by go_num, congrArg _ (stepF_base HH.out hlt), congrArg _ (stepF_extra_hit h2 (by omega))⟩, by simp [intOf]; omega⟩
      · go_wp2
        exact ⟨⟨i + 1, by omega, by go_num, congrArg _ (stepF_base HH.out hlt), congrArg _ (by rw [stepF_extra_miss h2])⟩, by simp [intOf]; omega⟩
    · obtain rfl : i = n := by omega
      go_wp2
      go_ret2
      exact ⟨rfl, rfl⟩

set_option maxHeartbeats 800000 in
theorem length_calls (w : World) (x : Int) : Calls Try.prog 14 #[.int .i64 x] w fun e w' => e = trip (lenA x) ∧ w = w' := by
  by_cases h1 : x < 257
  · rw [lenA_out (.inl h1)]
    go_enter Try.func14, Try.ntmps14
    go_wp2
    go_ret3
    exact ⟨rfl, rfl⟩
  · by_cases h2 : 285 < x
    · rw [lenA_out (.inr h2)]
      go_enter Try.func14, Try.ntmps14
      go_wp2
      go_ret3
      exact ⟨rfl, rfl⟩
    · by_cases h3 : x = 285
      · subst h3
        rw [lenA_last]
        go_enter Try.func14, Try.ntmps14
        go_wp2
        go_ret3
        exact ⟨rfl, rfl⟩
      · obtain ⟨k, rfl⟩ : ∃ k : Nat, x = (k : Int) + 257 := ⟨(x - 257).toNat, by omega⟩
        have hk : k < 28 := by omega
        have hne : ((k : Int) + 257 == 285) = false := by simp; omega
        have HR := Lib.hid (lenA_in hk)
        clear h3
        go_enter Try.func14, Try.ntmps14
        go_wp2_with (go_at_call 40; refine (stepped_calls _ k 8 4 3 (by omega) (by omega) (by omega) (by omega) (fun i hi => len_small i (by omega))).mono ?_; rintro e w' ⟨rfl, rfl⟩)
        go_ret3
        exact ⟨by rw [HR.out]; rfl, rfl⟩

set_option maxHeartbeats 800000 in
theorem distance_calls (w : World) (x : Int) : Calls Try.prog 16 #[.int .i64 x] w fun e w' => e = trip (distA x) ∧ w = w' := by
  by_cases h1 : x < 0
  · rw [distA_out (.inl h1)]
    go_enter Try.func16, Try.ntmps16
    go_wp2
    go_ret3
    exact ⟨rfl, rfl⟩
  · by_cases h2 : 29 < x
    · rw [distA_out (.inr h2)]
      go_enter Try.func16, Try.ntmps16
      go_wp2
      go_ret3
      exact ⟨rfl, rfl⟩
    · obtain ⟨k, rfl⟩ : ∃ k : Nat, x = (k : Int) := ⟨x.toNat, by omega⟩
      have hk : k < 30 := by omega
      have HR := Lib.hid (distA_in hk)
      go_enter Try.func16, Try.ntmps16
      go_wp2_with (go_at_call 40; refine (stepped_calls _ k 4 2 1 (by omega) (by omega) (by omega) (by omega) (fun i hi => dist_small i (by omega))).mono ?_; rintro e w' ⟨rfl, rfl⟩)
      go_ret3
      exact ⟨by rw [HR.out]; rfl, rfl⟩
end Go.Proofs.Ytkdjljnplfempaa
