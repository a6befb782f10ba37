/- Lengths and distances of the reference. -/
import Derived.Test.YtkdjljnplfempaaWfRead
import Derived.Test.YtkdjljnplfempaaWfInf
import Derived.Test.YtkdjljnplfempaaWfStr
import Derived.Test.YtkdjljnplfempaaWfSteps
import Derived.Test.YtkdjljnplfempaaWfHuffP
import Derived.WalkKit
import Derived.WalkLawsBesides
import Derived.Lib.Hide
import Derived.Deep.QuietTactic
import Derived.BigQuiet
import Derived.Handy
set_option linter.unusedVariables false
set_option linter.unusedSimpArgs false
set_option linter.unusedSectionVars false
namespace Go.Proofs.Ytkdjljnplfempaa
open Go.RowKit Wf

set_option maxHeartbeats 1600000 in
set_option maxRecDepth 100000 in
theorem refLength_calls (w : World) (x : Int) : Calls Try.prog 15 #[.int .i64 x] w fun e w' => e = trip (lenA x) ∧ w = w' := by
  by_cases h1 : x < 257
  · rw [lenA_out (.inl h1)]
    go_enter Try.func15, Try.ntmps15
    go_wp2
    go_ret3
    exact ⟨rfl, rfl⟩
  · by_cases h2 : 285 < x
    · rw [lenA_out (.inr h2)]
      go_enter Try.func15, Try.ntmps15
      go_wp2
      go_ret3
      exact ⟨rfl, rfl⟩
    · by_cases h3 : x = 285
      · subst h3
        rw [lenA_last]
        go_enter Try.func15, Try.ntmps15
        go_wp2
        go_ret3
        exact ⟨rfl, rfl⟩
      · obtain ⟨n, rfl⟩ : ∃ k : Nat, x = (k : Int) + 257 := ⟨(x - 257).toNat, by omega⟩
        have hk : n < 28 := by omega
        have hne : ((n : Int) + 257 == 285) = false := by simp; omega
        have HR := Lib.hid ((refLen_eq n hk) ▸ (lenA_in hk))
        have HS := Lib.hid refLen_small
        clear h3
        go_enter Try.func15, Try.ntmps15
        go_wp2
        go_loop [5, 6, 7] (fun vb ve vi => ∃ i : Nat, i ≤ n ∧ vi = .int .i64 (257 + (i : Int)) ∧ vb = .int .i64 ((refF 7 4 3 i).1 : Nat) ∧ ve = .int .i64 ((refF 7 4 3 i).2 : Nat)) (fun _ _ vi => n + 257 - (intOf vi).toNat)
        case atStart => exact ⟨0, by omega, rfl, rfl, rfl⟩
        case round =>
          obtain ⟨i, hi, rfl, rfl, rfl⟩ := hrel
          obtain ⟨hx1, hx2⟩ := HS.out i (by omega)
          by_cases hlt : i < n
          · by_cases h4 : 7 ≤ i
            · by_cases h5 : (i - 7) % 4 = 0
              · have h5b : (((257 : Int) + i - 264) % 4 == 0) = true := by simp; omega
                have H5 := Lib.hid h5
                clear h5
                go_wp2
                exact ⟨⟨i + 1, by omega, congrArg _ (by omega), congrArg _ (refF_base (n := 28) HS.out (by omega)), congrArg _ (by rw [refF_extra_hit ⟨h4, H5.out⟩]; omega)⟩, by simp [intOf]; omega⟩
              · have h5b : (((257 : Int) + i - 264) % 4 == 0) = false := by simp; omega
                have H5 := Lib.hid h5
                clear h5
                go_wp2
                exact ⟨⟨i + 1, by omega, congrArg _ (by omega), congrArg _ (refF_base (n := 28) HS.out (by omega)), congrArg _ (by rw [refF_extra_miss fun h => H5.out h.2])⟩, by simp [intOf]; omega⟩
            · go_wp2
              exact ⟨⟨i + 1, by omega, congrArg _ (by omega), congrArg _ (refF_base (n := 28) HS.out (by omega)), congrArg _ (by rw [refF_extra_miss fun h => h4 h.1])⟩, by simp [intOf]; omega⟩
          · obtain rfl : i = n := by omega
            go_wp2
            go_ret3
            exact ⟨by rw [HR.out]; rfl, rfl⟩

set_option maxHeartbeats 1600000 in
set_option maxRecDepth 100000 in
theorem refDistance_calls (w : World) (x : Int) : Calls Try.prog 17 #[.int .i64 x] w fun e w' => e = trip (distA x) ∧ w = w' := by
  by_cases h1 : x < 0
  · rw [distA_out (.inl h1)]
    go_enter Try.func17, Try.ntmps17
    go_wp2
    go_ret3
    exact ⟨rfl, rfl⟩
  · by_cases h2 : 29 < x
    · rw [distA_out (.inr h2)]
      go_enter Try.func17, Try.ntmps17
      go_wp2
      go_ret3
      exact ⟨rfl, rfl⟩
    · obtain ⟨n, rfl⟩ : ∃ k : Nat, x = (k : Int) := ⟨x.toNat, by omega⟩
      have hk : n < 30 := by omega
      have HR := Lib.hid ((refDist_eq n hk) ▸ (distA_in hk))
      have HS := Lib.hid refDist_small
      go_enter Try.func17, Try.ntmps17
      go_wp2
      go_loop [5, 6, 7] (fun vb ve vi => ∃ i : Nat, i ≤ n ∧ vi = .int .i64 i ∧ vb = .int .i64 ((refF 3 2 1 i).1 : Nat) ∧ ve = .int .i64 ((refF 3 2 1 i).2 : Nat)) (fun _ _ vi => n - (intOf vi).toNat)
      case atStart => exact ⟨0, by omega, rfl, rfl, rfl⟩
      case round =>
        obtain ⟨i, hi, rfl, rfl, rfl⟩ := hrel
        obtain ⟨hx1, hx2⟩ := HS.out i (by omega)
        by_cases hlt : i < n
        · by_cases h4 : 3 ≤ i
          · by_cases h5 : (i - 3) % 2 = 0
            · have h5b : (((i : Int) - 3) % 2 == 0) = true := by simp; omega
              have H5 := Lib.hid h5
              clear h5
              go_wp2
              exact ⟨⟨i + 1, by omega, by go_num, congrArg _ (refF_base (n := 29) HS.out (by omega)), congrArg _ (by rw [refF_extra_hit ⟨h4, H5.out⟩]; omega)⟩, by simp [intOf]; omega⟩
            · have h5b : (((i : Int) - 3) % 2 == 0) = false := by simp; omega
              have H5 := Lib.hid h5
              clear h5
              go_wp2
              exact ⟨⟨i + 1, by omega, by go_num, congrArg _ (refF_base (n := 29) HS.out (by omega)), congrArg _ (by rw [refF_extra_miss fun h => H5.out h.2])⟩, by simp [intOf]; omega⟩
          · go_wp2
            exact ⟨⟨i + 1, by omega, by go_num, congrArg _ (refF_base (n := 29) HS.out (by omega)), congrArg _ (by rw [refF_extra_miss fun h => h4 h.1])⟩, by simp [intOf]; omega⟩
        · obtain rfl : i = n := by omega
          go_wp2
          go_ret3
          exact ⟨by rw [HR.out]; rfl, rfl⟩
end Go.Proofs.Ytkdjljnplfempaa
