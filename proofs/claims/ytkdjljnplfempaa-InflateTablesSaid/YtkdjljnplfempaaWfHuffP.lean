/- Lengths of codes, in plain Lean. -/
import Derived.Test.YtkdjljnplfempaaWfInf
set_option linter.unusedVariables false
set_option linter.unusedSimpArgs false
set_option linter.unusedSectionVars false
namespace Wf
open Go Go.RowKit

/-- What one length weighs. -/
def w1 (z : Int) : Nat := if 0 < z then 2 ^ (15 - z.toNat) else 0

theorem wt_cons (z : Int) (zs : List Int) : wt (z :: zs) = w1 z + wt zs := rfl
theorem wt_append (a b : List Int) : wt (a ++ b) = wt a + wt b := by
  induction a with
  | nil => simp [wt]
  | cons z a ih => simp only [List.cons_append, wt_cons, ih]; omega
theorem wt_take_succ (zs : List Int) {j : Nat} (h : j < zs.length) : wt (zs.take (j + 1)) = wt (zs.take j) + w1 (nth zs j) := by
  rw [List.take_succ_eq_append_getElem h, wt_append, wt_cons, nth_get zs h]
  simp [wt]
theorem w1_le (z : Int) : w1 z ≤ 16384 := by
  unfold w1
  split
  · have : 2 ^ (15 - z.toNat) ≤ 2 ^ 14 := Nat.pow_le_pow_right (by omega) (by omega)
    omega
  · omega
theorem wt_le (zs : List Int) : wt zs ≤ zs.length * 16384 := by
  induction zs with
  | nil => simp [wt]
  | cons z zs ih => have := w1_le z; rw [wt_cons, List.length_cons]; omega
theorem wt_take_le (zs : List Int) (j : Nat) : wt (zs.take j) ≤ j * 16384 := by
  exact Nat.le_trans (wt_le (zs.take j)) (Nat.mul_le_mul_right _ (List.length_take_le _ _))

theorem lensIn_nth {zs : List Int} (h : lensIn zs) (j : Nat) : 0 ≤ nth zs j ∧ nth zs j ≤ 15 := by
  by_cases hj : j < zs.length
  · rw [nth_get zs hj]; exact h _ (List.getElem_mem hj)
  · simp [nth, List.getD, hj]

theorem shr_len {z : Int} (h : 0 < z) (h2 : z ≤ 15) : (32768 : Int) / 2 ^ min (IntKind.u64.wrap z).toNat 64 = (w1 z : Nat) := by
  have hz : z = (z.toNat : Int) := by omega
  generalize z.toNat = n at hz
  subst hz
  have hn : n ≤ 15 := by omega
  have e0 : IntKind.u64.wrap (n : Int) = n := wrap_u64_small (by omega)
  have e1 : w1 (n : Int) = 2 ^ (15 - n) := by unfold w1; rw [if_pos h, Int.toNat_natCast]
  rw [e0, e1, Int.toNat_natCast, Nat.min_eq_left (by omega)]
  have e : (32768 : Nat) / 2 ^ n = 2 ^ (15 - n) := by
    have := Nat.pow_div (x := 2) hn (by omega)
    simpa using this
  have : (32768 : Int) / 2 ^ n = ((32768 / 2 ^ n : Nat) : Int) := by simp
  rw [this, e]

theorem shr_len' {z : Int} (h : 0 < z) (h2 : z ≤ 15) : (32768 : Int) / 2 ^ z.toNat = (w1 z : Nat) := by
  have := shr_len h h2
  rwa [show (IntKind.u64.wrap z) = z from by have := wrap_u64_small (n := z.toNat) (by omega); rwa [Int.toNat_of_nonneg (by omega)] at this, Nat.min_eq_left (by omega)] at this

theorem wrap64_nat {n : Nat} (h : n < 9223372036854775808) : wrap64 (n : Int) = n := by
  unfold wrap64; omega

theorem weight_step {zs : List Int} {j : Nat} (hj : j < zs.length) (hn : zs.length ≤ 17592186044416) (h : 0 < nth zs j) (h2 : nth zs j ≤ 15) :
    wrap64 (((wt (zs.take j) : Nat) : Int) + 32768 / 2 ^ (nth zs j).toNat) = (wt (zs.take (j + 1)) : Nat) := by
  rw [shr_len' h h2, wt_take_succ zs hj]
  have := wt_take_le zs j
  have := w1_le (nth zs j)
  rw [show ((wt (zs.take j) : Nat) : Int) + (w1 (nth zs j) : Nat) = ((wt (zs.take j) + w1 (nth zs j) : Nat) : Int) by omega, wrap64_nat (by omega)]
theorem weight_skip {zs : List Int} {j : Nat} (hj : j < zs.length) (h : ¬ 0 < nth zs j) : ((wt (zs.take j) : Nat) : Int) = (wt (zs.take (j + 1)) : Nat) := by
  rw [wt_take_succ zs hj]; simp [w1, h]

theorem lensIn_of_nth {zs : List Int} (h : ∀ i, i < zs.length → 0 ≤ nth zs i ∧ nth zs i ≤ 15) : lensIn zs := by
  intro z hz
  obtain ⟨i, hi, rfl⟩ := List.getElem_of_mem hz
  have := h i hi
  rwa [nth_get zs hi] at this

theorem shl_len {z : Int} (h : 0 < z) (h2 : z ≤ 15) : (2 : Int) ^ (15 - z).toNat = (w1 z : Nat) := by
  unfold w1
  rw [if_pos h, show (15 - z).toNat = 15 - z.toNat by omega]
  simp

theorem refWeight_step {zs : List Int} {j : Nat} (hj : j < zs.length) (hn : zs.length ≤ 17592186044416) (h : 0 < nth zs j) (h2 : nth zs j ≤ 15) :
    wrap64 (((wt (zs.take j) : Nat) : Int) + wrap64 (2 ^ (15 - nth zs j).toNat)) = (wt (zs.take (j + 1)) : Nat) := by
  rw [shl_len h h2, wt_take_succ zs hj, wrap64_nat (by have := w1_le (nth zs j); omega)]
  have := wt_take_le zs j
  have := w1_le (nth zs j)
  rw [show ((wt (zs.take j) : Nat) : Int) + (w1 (nth zs j) : Nat) = ((wt (zs.take j) + w1 (nth zs j) : Nat) : Int) by omega, wrap64_nat (by omega)]

def mayErr (zs : List Int) : Int := if lensIn zs ∧ wt zs ≤ 32768 then (if zs.length ≤ 512 then 0 else 4) else 2
theorem mayErr_ok {zs : List Int} : mayErr zs = 0 ↔ okLens zs := by
  unfold mayErr okLens
  by_cases h1 : lensIn zs <;> by_cases h2 : wt zs ≤ 32768 <;> by_cases h3 : zs.length ≤ 512 <;> simp [h1, h2, h3]
def weightErr (zs : List Int) : Int := if lensIn zs then (if zs.length ≤ 512 then 0 else 4) else 2
def weightVal (zs : List Int) : Nat := if lensIn zs ∧ zs.length ≤ 512 then wt zs else 0

end Wf
