/- The tables of lengths and distances, in plain Lean. -/
import Derived.Test.YtkdjljnplfempaaWfTile
set_option linter.unusedVariables false
set_option linter.unusedSimpArgs false
set_option linter.unusedSectionVars false
namespace Wf
open Go Go.RowKit

/-- Base and extra bits of place i of a row. -/
def stepF (first each base : Nat) : Nat → Nat × Nat
  | 0 => (base, 0)
  | i + 1 => ((stepF first each base i).1 + 2 ^ (stepF first each base i).2, if first ≤ i + 1 then (i + 1 - first) / each + 1 else (stepF first each base i).2)

/-- The reference's. -/
def refF (turn each base : Nat) : Nat → Nat × Nat
  | 0 => (base, 0)
  | i + 1 => ((refF turn each base i).1 + 2 ^ (refF turn each base i).2, if turn ≤ i ∧ (i - turn) % each = 0 then (refF turn each base i).2 + 1 else (refF turn each base i).2)

theorem len_small : ∀ i, i ≤ 28 → (stepF 8 4 3 i).1 ≤ 65536 ∧ (stepF 8 4 3 i).2 ≤ 16 := by decide
theorem dist_small : ∀ i, i ≤ 29 → (stepF 4 2 1 i).1 ≤ 65536 ∧ (stepF 4 2 1 i).2 ≤ 16 := by decide
theorem refLen_small : ∀ i, i ≤ 28 → (refF 7 4 3 i).1 ≤ 65536 ∧ (refF 7 4 3 i).2 ≤ 16 := by decide
theorem refDist_small : ∀ i, i ≤ 29 → (refF 3 2 1 i).1 ≤ 65536 ∧ (refF 3 2 1 i).2 ≤ 16 := by decide
theorem len_tab : ∀ i, i < 28 → lenTab[i]? = some (stepF 8 4 3 i) := by decide
theorem dist_tab : ∀ i, i < 30 → distTab[i]? = some (stepF 4 2 1 i) := by decide
theorem refLen_eq : ∀ i, i < 28 → refF 7 4 3 i = stepF 8 4 3 i := by decide
theorem refDist_eq : ∀ i, i < 30 → refF 3 2 1 i = stepF 4 2 1 i := by decide

/-- What Length and Distance answer. -/
def lenA (x : Int) : Int × Int × Int := if 257 ≤ x ∧ x ≤ 285 then (match lenTab[(x - 257).toNat]? with | some (a, b) => ((a : Int), (b : Int), 0) | none => (0, 0, 2)) else (0, 0, 2)
def distA (x : Int) : Int × Int × Int := if 0 ≤ x ∧ x ≤ 29 then (match distTab[x.toNat]? with | some (a, b) => ((a : Int), (b : Int), 0) | none => (0, 0, 2)) else (0, 0, 2)

theorem stepF_base {first each base n i : Nat} (h : ∀ i, i ≤ n → (stepF first each base i).1 ≤ 65536 ∧ (stepF first each base i).2 ≤ 16) (hi : i < n) :
    wrap64 (((stepF first each base i).1 : Int) + wrap64 (2 ^ (stepF first each base i).2)) = ((stepF first each base (i + 1)).1 : Nat) := by
  have h1 := h i (by omega)
  have h2 := (h (i + 1) (by omega)).1
  have e : (stepF first each base (i + 1)).1 = (stepF first each base i).1 + 2 ^ (stepF first each base i).2 := rfl
  have e2 : (2 : Int) ^ (stepF first each base i).2 = ((2 ^ (stepF first each base i).2 : Nat) : Int) := by simp
  rw [e2, wrap64_small (n := ((2 ^ (stepF first each base i).2 : Nat) : Int)) (by omega) (by omega), wrap64_small (by omega) (by omega)]
  omega
theorem refF_base {first each base n i : Nat} (h : ∀ i, i ≤ n → (refF first each base i).1 ≤ 65536 ∧ (refF first each base i).2 ≤ 16) (hi : i < n) :
    wrap64 (((refF first each base i).1 : Int) + wrap64 (2 ^ (refF first each base i).2)) = ((refF first each base (i + 1)).1 : Nat) := by
  have h1 := h i (by omega)
  have h2 := (h (i + 1) (by omega)).1
  have e : (refF first each base (i + 1)).1 = (refF first each base i).1 + 2 ^ (refF first each base i).2 := rfl
  have e2 : (2 : Int) ^ (refF first each base i).2 = ((2 ^ (refF first each base i).2 : Nat) : Int) := by simp
  rw [e2, wrap64_small (n := ((2 ^ (refF first each base i).2 : Nat) : Int)) (by omega) (by omega), wrap64_small (by omega) (by omega)]
  omega
end Wf
namespace Wf
open Go Go.RowKit
theorem stepF_extra_hit {first each base i : Nat} (h : first ≤ i + 1) (hi : i ≤ 100) :
    wrap64 (((i : Int) + 1 - first) / each + 1) = ((stepF first each base (i + 1)).2 : Nat) := by
  have e : (stepF first each base (i + 1)).2 = (i + 1 - first) / each + 1 := by simp only [stepF]; rw [if_pos h]
  have e2 : ((i : Int) + 1 - first) / each = (((i + 1 - first) / each : Nat) : Int) := by
    rw [Int.natCast_ediv]; congr 1; omega
  have e3 : (i + 1 - first) / each ≤ i + 1 - first := Nat.div_le_self _ _
  rw [e, e2, wrap64_small (by omega) (by omega)]
  omega
theorem stepF_extra_miss {first each base i : Nat} (h : ¬ first ≤ i + 1) : (stepF first each base (i + 1)).2 = (stepF first each base i).2 := by
  simp only [stepF]; rw [if_neg h]
theorem refF_extra_hit {turn each base i : Nat} (h : turn ≤ i ∧ (i - turn) % each = 0) : (refF turn each base (i + 1)).2 = (refF turn each base i).2 + 1 := by
  simp only [refF]; rw [if_pos h]
theorem refF_extra_miss {turn each base i : Nat} (h : ¬ (turn ≤ i ∧ (i - turn) % each = 0)) : (refF turn each base (i + 1)).2 = (refF turn each base i).2 := by
  simp only [refF]; rw [if_neg h]

theorem lenA_out {x : Int} (h : x < 257 ∨ 285 < x) : lenA x = (0, 0, 2) := by unfold lenA; rw [if_neg (by omega)]
theorem lenA_last : lenA 285 = (258, 0, 0) := by decide
theorem lenA_in {k : Nat} (h : k < 28) : lenA ((k : Int) + 257) = (((stepF 8 4 3 k).1 : Int), ((stepF 8 4 3 k).2 : Int), 0) := by
  unfold lenA
  rw [if_pos (by omega), show ((k : Int) + 257 - 257).toNat = k by omega, len_tab k h]
theorem distA_out {x : Int} (h : x < 0 ∨ 29 < x) : distA x = (0, 0, 2) := by unfold distA; rw [if_neg (by omega)]
theorem distA_in {k : Nat} (h : k < 30) : distA (k : Int) = (((stepF 4 2 1 k).1 : Int), ((stepF 4 2 1 k).2 : Int), 0) := by
  unfold distA
  rw [if_pos (by omega), Int.toNat_natCast, dist_tab k h]
def trip (r : Int × Int × Int) : Ending := .returned (.tuple #[.int .i64 r.1, .int .i64 r.2.1, .int .i64 r.2.2])
end Wf
namespace Wf
open Go Go.RowKit
def fsV (k : Nat) : Int := if k ≤ 143 then 8 else if k ≤ 255 then 9 else if k ≤ 279 then 7 else 8
/-- The first i places are told. -/
def upTo (i : Nat) (f : Nat → Int) (k : Nat) : Value := .int .i64 (if k < i then f k else 0)
theorem upTo_set {n i : Nat} {f : Nat → Int} {v : Int} (h : f i = v) : (arr n (upTo i f)).setIfInBounds i (.int .i64 v) = arr n (upTo (i + 1) f) := by
  rw [arr_set]
  refine arr_congr fun k hk => ?_
  unfold upTo
  by_cases e : k = i
  · subst e; rw [if_pos rfl, if_pos (by omega), h]
  · rw [if_neg e]
    by_cases h2 : k < i
    · rw [if_pos h2, if_pos (by omega)]
    · rw [if_neg h2, if_neg (by omega)]
theorem upTo_set2 {n i : Nat} {f : Nat → Int} {u v : Int} (h : f i = v) : ((arr n (upTo i f)).setIfInBounds i (.int .i64 u)).setIfInBounds i (.int .i64 v) = arr n (upTo (i + 1) f) := by
  rw [arr_set, arr_set, ← upTo_set (n := n) h, arr_set]
  refine arr_congr fun k hk => ?_
  by_cases e : k = i <;> simp [e]
theorem upTo_zero (n : Nat) (f : Nat → Int) : arr n (upTo 0 f) = arr n fun _ => .int .i64 0 := arr_congr fun k _ => by simp [upTo]
theorem upTo_end (n : Nat) (f : Nat → Int) : arr n (upTo n f) = arr n fun k => .int .i64 (f k) := arr_congr fun k hk => by simp [upTo, hk]
end Wf
namespace Wf
open Go Go.RowKit
theorem xor_ones {n : Nat} (h : n < 65536) : n ^^^ 65535 = 65535 - n := by
  have e : (BitVec.ofNat 16 n ^^^ BitVec.allOnes 16).toNat = n ^^^ 65535 := by
    rw [BitVec.toNat_xor, BitVec.toNat_allOnes, BitVec.toNat_ofNat, Nat.mod_eq_of_lt (by omega)]
  rw [← e, BitVec.xor_allOnes, BitVec.toNat_not, BitVec.toNat_ofNat, Nat.mod_eq_of_lt (by omega)]
theorem xor_ffff {n : Nat} (h : n < 65536) : bits .xor .i64 (n : Int) 65535 = ((65535 - n : Nat) : Int) := by
  show IntKind.i64.wrap ((BitVec.ofInt 64 (n : Int) ^^^ BitVec.ofInt 64 (65535 : Int)).toNat : Int) = _
  rw [BitVec.toNat_xor, ofInt_u64 n (by omega), show (65535 : Int) = ((65535 : Nat) : Int) from rfl, ofInt_u64 65535 (by omega), xor_ones h]
  exact IntWalk.i64_in _ (by omega)
end Wf
namespace Wf
open Go Go.RowKit
theorem lenTab_small : ∀ i, i < 29 → ∀ a e, lenTab[i]? = some (a, e) → a ≤ 258 ∧ e ≤ 5 := by
  intro i hi a e h
  have : ∀ i, i < 29 → (match lenTab[i]? with | some (a, e) => decide (a ≤ 258 ∧ e ≤ 5) | none => true) = true := by decide
  have := this i hi
  rw [h] at this
  simpa using this
theorem distTab_small : ∀ i, i < 30 → ∀ a e, distTab[i]? = some (a, e) → a ≤ 24577 ∧ e ≤ 13 ∧ 0 < a := by
  intro i hi a e h
  have : ∀ i, i < 30 → (match distTab[i]? with | some (a, e) => decide (a ≤ 24577 ∧ e ≤ 13 ∧ 0 < a) | none => true) = true := by decide
  have := this i hi
  rw [h] at this
  simpa using this
theorem lenS_some {x a e : Nat} (h : lenS x = some (a, e)) : lenA (x : Int) = ((a : Int), (e : Int), 0) ∧ a ≤ 258 ∧ e ≤ 5 ∧ 257 ≤ x := by
  unfold lenS at h
  split at h
  · rename_i hx
    have hi : x - 257 < 29 := by
      have := (List.getElem?_eq_some_iff.1 h).1
      simpa [lenTab] using this
    have h2 := lenTab_small _ hi a e h
    refine ⟨?_, h2.1, h2.2, hx⟩
    unfold lenA
    rw [if_pos (by omega), show ((x : Int) - 257).toNat = x - 257 by omega, h]
  · cases h
theorem lenS_none {x : Nat} (h : lenS x = none) : lenA (x : Int) = (0, 0, 2) := by
  unfold lenA
  split
  · rename_i hx
    unfold lenS at h
    rw [if_pos (by omega)] at h
    rw [show ((x : Int) - 257).toNat = x - 257 by omega, h]
  · rfl
theorem distS_some {x a e : Nat} (h : distS x = some (a, e)) : distA (x : Int) = ((a : Int), (e : Int), 0) ∧ a ≤ 24577 ∧ e ≤ 13 ∧ 0 < a := by
  unfold distS at h
  have hi : x < 30 := by
    have := (List.getElem?_eq_some_iff.1 h).1
    simpa [distTab] using this
  have h2 := distTab_small _ hi a e h
  refine ⟨?_, h2⟩
  unfold distA
  rw [if_pos (by omega), Int.toNat_natCast, h]
theorem distS_none {x : Nat} (h : distS x = none) : distA (x : Int) = (0, 0, 2) := by
  unfold distA
  split
  · rename_i hx
    unfold distS at h
    rw [Int.toNat_natCast, h]
  · rfl
end Wf
