/- Codes, in plain Lean: the loops that make them. -/
import Derived.Test.YtkdjljnplfempaaWfHuffP
set_option linter.unusedVariables false
set_option linter.unusedSimpArgs false
set_option linter.unusedSectionVars false
namespace Wf
open Go Go.RowKit

theorem before_succ_hit {zs : List Int} {n i : Nat} (hi : i < zs.length) (h : nth zs i = (n : Int)) : before zs n (i + 1) = before zs n i + 2 ^ (15 - n) := by
  simp only [before]
  rw [if_pos ⟨h, hi⟩]
theorem before_succ_miss {zs : List Int} {n i : Nat} (h : nth zs i ≠ (n : Int)) : before zs n (i + 1) = before zs n i := by
  simp only [before]
  rw [if_neg fun hh => h hh.1]
  rfl

theorem wtBelow_cons (z : Int) (zs : List Int) (n : Nat) : before.wtBelow (z :: zs) n = (if 0 < z ∧ z < (n : Int) then 2 ^ (15 - z.toNat) else 0) + before.wtBelow zs n := rfl

/-- How many weigh at this length among the first i. -/
def eqW (n : Nat) : List Int → Nat
  | [] => 0
  | z :: zs => (if z = (n : Int) then 2 ^ (15 - n) else 0) + eqW n zs

theorem eqW_append (n : Nat) (a b : List Int) : eqW n (a ++ b) = eqW n a + eqW n b := by
  induction a with
  | nil => simp [eqW]
  | cons z a ih => simp only [List.cons_append, eqW, ih]; omega

theorem before_eq (zs : List Int) (n : Nat) : ∀ i, i ≤ zs.length → before zs n i = before.wtBelow zs n + eqW n (zs.take i) := by
  intro i
  induction i with
  | zero => intro _; simp [before, eqW]
  | succ i ih =>
    intro hi
    have h := ih (by omega)
    rw [List.take_succ_eq_append_getElem (by omega), eqW_append]
    by_cases e : nth zs i = (n : Int)
    · rw [before_succ_hit (by omega) e, h]
      rw [nth_get zs (by omega)] at e
      simp [eqW, e]
      omega
    · rw [before_succ_miss e, h]
      rw [nth_get zs (by omega)] at e
      simp [eqW, e]

theorem wtBelow_succ (zs : List Int) (n : Nat) (hn : 0 < n) : before.wtBelow zs (n + 1) = before.wtBelow zs n + eqW n zs := by
  induction zs with
  | nil => simp [before.wtBelow, eqW]
  | cons z zs ih =>
    rw [wtBelow_cons, wtBelow_cons, ih]
    simp only [eqW]
    by_cases h1 : z = (n : Int)
    · subst h1
      rw [if_pos (by omega), if_neg (by omega), if_pos rfl, Int.toNat_natCast]
      omega
    · rw [if_neg h1]
      by_cases h2 : 0 < z ∧ z < (n : Int)
      · rw [if_pos (by omega), if_pos h2]; omega
      · rw [if_neg (by omega), if_neg h2]; omega

/-- Behind all of one length the next one goes on. -/
theorem before_next (zs : List Int) (n : Nat) (hn : 0 < n) : before zs n zs.length = before zs (n + 1) 0 := by
  rw [before_eq zs n _ (Nat.le_refl _), List.take_length]
  simp only [before]
  rw [wtBelow_succ zs n hn]

theorem wtBelow_one (zs : List Int) : before.wtBelow zs 1 = 0 := by
  induction zs with
  | nil => rfl
  | cons z zs ih => rw [wtBelow_cons, ih, if_neg (by omega)]
theorem before_first (zs : List Int) : before zs 1 0 = 0 := wtBelow_one zs

theorem eqW_le (n : Nat) (zs : List Int) : before.wtBelow zs n + eqW n zs ≤ wt zs + (if n = 0 then eqW 0 zs else 0) := by
  induction zs with
  | nil => simp [before.wtBelow, eqW, wt]
  | cons z zs ih =>
    rw [wtBelow_cons, wt_cons]
    simp only [eqW, w1]
    by_cases hn : n = 0
    · subst hn
      simp only [if_true] at ih ⊢
      rw [if_neg (by omega)]
      split <;> omega
    · rw [if_neg hn] at ih ⊢
      by_cases h1 : z = (n : Int)
      · subst h1
        rw [if_neg (by omega), if_pos rfl, if_pos (by omega), Int.toNat_natCast]
        omega
      · rw [if_neg h1]
        by_cases h2 : 0 < z ∧ z < (n : Int)
        · rw [if_pos h2, if_pos (by omega)]; omega
        · rw [if_neg h2]; omega

theorem eqW_take_le (n : Nat) (zs : List Int) (i : Nat) : eqW n (zs.take i) ≤ eqW n zs := by
  have := eqW_append n (zs.take i) (zs.drop i)
  rw [List.take_append_drop] at this
  omega

theorem before_le (zs : List Int) (n i : Nat) (hn : 0 < n) (hi : i ≤ zs.length) : before zs n i ≤ wt zs := by
  rw [before_eq zs n i hi]
  have := eqW_take_le n zs i
  have h := eqW_le n zs
  rw [if_neg (by omega)] at h
  omega

theorem before_lt {zs : List Int} {n i : Nat} (hn : 0 < n) (hi : i < zs.length) (h : nth zs i = (n : Int)) : before zs n i + 2 ^ (15 - n) ≤ wt zs := by
  rw [← before_succ_hit hi h]
  exact before_le zs n (i + 1) hn (by omega)

/-- The code of symbol k, once the loops are at n and i. -/
def hiAt (zs : List Int) (n i k : Nat) : Nat := if 0 < nth zs k ∧ (nth zs k < (n : Int) ∨ nth zs k = (n : Int) ∧ k < i) then codeAt zs (nth zs k).toNat k else 0

theorem hiAt_start (zs : List Int) (k : Nat) : hiAt zs 1 0 k = 0 := by
  unfold hiAt; rw [if_neg (by omega)]
theorem hiAt_next (zs : List Int) (n : Nat) {k : Nat} (hk : k < zs.length) : hiAt zs n zs.length k = hiAt zs (n + 1) 0 k := by
  unfold hiAt
  have e : (0 < nth zs k ∧ (nth zs k < (n : Int) ∨ nth zs k = (n : Int) ∧ k < zs.length)) ↔ (0 < nth zs k ∧ (nth zs k < ((n + 1 : Nat) : Int) ∨ nth zs k = ((n + 1 : Nat) : Int) ∧ k < 0)) := by omega
  simp only [e]
theorem hiAt_hit {zs : List Int} {n i k : Nat} (hn : 0 < n) (h : nth zs i = (n : Int)) : hiAt zs n (i + 1) k = if k = i then codeAt zs n i else hiAt zs n i k := by
  unfold hiAt
  by_cases e : k = i
  · subst e
    rw [if_pos rfl, if_pos (by omega), h, Int.toNat_natCast]
  · rw [if_neg e]
    have e2 : (0 < nth zs k ∧ (nth zs k < (n : Int) ∨ nth zs k = (n : Int) ∧ k < i + 1)) ↔ (0 < nth zs k ∧ (nth zs k < (n : Int) ∨ nth zs k = (n : Int) ∧ k < i)) := by omega
    simp only [e2]
theorem hiAt_miss {zs : List Int} {n i k : Nat} (h : nth zs i ≠ (n : Int)) : hiAt zs n (i + 1) k = hiAt zs n i k := by
  unfold hiAt
  have e2 : (0 < nth zs k ∧ (nth zs k < (n : Int) ∨ nth zs k = (n : Int) ∧ k < i + 1)) ↔ (0 < nth zs k ∧ (nth zs k < (n : Int) ∨ nth zs k = (n : Int) ∧ k < i)) := by
    by_cases e : k = i
    · subst e; omega
    · omega
  simp only [e2]
/-- In the end: each symbol's code. -/
def hiOf (zs : List Int) (k : Nat) : Nat := if 0 < nth zs k then codeAt zs (nth zs k).toNat k else 0
theorem hiAt_end {zs : List Int} (hz : lensIn zs) (k : Nat) : hiAt zs 16 0 k = hiOf zs k := by
  unfold hiAt hiOf
  have := lensIn_nth hz k
  have e2 : (0 < nth zs k ∧ (nth zs k < ((16 : Nat) : Int) ∨ nth zs k = ((16 : Nat) : Int) ∧ k < 0)) ↔ 0 < nth zs k := by omega
  simp only [e2]

theorem high_step {zs : List Int} {n i : Nat} (hn : 0 < n) (hi : i < zs.length) (h : nth zs i = (n : Int)) (hw : wt zs ≤ 32768) :
    wrap64 (((before zs n i : Nat) : Int) + wrap64 (2 ^ (15 - n))) = (before zs n (i + 1) : Nat) := by
  have hl := before_lt hn hi h
  rw [before_succ_hit hi h]
  have e : (2 : Int) ^ (15 - n) = ((2 ^ (15 - n) : Nat) : Int) := by simp
  rw [e, wrap64_nat (by omega), show ((before zs n i : Nat) : Int) + ((2 ^ (15 - n) : Nat) : Int) = ((before zs n i + 2 ^ (15 - n) : Nat) : Int) by omega, wrap64_nat (by omega)]
theorem codes_step {zs : List Int} {n i : Nat} (hn : 0 < n) (hn2 : n ≤ 15) (hi : i < zs.length) (h : nth zs i = (n : Int)) (hw : wt zs ≤ 32768) :
    IntKind.u64.wrap (((before zs n i : Nat) : Int) + 32768 / 2 ^ n) = (before zs n (i + 1) : Nat) := by
  have hl := before_lt hn hi h
  rw [before_succ_hit hi h]
  have e := shr_len' (z := (n : Int)) (by omega) (by omega)
  rw [Int.toNat_natCast] at e
  have e2 : w1 (n : Int) = 2 ^ (15 - n) := by unfold w1; rw [if_pos (by omega), Int.toNat_natCast]
  rw [e, e2, show ((before zs n i : Nat) : Int) + ((2 ^ (15 - n) : Nat) : Int) = ((before zs n i + 2 ^ (15 - n) : Nat) : Int) by omega, wrap_u64_small (by omega)]
theorem codeAt_int (zs : List Int) (n i : Nat) : ((before zs n i : Nat) : Int) / 2 ^ (15 - n) = (codeAt zs n i : Nat) := by
  unfold codeAt; simp
end Wf
namespace Wf
open Go Go.RowKit
/-- The length of symbol k's code, once the loops are at n and i. -/
def szAt (zs : List Int) (n i k : Nat) : Nat := if 0 < nth zs k ∧ (nth zs k < (n : Int) ∨ nth zs k = (n : Int) ∧ k < i) then (nth zs k).toNat else 0
theorem szAt_start (zs : List Int) (k : Nat) : szAt zs 1 0 k = 0 := by
  unfold szAt; rw [if_neg (by omega)]
theorem szAt_next (zs : List Int) (n : Nat) {k : Nat} (hk : k < zs.length) : szAt zs n zs.length k = szAt zs (n + 1) 0 k := by
  unfold szAt
  have e : (0 < nth zs k ∧ (nth zs k < (n : Int) ∨ nth zs k = (n : Int) ∧ k < zs.length)) ↔ (0 < nth zs k ∧ (nth zs k < ((n + 1 : Nat) : Int) ∨ nth zs k = ((n + 1 : Nat) : Int) ∧ k < 0)) := by omega
  simp only [e]
theorem szAt_hit {zs : List Int} {n i k : Nat} (hn : 0 < n) (h : nth zs i = (n : Int)) : szAt zs n (i + 1) k = if k = i then n else szAt zs n i k := by
  unfold szAt
  by_cases e : k = i
  · subst e
    rw [if_pos rfl, if_pos (by omega), h, Int.toNat_natCast]
  · rw [if_neg e]
    have e2 : (0 < nth zs k ∧ (nth zs k < (n : Int) ∨ nth zs k = (n : Int) ∧ k < i + 1)) ↔ (0 < nth zs k ∧ (nth zs k < (n : Int) ∨ nth zs k = (n : Int) ∧ k < i)) := by omega
    simp only [e2]
theorem szAt_miss {zs : List Int} {n i k : Nat} (h : nth zs i ≠ (n : Int)) : szAt zs n (i + 1) k = szAt zs n i k := by
  unfold szAt
  have e2 : (0 < nth zs k ∧ (nth zs k < (n : Int) ∨ nth zs k = (n : Int) ∧ k < i + 1)) ↔ (0 < nth zs k ∧ (nth zs k < (n : Int) ∨ nth zs k = (n : Int) ∧ k < i)) := by
    by_cases e : k = i
    · subst e; omega
    · omega
  simp only [e2]
theorem szAt_end {zs : List Int} (hz : lensIn zs) (k : Nat) : (szAt zs 16 0 k : Int) = nth zs k := by
  unfold szAt
  have := lensIn_nth hz k
  by_cases h : 0 < nth zs k
  · rw [if_pos (by omega)]; omega
  · rw [if_neg (by omega)]; omega
end Wf
namespace Wf
open Go Go.RowKit
/-- The entries of the table of the first j symbols. -/
def tabL (zs : List Int) (j : Nat) : List ((Nat × Nat) × Nat) :=
  (List.range j).filterMap fun i => if 0 < nth zs i then some (((nth zs i).toNat, codeAt zs (nth zs i).toNat i), i) else none

theorem tabL_hit {zs : List Int} {j : Nat} (h : 0 < nth zs j) : tabL zs (j + 1) = tabL zs j ++ [(((nth zs j).toNat, hiOf zs j), j)] := by
  unfold tabL hiOf
  rw [List.range_succ, List.filterMap_append]
  simp [h]
theorem tabL_miss {zs : List Int} {j : Nat} (h : ¬ 0 < nth zs j) : tabL zs (j + 1) = tabL zs j := by
  unfold tabL
  rw [List.range_succ, List.filterMap_append]
  simp [h]

/-- Of one length each further code is another one. -/
theorem codeAt_lt {zs : List Int} {n i k : Nat} (hik : i < k) (hk : k < zs.length) (hi : nth zs i = (n : Int)) : codeAt zs n i < codeAt zs n k := by
  have h1 : before zs n (i + 1) ≤ before zs n k := by
    rw [before_eq zs n _ (by omega), before_eq zs n _ (by omega)]
    have h : ∀ a b, a ≤ b → eqW n (zs.take a) ≤ eqW n (zs.take b) := by
      intro a b hab
      have := eqW_take_le n (zs.take b) a
      rwa [List.take_take, Nat.min_eq_left hab] at this
    have := h (i + 1) k (by omega)
    omega
  rw [before_succ_hit (by omega) hi] at h1
  unfold codeAt
  have hp : 0 < 2 ^ (15 - n) := Nat.pow_pos (by omega)
  have := Nat.add_div_right (before zs n i) hp
  have h2 := Nat.div_le_div_right (c := 2 ^ (15 - n)) h1
  omega

theorem mem_tabL {zs : List Int} {j : Nat} {x : (Nat × Nat) × Nat} (h : x ∈ tabL zs j) : x.2 < j ∧ 0 < nth zs x.2 ∧ x.1 = ((nth zs x.2).toNat, codeAt zs (nth zs x.2).toNat x.2) := by
  unfold tabL at h
  rw [List.mem_filterMap] at h
  obtain ⟨i, hi, hx⟩ := h
  simp only [List.mem_range] at hi
  split at hx
  · rename_i hp
    simp only [Option.some.injEq] at hx
    subst hx
    exact ⟨hi, hp, rfl⟩
  · cases hx

theorem tabL_new {zs : List Int} {j : Nat} (hj : j < zs.length) (h : 0 < nth zs j) : (tabL zs j).find? (fun x => x.1 = ((nth zs j).toNat, hiOf zs j)) = none := by
  rw [List.find?_eq_none]
  intro x hx
  simp only [decide_eq_true_eq]
  intro e
  obtain ⟨h1, h2, h3⟩ := mem_tabL hx
  rw [h3] at e
  simp only [Prod.mk.injEq] at e
  obtain ⟨e1, e2⟩ := e
  have hlt := codeAt_lt (zs := zs) (n := (nth zs x.2).toNat) h1 hj (by omega)
  unfold hiOf at e2
  rw [if_pos h, ← e1] at e2
  omega

theorem find_filterMap_range (zs : List Int) (n c : Nat) (hn : 0 < n) : ∀ j, (tabL zs j).find? (fun x => x.1 = (n, c)) = ((List.range j).find? fun i => nth zs i = (n : Int) ∧ codeAt zs n i = c).map fun i => ((n, c), i) := by
  intro j
  induction j with
  | zero => simp [tabL]
  | succ j ih =>
    rw [List.range_succ, List.find?_append]
    by_cases h : 0 < nth zs j
    · rw [tabL_hit h, List.find?_append, ih]
      cases (List.range j).find? fun i => decide (nth zs i = (n : Int) ∧ codeAt zs n i = c) with
      | some i => simp
      | none =>
        simp only [Option.map_none, Option.none_or]
        have hh : hiOf zs j = codeAt zs (nth zs j).toNat j := by unfold hiOf; rw [if_pos h]
        by_cases e : nth zs j = (n : Int) ∧ codeAt zs n j = c
        · have e1 : (nth zs j).toNat = n := by omega
          have e3 : hiOf zs j = c := by rw [hh, e1, e.2]
          simp [e, e3]
        · have e2 : ¬ (((nth zs j).toNat, hiOf zs j) : Nat × Nat) = (n, c) := by
            rw [hh]
            intro e2
            simp only [Prod.mk.injEq] at e2
            obtain ⟨e3, e4⟩ := e2
            rw [e3] at e4
            exact e ⟨by omega, e4⟩
          simp only [List.find?_cons, List.find?_nil, decide_eq_false e, decide_eq_false e2, Option.map_none]
    · rw [tabL_miss h, ih]
      cases (List.range j).find? fun i => decide (nth zs i = (n : Int) ∧ codeAt zs n i = c) with
      | some i => simp
      | none =>
        have e : ¬ (nth zs j = (n : Int) ∧ codeAt zs n j = c) := fun e => by omega
        simp only [Option.map_none, Option.none_or, List.find?_cons, List.find?_nil, decide_eq_false e]

theorem find_table (zs : List Int) (n c : Nat) (hn : 0 < n) : (tabL zs zs.length).find? (fun x => x.1 = (n, c)) = (findCode zs n c).map fun i => ((n, c), i) :=
  find_filterMap_range zs n c hn zs.length
end Wf
