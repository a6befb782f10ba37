/- Codes cover all numbers below their weight: where no code has stood, none can. -/
import Derived.Test.YtkdjljnplfempaaWfHuffQ
set_option linter.unusedVariables false
set_option linter.unusedSimpArgs false
set_option linter.unusedSectionVars false
namespace Wf
open Go Go.RowKit

def Covers (zs : List Int) (x : Nat) : Prop := ∃ k, k < zs.length ∧ 0 < nth zs k ∧ before zs (nth zs k).toNat k ≤ x ∧ x < before zs (nth zs k).toNat k + 2 ^ (15 - (nth zs k).toNat)

theorem cover_row {zs : List Int} {n : Nat} (hn : 0 < n) (h : ∀ x, x < before zs n 0 → Covers zs x) : ∀ i, i ≤ zs.length → ∀ x, x < before zs n i → Covers zs x := by
  intro i
  induction i with
  | zero => intro _; exact h
  | succ i ih =>
    intro hi x hx
    by_cases e : nth zs i = (n : Int)
    · rw [before_succ_hit (by omega) e] at hx
      by_cases h2 : x < before zs n i
      · exact ih (by omega) x h2
      · refine ⟨i, by omega, by omega, ?_, ?_⟩
        · rw [e, Int.toNat_natCast]; omega
        · rw [e, Int.toNat_natCast]; omega
    · rw [before_succ_miss e] at hx
      exact ih (by omega) x hx

theorem cover_all (zs : List Int) : ∀ n, 0 < n → ∀ x, x < before zs n 0 → Covers zs x := by
  intro n
  induction n with
  | zero => intro h; omega
  | succ n ih =>
    intro _ x hx
    by_cases hn : n = 0
    · subst hn
      rw [before_first] at hx
      omega
    · rw [← before_next zs n (by omega)] at hx
      exact cover_row (by omega) (ih (by omega)) _ (Nat.le_refl _) x hx

theorem before_16 {zs : List Int} (hz : lensIn zs) : before zs 16 0 = wt zs := by
  simp only [before]
  induction zs with
  | nil => rfl
  | cons z zs ih =>
    rw [wtBelow_cons, wt_cons, ih fun l hl => hz l (List.mem_cons_of_mem _ hl)]
    have := hz z (List.mem_cons_self ..)
    unfold w1
    by_cases h : 0 < z
    · rw [if_pos (by omega), if_pos h]
    · rw [if_neg (by omega), if_neg h]

theorem dvd_wtBelow (zs : List Int) (n : Nat) (hn : n ≤ 15) : 2 ^ (15 - n) ∣ before.wtBelow zs n := by
  induction zs with
  | nil => exact Nat.dvd_zero _
  | cons z zs ih =>
    rw [wtBelow_cons]
    refine Nat.dvd_add ?_ ih
    split
    · exact Nat.pow_dvd_pow 2 (by omega)
    · exact Nat.dvd_zero _
theorem dvd_eqW (n : Nat) (zs : List Int) : 2 ^ (15 - n) ∣ eqW n zs := by
  induction zs with
  | nil => exact Nat.dvd_zero _
  | cons z zs ih =>
    simp only [eqW]
    refine Nat.dvd_add ?_ ih
    split
    · exact Nat.dvd_refl _
    · exact Nat.dvd_zero _
theorem dvd_before (zs : List Int) {n i : Nat} (hn : n ≤ 15) (hi : i ≤ zs.length) : 2 ^ (15 - n) ∣ before zs n i := by
  rw [before_eq zs n i hi]
  exact Nat.dvd_add (dvd_wtBelow zs n hn) (dvd_eqW n _)

theorem findCode_some {zs : List Int} {n c i : Nat} (hi : i < zs.length) (h : nth zs i = (n : Int)) (hc : codeAt zs n i = c) : findCode zs n c ≠ none := by
  unfold findCode
  intro hn
  rw [List.find?_eq_none] at hn
  have := hn i (by simpa using hi)
  simp only [decide_eq_true_eq] at this
  exact this ⟨h, hc⟩

/-- Which beginnings of a code have been no codes. -/
def Missed (zs : List Int) (n c : Nat) : Prop := ∀ m, 0 < m → m ≤ n → findCode zs m (c / 2 ^ (n - m)) = none

theorem missed_zero (zs : List Int) : Missed zs 0 0 := fun m h1 h2 => by omega
theorem missed_succ {zs : List Int} {n c b : Nat} (h : Missed zs n c) (hb : b < 2) (hf : findCode zs (n + 1) (2 * c + b) = none) : Missed zs (n + 1) (2 * c + b) := by
  intro m h1 h2
  by_cases e : m = n + 1
  · subst e
    rw [Nat.sub_self, Nat.pow_zero, Nat.div_one]
    exact hf
  · have := h m h1 (by omega)
    rw [show n + 1 - m = (n - m) + 1 by omega, Nat.pow_succ, Nat.mul_comm (2 ^ (n - m)) 2, ← Nat.div_div_eq_div_mul, show (2 * c + b) / 2 = c by omega]
    exact this

/-- Where a code of more than n bits begins with c, or c is too great. -/
theorem missed_cover {zs : List Int} (hz : lensIn zs) {n c : Nat} (hn : n ≤ 15) (h : Missed zs n c) (hx : c * 2 ^ (15 - n) < wt zs) :
    ∃ k, k < zs.length ∧ (n : Int) < nth zs k ∧ before zs (nth zs k).toNat k ≤ c * 2 ^ (15 - n) ∧ c * 2 ^ (15 - n) < before zs (nth zs k).toNat k + 2 ^ (15 - (nth zs k).toNat) := by
  rw [← before_16 hz] at hx
  obtain ⟨k, hk, hp, h1, h2⟩ := cover_all zs 16 (by omega) _ hx
  refine ⟨k, hk, ?_, h1, h2⟩
  apply Classical.byContradiction
  intro hle
  have hz1 := lensIn_nth hz k
  obtain ⟨l, hl⟩ : ∃ l : Nat, nth zs k = (l : Int) := ⟨(nth zs k).toNat, by omega⟩
  rw [hl, Int.toNat_natCast] at h1 h2
  have hln : l ≤ n := by omega
  refine findCode_some hk hl ?_ (h l (by omega) hln)
  unfold codeAt
  obtain ⟨q, hq⟩ := dvd_before zs (n := l) (i := k) (by omega) (by omega)
  have hpow : 2 ^ (15 - l) = 2 ^ (15 - n) * 2 ^ (n - l) := by rw [← Nat.pow_add]; congr 1; omega
  have hp1 : 0 < 2 ^ (15 - n) := Nat.pow_pos (by omega)
  have hp2 : 0 < 2 ^ (n - l) := Nat.pow_pos (by omega)
  rw [hq, Nat.mul_div_cancel_left _ (Nat.pow_pos (by omega))]
  rw [hq, hpow] at h1 h2
  have e1 : q * 2 ^ (n - l) ≤ c := by
    have : (q * 2 ^ (n - l)) * 2 ^ (15 - n) ≤ c * 2 ^ (15 - n) := by
      calc (q * 2 ^ (n - l)) * 2 ^ (15 - n) = 2 ^ (15 - n) * 2 ^ (n - l) * q := by ac_rfl
        _ ≤ _ := h1
    exact Nat.le_of_mul_le_mul_right this hp1
  have e2 : c < (q + 1) * 2 ^ (n - l) := by
    have : c * 2 ^ (15 - n) < ((q + 1) * 2 ^ (n - l)) * 2 ^ (15 - n) := by
      calc c * 2 ^ (15 - n) < 2 ^ (15 - n) * 2 ^ (n - l) * q + 2 ^ (15 - n) * 2 ^ (n - l) := h2
        _ = ((q + 1) * 2 ^ (n - l)) * 2 ^ (15 - n) := by
          rw [Nat.add_mul, Nat.add_mul, Nat.one_mul, Nat.mul_comm (2 ^ (n - l)) (2 ^ (15 - n)), show 2 ^ (15 - n) * 2 ^ (n - l) * q = q * 2 ^ (n - l) * 2 ^ (15 - n) by ac_rfl]
    exact Nat.lt_of_mul_lt_mul_right this
  symm
  exact Nat.div_eq_of_lt_le e1 e2

theorem missed_15 {zs : List Int} (hz : lensIn zs) {c : Nat} (h : Missed zs 15 c) : wt zs ≤ c := by
  apply Classical.byContradiction
  intro hlt
  obtain ⟨k, hk, hn, _⟩ := missed_cover hz (Nat.le_refl _) h (by simpa using hlt)
  have := lensIn_nth hz k
  omega
end Wf

namespace Wf
open Go Go.RowKit
/-- What is read where the n bits c have been read, and are not looked at yet. -/
def symAt (zs b : List Int) (p n c : Nat) : Except Int (Nat × Nat) :=
  match (if n = 0 then none else findCode zs n c) with
  | some i => .ok (i, n)
  | none => symGo zs b p (16 - n) n c

/-- Symbol k's code begins with the n bits c, and has more. -/
def liveAt (zs : List Int) (n c k : Nat) : Prop := (n : Int) < nth zs k ∧ hiOf zs k / 2 ^ ((nth zs k).toNat - n) = c

theorem hiOf_mul {zs : List Int} {k : Nat} (hz : lensIn zs) (hk : k < zs.length) (h : 0 < nth zs k) : hiOf zs k * 2 ^ (15 - (nth zs k).toNat) = before zs (nth zs k).toNat k := by
  unfold hiOf codeAt
  rw [if_pos h]
  have := lensIn_nth hz k
  exact Nat.div_mul_cancel (dvd_before zs (by omega) (by omega))

theorem live_lt {zs : List Int} (hz : lensIn zs) {n c k : Nat} (hk : k < zs.length) (h : liveAt zs n c k) : c * 2 ^ (15 - n) < wt zs := by
  obtain ⟨h1, h2⟩ := h
  have hz1 := lensIn_nth hz k
  have e := hiOf_mul hz hk (by omega)
  have hl := before_lt (zs := zs) (n := (nth zs k).toNat) (i := k) (by omega) hk (by omega)
  have hp : 0 < 2 ^ (15 - (nth zs k).toNat) := Nat.pow_pos (by omega)
  have h3 : c * 2 ^ ((nth zs k).toNat - n) ≤ hiOf zs k := by rw [← h2]; exact Nat.div_mul_le_self _ _
  have h4 := Nat.mul_le_mul_right (2 ^ (15 - (nth zs k).toNat)) h3
  rw [e, Nat.mul_assoc, ← Nat.pow_add, show (nth zs k).toNat - n + (15 - (nth zs k).toNat) = 15 - n by omega] at h4
  omega

theorem live_of_lt {zs : List Int} (hz : lensIn zs) {n c : Nat} (hn : n ≤ 15) (h : Missed zs n c) (hx : c * 2 ^ (15 - n) < wt zs) : ∃ k, k < zs.length ∧ liveAt zs n c k := by
  obtain ⟨k, hk, hlt, h1, h2⟩ := missed_cover hz hn h hx
  refine ⟨k, hk, hlt, ?_⟩
  have hz1 := lensIn_nth hz k
  have e := hiOf_mul hz hk (by omega)
  rw [← e] at h1 h2
  obtain ⟨l, hl⟩ : ∃ l, l = (nth zs k).toNat := ⟨_, rfl⟩
  rw [← hl] at h1 h2 ⊢
  have hpow : 2 ^ (15 - n) = 2 ^ (l - n) * 2 ^ (15 - l) := by rw [← Nat.pow_add]; congr 1; omega
  have hp : 0 < 2 ^ (15 - l) := Nat.pow_pos (by omega)
  have hp2 : 0 < 2 ^ (l - n) := Nat.pow_pos (by omega)
  rw [hpow, ← Nat.mul_assoc] at h1 h2
  have a1 := Nat.le_of_mul_le_mul_right h1 hp
  have a2 : c * 2 ^ (l - n) < hiOf zs k + 1 := by
    rw [← Nat.succ_mul] at h2
    exact Nat.lt_of_mul_lt_mul_right h2
  have a3 : hiOf zs k = c * 2 ^ (l - n) := by omega
  rw [a3, Nat.mul_div_cancel _ hp2]

theorem findCode_first {zs : List Int} {n c i : Nat} (hi : i < zs.length) (h : nth zs i = (n : Int)) (hc : codeAt zs n i = c) (hf : ∀ k, k < i → ¬ (nth zs k = (n : Int) ∧ codeAt zs n k = c)) : findCode zs n c = some i := by
  unfold findCode
  rw [List.find?_range_eq_some]
  refine ⟨by simpa using ⟨h, hc⟩, by simpa using hi, fun j hj => ?_⟩
  have := hf j hj
  simp only [Bool.not_eq_true', decide_eq_false_iff_not]
  exact this
theorem findCode_none {zs : List Int} {n c : Nat} (hf : ∀ k, k < zs.length → ¬ (nth zs k = (n : Int) ∧ codeAt zs n k = c)) : findCode zs n c = none := by
  unfold findCode
  rw [List.find?_eq_none]
  intro k hk
  have := hf k (by simpa using hk)
  simp only [decide_eq_true_eq]
  exact this
end Wf

namespace Wf
open Go Go.RowKit
/-- None of the first i symbols has just the n bits c. -/
def NoneAt (zs : List Int) (n c i : Nat) : Prop := ∀ k, k < i → ¬ (0 < n ∧ nth zs k = (n : Int) ∧ codeAt zs n k = c)

theorem NoneAt.succ {zs : List Int} {n c i : Nat} (h : NoneAt zs n c i) (hi : ¬ (0 < n ∧ nth zs i = (n : Int) ∧ codeAt zs n i = c)) : NoneAt zs n c (i + 1) := fun k hk => by
  by_cases e : k = i
  · rw [e]; exact hi
  · exact h k (by omega)

theorem symAt_hit {zs b : List Int} {p n c i : Nat} (hi : i < zs.length) (hn : 0 < n) (h : nth zs i = (n : Int)) (hc : hiOf zs i = c) (hno : NoneAt zs n c i) : symAt zs b p n c = .ok (i, n) := by
  have hc' : codeAt zs n i = c := by
    unfold hiOf at hc
    rw [if_pos (by omega), h, Int.toNat_natCast] at hc
    exact hc
  unfold symAt
  rw [if_neg (by omega), findCode_first hi h hc' fun k hk he => hno k hk ⟨hn, he⟩]

theorem symAt_none {zs b : List Int} {p n c : Nat} (hno : NoneAt zs n c zs.length) : symAt zs b p n c = symGo zs b p (16 - n) n c := by
  unfold symAt
  by_cases hn : n = 0
  · rw [if_pos hn]
  · rw [if_neg hn, findCode_none fun k hk he => hno k hk ⟨by omega, he⟩]

theorem missed_of {zs : List Int} {n c : Nat} (hno : NoneAt zs n c zs.length) (h : 0 < n → Missed zs (n - 1) (c / 2)) : Missed zs n c := by
  by_cases hn : n = 0
  · subst hn; intro m h1 h2; omega
  · have hm := h (by omega)
    have := missed_succ (zs := zs) (n := n - 1) (c := c / 2) (b := c % 2) hm (by omega) (by
      rw [show n - 1 + 1 = n by omega, show 2 * (c / 2) + c % 2 = c by omega]
      exact findCode_none fun k hk he => hno k hk ⟨by omega, he⟩)
    rwa [show n - 1 + 1 = n by omega, show 2 * (c / 2) + c % 2 = c by omega] at this

theorem symGo_dead {zs b : List Int} {p n c : Nat} (hn : n ≤ 15) (h : wt zs ≤ c * 2 ^ (15 - n)) : symGo zs b p (16 - n) n c = .error 8 := by
  rw [show 16 - n = (15 - n) + 1 by omega, symGo, if_pos h]
theorem symGo_short {zs b : List Int} {p n c : Nat} (hn : n ≤ 15) (h : ¬ wt zs ≤ c * 2 ^ (15 - n)) (hs : 8 * b.length ≤ p + n) : symGo zs b p (16 - n) n c = .error 7 := by
  rw [show 16 - n = (15 - n) + 1 by omega, symGo, if_neg h, if_pos hs]
theorem symGo_next {zs b : List Int} {p n c : Nat} (hn : n ≤ 15) (h : ¬ wt zs ≤ c * 2 ^ (15 - n)) (hs : ¬ 8 * b.length ≤ p + n) :
    symGo zs b p (16 - n) n c = symAt zs b p (n + 1) (2 * c + bitAt b (p + n)) := by
  rw [show 16 - n = (15 - n) + 1 by omega, symGo, if_neg h, if_neg hs]
  unfold symAt
  rw [if_neg (by omega), show 16 - (n + 1) = 15 - n by omega]
  cases findCode zs (n + 1) (2 * c + bitAt b (p + n)) <;> rfl

theorem bitsAt_one (b : List Int) (p : Nat) : bitsAt b p 1 = bitAt b p := by simp [bitsAt]

theorem not_live_of {zs : List Int} (hz : lensIn zs) {n c : Nat} (hn : n ≤ 15) (h : Missed zs n c) (hl : ¬ ∃ k, k < zs.length ∧ liveAt zs n c k) : wt zs ≤ c * 2 ^ (15 - n) := by
  apply Classical.byContradiction
  intro hx
  exact hl (live_of_lt hz hn h (by omega))
theorem live_lt' {zs : List Int} (hz : lensIn zs) {n c : Nat} (hl : ∃ k, k < zs.length ∧ liveAt zs n c k) : ¬ wt zs ≤ c * 2 ^ (15 - n) := by
  obtain ⟨k, hk, h⟩ := hl
  have := live_lt hz hk h
  omega
theorem live_succ {zs : List Int} {n c i : Nat} {lv : Bool} (h : lv = true ↔ ∃ k, k < i ∧ liveAt zs n c k) (hi : ¬ liveAt zs n c i) : lv = true ↔ ∃ k, k < i + 1 ∧ liveAt zs n c k := by
  rw [h]
  constructor
  · rintro ⟨k, h1, h2⟩; exact ⟨k, by omega, h2⟩
  · rintro ⟨k, h1, h2⟩
    by_cases e : k = i
    · subst e; exact absurd h2 hi
    · exact ⟨k, by omega, h2⟩
end Wf

namespace Wf
open Go Go.RowKit
theorem wrap64_small {n : Int} (h : -9223372036854775808 ≤ n) (h2 : n < 9223372036854775808) : wrap64 n = n := by
  unfold wrap64; omega
theorem refcode_step {b : List Int} {q n co : Nat} (hn : n ≤ 15) (hco : co < 2 ^ n) :
    wrap64 (wrap64 (2 * (co : Int)) + wrap64 ((bitsAt b q 1 : Nat) : Int)) = ((2 * co + bitAt b q : Nat) : Int) ∧ 2 * co + bitAt b q < 2 ^ (n + 1) ∧ (2 * co + bitAt b q) / 2 = co := by
  have hb2 := bitAt_lt b q
  have h15 : 2 ^ n ≤ 2 ^ 15 := Nat.pow_le_pow_right (by omega) hn
  rw [bitsAt_one, wrap64_small (n := 2 * (co : Int)) (by omega) (by omega), wrap64_small (n := ((bitAt b q : Nat) : Int)) (by omega) (by omega), wrap64_small (by omega) (by omega), Nat.pow_succ]
  omega
end Wf
