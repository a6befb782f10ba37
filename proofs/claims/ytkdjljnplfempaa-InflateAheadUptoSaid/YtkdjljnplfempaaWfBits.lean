/- Bits of bytes, in plain Lean: what the bits of a list of bytes are, read from a place on. -/
import Derived.Test.YtkdjljnplfempaaWfMem
set_option linter.unusedVariables false
set_option linter.unusedSimpArgs false
set_option linter.unusedSectionVars false
namespace Wf
open Go

def byteAt (b : List Int) (i : Nat) : Nat := (b.getD i 0).toNat
def bitAt (b : List Int) (i : Nat) : Nat := byteAt b (i / 8) / 2 ^ (i % 8) % 2
/-- 'n' bits from the place 'at' on, the lowest one first. -/
def bitsAt (b : List Int) (pos : Nat) : Nat → Nat
  | 0 => 0
  | n + 1 => bitsAt b pos n + bitAt b (pos + n) * 2 ^ n

theorem bitAt_lt (b : List Int) (i : Nat) : bitAt b i < 2 := Nat.mod_lt _ (by omega)

theorem bitsAt_lt (b : List Int) (pos n : Nat) : bitsAt b pos n < 2 ^ n := by
  induction n with
  | zero => simp [bitsAt]
  | succ n ih =>
    have := bitAt_lt b (pos + n)
    simp only [bitsAt, Nat.pow_succ]
    have h : bitAt b (pos + n) * 2 ^ n ≤ 1 * 2 ^ n := Nat.mul_le_mul_right _ (by omega)
    omega

def Bytes (b : List Int) : Prop := ∀ x ∈ b, 0 ≤ x ∧ x < 256

theorem Bytes.getD {b : List Int} (h : Bytes b) (i : Nat) : 0 ≤ b.getD i 0 ∧ b.getD i 0 < 256 := by
  by_cases hi : i < b.length
  · have : b.getD i 0 = b[i] := by simp [List.getD, hi]
    rw [this]
    exact h _ (List.getElem_mem hi)
  · simp [List.getD, hi]

theorem pow_le_64 {n : Nat} (h : n ≤ 64) : 2 ^ n ≤ 18446744073709551616 := by
  have := Nat.pow_le_pow_right (n := 2) (by omega) h
  simpa using this

theorem and1_step {b : List Int} (hb : Bytes b) (i : Nat) (k : Nat) :
    bits .and .u8 (nth b i / 2 ^ k) 1 = ((byteAt b i / 2 ^ k % 2 : Nat) : Int) := by
  have h := hb.getD i
  have e : nth b i / 2 ^ k = ((byteAt b i / 2 ^ k : Nat) : Int) := by
    unfold byteAt nth
    rw [Int.natCast_ediv, Int.toNat_of_nonneg h.1, Int.natCast_pow]
    rfl
  have hle : byteAt b i / 2 ^ k ≤ byteAt b i := Nat.div_le_self _ _
  have hlt : byteAt b i < 256 := by unfold byteAt; omega
  rw [e]
  have := u8_and_nat (byteAt b i / 2 ^ k) 1 (by omega) (by omega)
  simp only [Int.natCast_one] at this
  rw [this, Nat.and_one_is_mod]

theorem wrap_u64_small {n : Nat} (h : n < 18446744073709551616) : IntKind.u64.wrap (n : Int) = (n : Int) := by
  simp [IntKind.wrap, IntKind.bits, IntKind.signed]
  omega

theorem or_step {b : List Int} (hb : Bytes b) (p j : Nat) (hj : j < 64) :
    bits .or .u64 ((bitsAt b p j : Nat) : Int)
      (IntKind.u64.wrap (IntKind.u64.wrap (bits .and .u8 (nth b ((p + j) / 8) / 2 ^ ((p + j) % 8)) 1) * 2 ^ j)) = ((bitsAt b p (j + 1) : Nat) : Int) := by
  rw [and1_step hb]
  have hbit : byteAt b ((p + j) / 8) / 2 ^ ((p + j) % 8) % 2 = bitAt b (p + j) := rfl
  rw [hbit]
  have h2 := bitAt_lt b (p + j)
  have hl := bitsAt_lt b p j
  have hp := pow_le_64 (n := j + 1) (by omega)
  rw [Nat.pow_succ] at hp
  rw [wrap_u64_small (by omega)]
  have hm : bitAt b (p + j) * 2 ^ j ≤ 1 * 2 ^ j := Nat.mul_le_mul_right _ (by omega)
  have e : ((bitAt b (p + j) : Nat) : Int) * 2 ^ j = ((bitAt b (p + j) * 2 ^ j : Nat) : Int) := by
    rw [Int.natCast_mul, Int.natCast_pow]; rfl
  have hpos : 0 < 2 ^ j := Nat.pow_pos (by omega)
  rw [e, wrap_u64_small (by omega), u64_or_nat _ _ (by omega) (by omega)]
  congr 1
  simp only [bitsAt]
  rw [Nat.or_comm, nat_join j _ _ (Nat.mul_mod_left _ _) hl, Nat.add_comm]


theorem sym_or {b : List Int} (hb : Bytes b) (q co : Nat) (hco : co < 32768) :
    bits .or .u64 (IntKind.u64.wrap ((co : Int) * 2)) (IntKind.u64.wrap (bits .and .u8 (nth b (q / 8) / 2 ^ (q % 8)) 1)) = ((2 * co + bitAt b q : Nat) : Int) := by
  rw [and1_step hb]
  have hbit : byteAt b (q / 8) / 2 ^ (q % 8) % 2 = bitAt b q := rfl
  have h2 := bitAt_lt b q
  rw [hbit, wrap_u64_small (by omega), show (co : Int) * 2 = ((co * 2 : Nat) : Int) by omega, wrap_u64_small (by omega), u64_or_nat _ _ (by omega) (by omega)]
  congr 1
  have := nat_join 1 (co * 2) (bitAt b q) (by omega) (by omega)
  omega
end Wf
