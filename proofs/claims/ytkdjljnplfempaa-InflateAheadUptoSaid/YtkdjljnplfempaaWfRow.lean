/- What a slice of bytes that came in reads as, in this proof's own words. -/
import Derived.Test.YtkdjljnplfempaaWfStr
import Derived.ProofKit
import Derived.OpenShut
import Derived.SizedLaws
set_option linter.unusedVariables false
set_option linter.unusedSimpArgs false
set_option linter.unusedSectionVars false
namespace Go.Proofs.Ytkdjljnplfempaa
open Go.RowKit Wf
open Go.ChangeShapes Go.WideShapes Go.ChangeAt

theorem bytes5 : Try.prog.bytesOf 5 = 1 := by kernel_rfl
theorem wf_u8 {n : Int} (h : (Lit.int .u8 n).wf = true) : 0 ≤ n ∧ n < 256 := by
  have := bounds_u8 h
  omega

/-- A slice of bytes that came in. -/
theorem open_bytes {H : Type} {enc : TypeId × Value → H} {W : World} {a : Option Addr} {len cap : Nat} {d : DataW H} {p : List MemPlace}
    (h : DataW.Trod enc Try.prog W 0 (fun _ => true) true 22 (.slice a len cap) d p) :
    ∃ b : List Int, b.length = len ∧ Sees W a (ints .u8 b) ∧ Bytes b ∧ (d = .nil ∧ b = [] ∨ ∃ r, d = .slice (lits .u8 b) (lits .u8 r)) := by
  obtain ⟨fuel, hf⟩ := h
  rcases open_ints Try.underlying22 Try.underlying5 (by kernel_rfl) hf with ⟨hcs, hx⟩ | ⟨x, l, c, zs, hcs, _, hl, hm, hz, hx, hcell, hwz⟩
  · simp [Value.cells] at hcs
    obtain ⟨rfl, rfl, rfl⟩ := hcs
    exact ⟨[], rfl, .inl rfl, by unfold Bytes; simp, .inl ⟨by simpa using congrArg Prod.fst hx, rfl⟩⟩
  · simp [Value.cells] at hcs
    obtain ⟨rfl, rfl, rfl⟩ := hcs
    have hz' : zs.length = cap := by simpa using hz
    refine ⟨zs.take len, by rw [List.length_take]; omega, ?_, fun n hn => wf_u8 (hwz n (List.mem_of_mem_take hn)), .inr ⟨zs.drop len, by simpa using congrArg Prod.fst hx⟩⟩
    by_cases h0 : len = 0
    · subst h0; exact .inl rfl
    · obtain ⟨b, off, rfl, hc⟩ := ints_at hcell (by omega)
      have hlt : b < W.heap.size := by
        have := hc 0 (by omega)
        rcases Nat.lt_or_ge b W.heap.size with h | h
        · exact h
        · simp [World.cell?, Array.getElem?_eq_none h] at this
      refine .inr ⟨b, off, rfl, hlt, fun j u hj => ?_⟩
      have hjl : j < len := by have := (List.getElem?_eq_some_iff.1 hj).1; rw [ints_length, List.length_take] at this; omega
      rw [hc j (by omega), ← hj]
      simp [ints, hjl, List.getD, show j < zs.length by omega]

/-- .. and where it is nil it holds nothing. -/
theorem open_bytes' {H : Type} {enc : TypeId × Value → H} {W : World} {a : Option Addr} {len cap : Nat} {d : DataW H} {p : List MemPlace}
    (h : DataW.Trod enc Try.prog W 0 (fun _ => true) true 22 (.slice a len cap) d p) :
    ∃ b : List Int, b.length = len ∧ Sees W a (ints .u8 b) ∧ Bytes b ∧ (d = .nil ∧ b = [] ∨ ∃ r, d = .slice (lits .u8 b) (lits .u8 r)) ∧ (a = none → b.length = 0 ∧ cap = 0) := by
  obtain ⟨b, h1, h2, h3, h4⟩ := open_bytes h
  refine ⟨b, h1, h2, h3, h4, fun ha => ?_⟩
  subst ha
  obtain ⟨fuel, hf⟩ := h
  rcases open_ints Try.underlying22 Try.underlying5 (by kernel_rfl) hf with ⟨hcs, _⟩ | ⟨x, l, c, zs, hcs, _⟩
  · simp [Value.cells] at hcs
    omega
  · simp [Value.cells] at hcs
end Go.Proofs.Ytkdjljnplfempaa
