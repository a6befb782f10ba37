/- What a dynamic block needs: memory that the call made itself may turn beside the stream. -/
import Derived.Test.YtkdjljnplfempaaWfRead
import Derived.Test.YtkdjljnplfempaaWfInf
import Derived.Test.YtkdjljnplfempaaWfCoded
import Derived.Test.YtkdjljnplfempaaWfOrder
import Derived.Test.YtkdjljnplfempaaWfFixed
import Derived.Deep.LoopGhost
import Derived.StillTailTactics
import Derived.Deep.RegionHeld3
import Derived.Test.YtkdjljnplfempaaWfHuffP
import Derived.WalkKit
import Derived.WalkLawsBesides
import Derived.Lib.Hide
import Derived.Deep.QuietTactic
import Derived.BigQuiet
import Derived.Handy
set_option linter.unusedVariables false
set_option linter.unusedSimpArgs false
set_option linter.unusedSectionVars false
namespace Go.Proofs.Ytkdjljnplfempaa
open Go.RowKit Wf

/-- Only whole numbers in blocks from n on may have turned. -/
def Soft (n p : Nat) (w w' : World) : Prop := Keep (fun k => n ≤ k ∧ Tagged (p + 1) [3] w k) w w'

section
variable {n p : Nat} {w w' w2 : World} {v0 : Value} {b : List Int} {most : Nat} {s : St}
theorem Soft.trans (h : Soft n p w w') (h2 : Soft n p w' w2) : Soft n p w w2 :=
  Keep.trans h h2 fun k hk hN => by
    obtain ⟨hn, hp, cs, t, fz, hc, ht⟩ := hN
    apply Classical.byContradiction
    intro hne
    have := h.block k hk hne
    exact hne ⟨hn, hp, cs, t, fz, this ▸ hc, ht⟩
theorem Soft.ofSet {g : Nat} {cs : Array Value} (hb : Blk w g 3 cs) (hn : n ≤ g) (hp : p < g) (i : Nat) (u : Value) : Soft n p w (w.setCell ⟨g, i, none⟩ u) :=
  Keep.setCell (Keep.refl _ w) (.inl ⟨hn, hp, cs, 3, _, hb, by simp⟩) u
theorem Soft.ofGrown {base k : Nat} {v : Value} {xs : List Value} (ho : w.ownsRow base 3 1 v k xs) (hg : w.grownBy w' v.ownBlock) (hn : n ≤ base) (hp : p < base) : Soft n p w w' :=
  Keep.grown (Keep.refl _ w) hg fun k hk => by
    rcases ho.2 with ⟨rfl, _⟩ | ⟨g, cap, cur, rfl, hbg, hh, _⟩
    · simp [Value.ownBlock] at hk
    · have : g = k := by simpa [Value.ownBlock] using hk
      subst this
      exact .inl ⟨by omega, by omega, cur, 3, _, hh, by simp⟩
theorem Soft.alloc (h : Soft n p w w') (o : Obj) : Soft n p w (w'.alloc o) := Keep.alloc h o
theorem Soft.refl (n p : Nat) (w : World) : Soft n p w w := Keep.refl _ _
theorem Blk.soft {g t : Nat} {cs : Array Value} (h : Blk w g t cs) (hs : Soft n p w w') (ht : t ≠ 3) : Blk w' g t cs :=
  h.keep hs fun ⟨_, _, cs', t', fz, hc, hm⟩ => by
    unfold Blk at h
    rw [h] at hc
    injection hc with hc
    injection hc with _ hc
    simp at hm
    exact ht (hc.trans hm)
theorem In.soft (h : In w p v0 b) (hs : Soft n p w w') : In w' p v0 b := by
  obtain ⟨A, c, h1, h2, h3⟩ := h.sees
  refine ⟨⟨A, c, h1, ?_, h3⟩, h.bytes, h.len⟩
  by_cases hb : b = []
  · subst hb; exact .inl rfl
  · exact h2.keep hs fun g hg hM => by have := h3 hb g hg; have := hM.2.1; omega
theorem Str.soft (h : Str w p v0 b most s) (hs : Soft n p w w') : Str w' p v0 b most s := by
  obtain ⟨vo, h1, h2⟩ := h.blk
  refine ⟨h.inp.soft hs, ⟨vo, Blk.soft h1 hs (by decide), ownsRow_keep h2 hs fun g hg hM => ?_⟩, h.pos, h.out, h.most⟩
  obtain ⟨_, _, cs', t', fz, hc, hm⟩ := hM
  rcases h2.2 with ⟨rfl, _⟩ | ⟨g', cap, cur, rfl, _, hh, _⟩
  · simp [Value.ownBlock] at hg
  · have : g' = g := by simpa [Value.ownBlock] using hg
    subst this
    rw [hh] at hc
    injection hc with hc
    injection hc with _ hc
    rw [← hc] at hm
    exact absurd hm (by decide)
theorem Rd.soft {zs : List Int} {tb sb T : Nat} (h : Rd w p zs tb sb T) (hs : Soft n p w w') : Rd w' p zs tb sb T := by
  obtain ⟨h1, h2, m, h3, es, c, h4, h5⟩ := h
  refine ⟨Blk.soft h1 hs (by decide), Blk.soft h2 hs (by decide), m, Blk.soft h3 hs (by decide), es, c, (hs.block m (lt_of_heap h4) fun hM => ?_).trans h4, h5⟩
  obtain ⟨_, _, cs', t', fz, hc, _⟩ := hM
  rw [h4] at hc
  cases hc
theorem step_soft (h : Wf.Step p TS w w') (hs : Soft w.heap.size p w' w2) : Wf.Step p TS w w2 :=
  Keep.trans h hs fun k hk hM => by have := hM.1; omega
end

theorem ints_range (k : IntKind) (l : List Int) : (List.range l.length).map (fun j => Value.int k (nth l j)) = ints k l := by
  apply List.ext_getElem?
  intro j
  by_cases hj : j < l.length
  · rw [ints_get k l hj]; simp [hj]
  · rw [List.getElem?_eq_none (by simp; omega), List.getElem?_eq_none (by rw [ints_length]; omega)]

def dynEnd (b : List Int) (most lit : Nat) (x : List Int × St) : Except Int St :=
  if 0 < x.1.getD 256 0 then codedP b most (x.1.take (lit + 257)) (x.1.drop (lit + 257)) x.2 else .error 8
def dynRow (b : List Int) (most lit dist : Nat) (x : List Int × St) : Except Int St :=
  if okLens x.1 then (rowS b x.1 (lit + dist + 258) (8 * b.length + 1) [] x.2).bind (dynEnd b most lit) else .error 8

theorem dynS_eq (b : List Int) (most : Nat) (s : St) : dynS b most s =
  (takeS b 5 s).bind fun x => if 29 < x.1 then .error 8 else (takeS b 5 x.2).bind fun y => if 29 < y.1 then .error 8 else (takeS b 4 y.2).bind fun z =>
    (firstS b orderL (z.1 + 4) (List.replicate 19 0) z.2).bind (dynRow b most x.1 y.1) := rfl

theorem firstS_zero (b : List Int) (os : List Nat) (l : List Int) (s : St) : firstS b os 0 l s = .ok (l, s) := by cases os <;> rfl
theorem orderL_drop {i : Nat} (h : i < 19) : orderL.drop i = ordAt i :: orderL.drop (i + 1) := by
  have : i < orderL.length := h
  rw [List.drop_eq_getElem_cons this]
  simp [ordAt, List.getD, this]
theorem orderL_lt {i : Nat} (h : i < 19) : ordAt i < 19 := by
  have : ∀ i, i < 19 → ordAt i < 19 := by decide
  exact this i h
theorem nth_zeros (n k : Nat) : nth (List.replicate n 0) k = 0 := by
  unfold nth
  by_cases h : k < n <;> simp [List.getD, h]
theorem nth_set {l : List Int} {i k : Nat} {v : Int} (h : i < l.length) : nth (l.set i v) k = if k = i then v else nth l k := by
  unfold nth
  by_cases e : k = i
  · subst e; simp [List.getD, h]
  · rw [if_neg e]; simp [List.getD, List.getElem?_set_ne (Ne.symm e)]
end Go.Proofs.Ytkdjljnplfempaa
