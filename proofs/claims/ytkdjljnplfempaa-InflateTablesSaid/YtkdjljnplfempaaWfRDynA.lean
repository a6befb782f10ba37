/- Package ref05: what a dynamic block needs. -/
import Derived.Test.YtkdjljnplfempaaWfRStored
import Derived.Test.YtkdjljnplfempaaWfRefSym
import Derived.Test.YtkdjljnplfempaaWfRefLen
import Derived.Test.YtkdjljnplfempaaWfRefFixed
import Derived.WalkKit
import Derived.WalkLawsBesides
import Derived.Lib.Hide
import Derived.Deep.QuietTactic
import Derived.BigQuiet
import Derived.Deep.LoopGhost
import Derived.StillTailTactics
import Derived.Deep.RegionHeld3
import Derived.Deep.RegionWith
import Derived.Handy
import Derived.Test.YtkdjljnplfempaaWfRCoded
import Derived.Deep.DeepCutAuto
import Derived.Test.YtkdjljnplfempaaWfDynA
set_option linter.unusedVariables false
set_option linter.unusedSimpArgs false
set_option linter.unusedSectionVars false
namespace Go.Proofs.Ytkdjljnplfempaa
open Go.RowKit Wf

section
variable {n p : Nat} {w w' w2 : World} {v0 : Value} {b : List Int} {most : Nat} {X : Except Int St}
theorem RStr.soft (h : RStr w p v0 b most X) (hs : Soft n p w w') : RStr w' p v0 b most X := by
  obtain ⟨t, out, vo, h1, h2, h3⟩ := h.blk
  refine ⟨h.inp.soft hs, ⟨t, out, vo, Blk.soft h1 hs (by decide), ownsRow_keep h2 hs fun g hg hM => ?_, h3⟩, h.pos, h.bad, h.most⟩
  obtain ⟨_, _, cs', t', fz, hc, hm⟩ := hM
  rcases h2.2 with ⟨rfl, _⟩ | ⟨g', cap, cur, rfl, _, hh, _⟩
  · simp [Value.ownBlock] at hg
  · have : g' = g := by simpa [Value.ownBlock] using hg
    subst this
    rw [hh] at hc
    injection hc with hc
    injection hc with _ hc
    rw [← hc] at hm
    exact absurd hm (by decide)
theorem soft_mono {n' : Nat} (h : Soft n p w w') (hn : n' ≤ n) : Soft n' p w w' := Keep.mono h fun k _ hk => ⟨by have := hk.1; omega, hk.2⟩
theorem ints_soft {g : Nat} {l : List Int} (h : Ints w (some ⟨g, 0, none⟩) l) (hs : Soft (g + 1) p w w') : Ints w' (some ⟨g, 0, none⟩) l := by
  obtain ⟨g', o, cs, e, hb, hc⟩ := h
  injection e with e
  injection e with e1 e2
  subst e1 e2
  exact ⟨g, 0, cs, rfl, hb.keep hs fun hM => by have := hM.1; omega, hc⟩
theorem ints_lt {g o : Nat} {l : List Int} (h : Ints w (some ⟨g, o, none⟩) l) : g < w.heap.size := by
  obtain ⟨g', o', cs, e, hb, _⟩ := h
  injection e with e
  injection e with e1 e2
  subst e1
  exact hb.lt
/-- A row of the call's own that holds something: its block. -/
theorem owns_blk {base n c : Nat} {A : Option Addr} {l : List Int} (h : w.ownsRow base 3 1 (.slice A n c) n (ints .i64 l)) (h0 : 0 < n) :
    ∃ g cur, A = some ⟨g, 0, none⟩ ∧ n ≤ c ∧ Blk w g 3 cur ∧ ∀ (j : Nat) (u : Value), (ints .i64 l)[j]? = some u → cur[j]? = some u := by
  rcases h.2 with ⟨hv, hn⟩ | ⟨g, cap, cur, hv, _, hg, hc, _, hs, ht⟩
  · omega
  · injection hv with e1 e2 e3
    subst e1 e3
    refine ⟨g, cur, rfl, hc, hg, fun j u hj => ?_⟩
    rw [← ht, List.getElem?_take] at hj
    split at hj
    · simpa using hj
    · cases hj
theorem ints_of_take {g : Nat} {cur : Array Value} {l : List Int} (hb : Blk w g 3 cur) (hc : ∀ (j : Nat) (u : Value), (ints .i64 l)[j]? = some u → cur[j]? = some u) (k : Nat) : Ints w (some ⟨g, 0, none⟩) (l.take k) :=
  ⟨g, 0, cur, rfl, hb, fun j u hj => by
    rw [ints_take, List.getElem?_take] at hj
    split at hj
    · rw [Nat.zero_add]; exact hc j u hj
    · cases hj⟩
theorem ints_of_drop {g : Nat} {cur : Array Value} {l : List Int} (hb : Blk w g 3 cur) (hc : ∀ (j : Nat) (u : Value), (ints .i64 l)[j]? = some u → cur[j]? = some u) (k : Nat) : Ints w (some ⟨g, k, none⟩) (l.drop k) :=
  ⟨g, k, cur, rfl, hb, fun j u hj => by
    rw [ints_drop, List.getElem?_drop] at hj
    exact hc _ u hj⟩
theorem rstep_soft (h : Wf.Step p RTS w w') (hs : Soft w.heap.size p w' w2) : Wf.Step p RTS w w2 :=
  Keep.trans h hs fun k hk hM => by have := hM.1; omega
end

def rF2 (b : List Int) (most lit dist : Nat) (s : St) : Except Int St :=
  (takeS b 4 s).bind fun z => (firstS b orderL (z.1 + 4) (List.replicate 19 0) z.2).bind (dynRow b most lit dist)
def rF1 (b : List Int) (most lit : Nat) (s : St) : Except Int St :=
  (takeS b 5 s).bind fun y => if 29 < y.1 then .error 8 else rF2 b most lit y.1 y.2
theorem rdynS_eq (b : List Int) (most : Nat) (s : St) : dynS b most s = (takeS b 5 s).bind fun x => if 29 < x.1 then .error 8 else rF1 b most x.1 x.2 := rfl

/-- What is still to be read of the lengths, in the reference's order of tests. -/
def rRow (b fl : List Int) (most lit AL f : Nat) (row : List Int) (s : St) : Except Int St :=
  if AL < row.length then .error 8 else (rowS b fl AL f row s).bind (dynEnd b most lit)

section
variable {b fl row : List Int} {most lit AL f x : Nat} {s : St}
theorem rRow_step (h : row.length < AL) : rRow b fl most lit AL (f + 1) row s =
    (symS fl b s).bind fun y => (repS b row y.1 y.2).bind fun z => rRow b fl most lit AL f (row ++ List.replicate z.1.2 z.1.1) z.2 := by
  unfold rRow
  rw [if_neg (by omega), rowS, if_neg (by omega)]
  cases symS fl b s with
  | error e => rfl
  | ok y =>
    obtain ⟨x, s1⟩ := y
    simp only [Except.bind]
    cases repS b row x s1 with
    | error e => rfl
    | ok z =>
      obtain ⟨⟨v, t⟩, s2⟩ := z
      simp only [List.length_append, List.length_replicate]
      by_cases ho : AL < row.length + t
      · simp only [if_pos ho]
      · simp only [if_neg ho]
theorem rRow_over (h : AL < row.length) : rRow b fl most lit AL f row s = .error 8 := if_pos h
theorem rRow_end (h : row.length = AL) : rRow b fl most lit AL (f + 1) row s = dynEnd b most lit (row, s) := by
  unfold rRow
  rw [if_neg (by omega), rowS, if_pos (by omega)]
  rfl
theorem dynRow_ok (h : okLens fl) (dist : Nat) : dynRow b most lit dist (fl, s) = rRow b fl most lit (lit + dist + 258) (8 * b.length + 1) [] s := by
  unfold dynRow rRow
  rw [if_pos h, if_neg (by simp)]
theorem dynRow_no (h : ¬ okLens fl) (dist : Nat) : dynRow b most lit dist (fl, s) = .error 8 := by
  unfold dynRow
  rw [if_neg h]

/-- How often, and what, a symbol tells; the state behind it. -/
theorem rep16 (h : row ≠ []) {F : List Int → St → Except Int St} : (repS b row 16 s).bind (fun z => F (row ++ List.replicate z.1.2 z.1.1) z.2) =
    (stOf (takeS b 2 s)).bind (F (row ++ List.replicate (3 + valOf (takeS b 2 s)) (nth row (row.length - 1)))) := by
  simp only [repS, if_true, if_neg h]
  cases takeS b 2 s <;> rfl
theorem rep16_nil {F : List Int → St → Except Int St} : (repS b [] 16 s).bind (fun z => F ([] ++ List.replicate z.1.2 z.1.1) z.2) = .error 8 := rfl
theorem rep17 {F : List Int → St → Except Int St} : (repS b row 17 s).bind (fun z => F (row ++ List.replicate z.1.2 z.1.1) z.2) =
    (stOf (takeS b 3 s)).bind (F (row ++ List.replicate (3 + valOf (takeS b 3 s)) 0)) := by
  simp only [repS]
  cases takeS b 3 s <;> rfl
theorem rep18 {F : List Int → St → Except Int St} : (repS b row 18 s).bind (fun z => F (row ++ List.replicate z.1.2 z.1.1) z.2) =
    (stOf (takeS b 7 s)).bind (F (row ++ List.replicate (11 + valOf (takeS b 7 s)) 0)) := by
  simp only [repS]
  cases takeS b 7 s <;> rfl
theorem repOther (h1 : x ≠ 16) (h2 : x ≠ 17) (h3 : x ≠ 18) {F : List Int → St → Except Int St} : (repS b row x s).bind (fun z => F (row ++ List.replicate z.1.2 z.1.1) z.2) =
    F (row ++ List.replicate 1 (x : Int)) s := by
  simp only [repS, if_neg h1, if_neg h2, if_neg h3]
  rfl
theorem stOf_take_pos {n : Nat} {s' : St} (h : stOf (takeS b n s) = .ok s') : s.pos ≤ s'.pos := by
  unfold takeS at h
  split at h
  · cases h; simp
  · cases h
end

end Go.Proofs.Ytkdjljnplfempaa
