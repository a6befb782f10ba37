/- Words for memory: what a slice reads as; which blocks a call may have turned. -/
import Derived.WalkKit
import Derived.Deep.Draws
set_option linter.unusedVariables false
set_option linter.unusedSimpArgs false
set_option linter.unusedSectionVars false
namespace Wf
open Go Go.RowKit

/-- Only blocks of 'M', and new ones, may have turned. -/
structure Keep (M : Nat → Prop) (w w' : World) : Prop where
  os : w'.os = w.os
  tape : w'.tape = w.tape
  output : w'.output = w.output
  size : w.heap.size ≤ w'.heap.size
  block : ∀ k, k < w.heap.size → ¬ M k → w'.heap[k]? = w.heap[k]?

section
variable {M N : Nat → Prop} {w w' w2 : World}

theorem Keep.refl (M : Nat → Prop) (w : World) : Keep M w w := ⟨rfl, rfl, rfl, Nat.le_refl _, fun _ _ _ => rfl⟩
theorem Keep.trans (h : Keep M w w') (h2 : Keep N w' w2) (hm : ∀ k, k < w.heap.size → N k → M k) : Keep M w w2 :=
  ⟨h2.os.trans h.os, h2.tape.trans h.tape, h2.output.trans h.output, Nat.le_trans h.size h2.size,
    fun k hk hn => (h2.block k (Nat.lt_of_lt_of_le hk h.size) (fun hN => hn (hm k hk hN))).trans (h.block k hk hn)⟩
theorem Keep.trans' (h : Keep M w w') (h2 : Keep M w' w2) : Keep M w w2 := h.trans h2 fun _ _ h => h
theorem Keep.mono (h : Keep M w w') (hm : ∀ k, k < w.heap.size → M k → N k) : Keep N w w' :=
  ⟨h.os, h.tape, h.output, h.size, fun k hk hn => h.block k hk fun hM => hn (hm k hk hM)⟩
theorem Keep.of_below (h : Below w.heap.size w w') : Keep M w w' := ⟨h.os, h.tape, h.output, h.size, fun k hk _ => h.block k hk⟩
theorem Keep.below {B : Nat} (h : Keep M w w') (hM : ∀ k, M k → B ≤ k) (hB : B ≤ w.heap.size) : Below B w w' :=
  ⟨h.os, h.tape, h.output, h.size, fun k hk => h.block k (Nat.lt_of_lt_of_le hk hB) fun hm => by have := hM k hm; omega⟩
theorem Keep.toBelow (h : Keep (fun _ => False) w w') : Below w.heap.size w w' := h.below (fun _ h => h.elim) (Nat.le_refl _)
theorem Keep.drew (h : Keep M w w') : Keep M w w'.drew := ⟨h.os, h.tape, h.output, h.size, h.block⟩
theorem Keep.drewN (h : Keep M w w') (n : Nat) : Keep M w (w'.drewN n) := ⟨h.os, h.tape, h.output, h.size, h.block⟩
theorem Keep.ofDrewN {n : Nat} (h : Keep M (w.drewN n) w') : Keep M w w' := ⟨h.os, h.tape, h.output, h.size, h.block⟩
theorem Keep.alloc (h : Keep M w w') (o : Obj) : Keep M w (w'.alloc o) :=
  h.trans (N := M) ⟨rfl, rfl, rfl, by simp, fun k hk _ => Below.heap_alloc _ _ _ hk⟩ fun _ _ h => h
theorem Keep.setCell (h : Keep M w w') {p : Addr} (hp : M p.block ∨ w.heap.size ≤ p.block) (u : Value) : Keep M w (w'.setCell p u) :=
  ⟨h.os, h.tape, h.output, by simpa [World.setCell] using h.size, fun k hk hn => (Below.heap_setCell _ _ _ _ (by
    rintro rfl
    rcases hp with hp | hp
    · exact hn hp
    · omega)).trans (h.block k hk hn)⟩
theorem Keep.grown {row : Option Nat} (h : Keep M w w') (hg : w'.grownBy w2 row) (hr : ∀ k, row = some k → M k ∨ w.heap.size ≤ k) : Keep M w w2 :=
  ⟨hg.os.trans h.os, hg.tape.trans h.tape, hg.output.trans h.output, Nat.le_trans h.size hg.size, fun k hk hn =>
    (hg.block k (Nat.lt_of_lt_of_le hk h.size) (fun e => by
      rcases hr k e.symm with hm | hm
      · exact hn hm
      · omega)).trans (h.block k hk hn)⟩
theorem Keep.step (h : Keep M w w') (hb : Below w'.heap.size w' w2) : Keep M w w2 := h.trans (N := M) (.of_below hb) fun _ _ h => h
theorem Keep.cell (h : Keep M w w') {p : Addr} (hp : p.block < w.heap.size) (hn : ¬ M p.block) : w'.cell? p = w.cell? p := World.cell?_of_block (w := w) (h.block p.block hp hn)
end

/-- Block g is just these cells of this element type; none is frozen. -/
def Blk (w : World) (g : Nat) (t : TypeId) (cs : Array Value) : Prop := w.heap[g]? = some (.cells cs t (0, 0))

section
variable {M : Nat → Prop} {w w' : World} {g : Nat} {t : TypeId} {cs : Array Value}
theorem lt_of_heap {o : Obj} (h : w.heap[g]? = some o) : g < w.heap.size := (Array.getElem?_eq_some_iff.1 h).1
theorem Blk.lt (h : Blk w g t cs) : g < w.heap.size := lt_of_heap h
theorem Blk.cell (h : Blk w g t cs) (i : Nat) : w.cell? ⟨g, i, none⟩ = cs[i]? := cell_of_row w g i cs t (0, 0) h
theorem Blk.frozen (h : Blk w g t cs) (i : Nat) : w.frozen? ⟨g, i, none⟩ = false := by
  unfold Blk at h
  simp [World.frozen?, h]
theorem Blk.new (w : World) (t : TypeId) (cs : Array Value) : Blk (w.alloc (.cells cs t)) w.heap.size t cs := heap_alloc_new w _
theorem Blk.drew (h : Blk w g t cs) : Blk w.drew g t cs := h
theorem Blk.drewN (h : Blk w g t cs) (n : Nat) : Blk (w.drewN n) g t cs := h
theorem Blk.alloc (h : Blk w g t cs) (o : Obj) : Blk (w.alloc o) g t cs := (Below.heap_alloc w o g h.lt).trans h
theorem Blk.set_ (h : Blk w g t cs) (i : Nat) (u : Value) : Blk (w.setCell ⟨g, i, none⟩ u) g t (cs.setIfInBounds i u) := by
  unfold Blk at h ⊢
  simp [World.setCell, Array.getElem?_modify, h]
theorem Blk.far (h : Blk w g t cs) {p : Addr} (hp : g ≠ p.block) (u : Value) : Blk (w.setCell p u) g t cs := (Below.heap_setCell w p u g hp).trans h
theorem Blk.keep (h : Blk w g t cs) (hk : Keep M w w') (hn : ¬ M g) : Blk w' g t cs := (hk.block g h.lt hn).trans h
theorem Blk.below (h : Blk w g t cs) (hb : Below w.heap.size w w') : Blk w' g t cs := (hb.block g h.lt).trans h
theorem Blk.grown {row : Option Nat} (h : Blk w g t cs) (hb : w.grownBy w' row) (hg : some g ≠ row) : Blk w' g t cs := (hb.block g h.lt hg).trans h
theorem Blk.ne {g' : Nat} {t' : TypeId} {cs' : Array Value} (h : Blk w g t cs) (h' : Blk w g' t' cs') (hne : t ≠ t') : g ≠ g' := by
  rintro rfl
  unfold Blk at h h'
  rw [h] at h'
  injection h' with h'
  injection h' with _ ht
  exact hne ht
theorem ownsRow_ne {base : Nat} {e : TypeId} {size n : Nat} {v : Value} {xs : List Value} (h : w.ownsRow base e size v n xs) (hg : Blk w g t cs) (hne : e ≠ t) : v.ownBlock ≠ some g := by
  rcases h.2 with ⟨rfl, _⟩ | ⟨g', cap, cur, rfl, _, hh, _⟩
  · simp [Value.ownBlock]
  · intro he
    have : g' = g := by simpa [Value.ownBlock] using he
    subst this
    exact Blk.ne (t := e) hh hg hne rfl
theorem ownsRow_keep {base : Nat} {e : TypeId} {size n : Nat} {v : Value} {xs : List Value} (h : w.ownsRow base e size v n xs) (hk : Keep M w w') (hn : ∀ g, v.ownBlock = some g → ¬ M g) : w'.ownsRow base e size v n xs := by
  refine ⟨h.1, ?_⟩
  rcases h.2 with hv | ⟨g, cap, cur, rfl, hb, hg, rest⟩
  · exact .inl hv
  · exact .inr ⟨g, cap, cur, rfl, hb, (hk.block g (lt_of_heap hg) (hn g rfl)).trans hg, rest⟩
end

theorem _root_.Go.World.ownsRow.isSlice {w : World} {base : Nat} {e : TypeId} {size n : Nat} {v : Value} {xs : List Value} (h : w.ownsRow base e size v n xs) : ∃ A c, v = .slice A n c := by
  rcases h.2 with ⟨rfl, rfl⟩ | ⟨g, cap, cur, rfl, _⟩
  · exact ⟨_, _, rfl⟩
  · exact ⟨_, _, rfl⟩

/-- The slice whose address is A reads as these cells. -/
def Sees (w : World) (A : Option Addr) (xs : List Value) : Prop :=
  xs = [] ∨ ∃ b o, A = some ⟨b, o, none⟩ ∧ b < w.heap.size ∧ ∀ j u, xs[j]? = some u → w.cell? ⟨b, o + j, none⟩ = some u

/-- The block that a slice lies in. -/
def inBlock (A : Option Addr) : Option Nat := A.map (·.block)

section
variable {M : Nat → Prop} {w w' : World} {A : Option Addr} {xs : List Value}
theorem Sees.nil (w : World) (A : Option Addr) : Sees w A [] := .inl rfl
theorem Sees.at_ (h : Sees w A xs) {k : Nat} (hk : k < xs.length) : ∃ b o, A = some ⟨b, o, none⟩ ∧ b < w.heap.size ∧ ∀ j u, xs[j]? = some u → w.cell? ⟨b, o + j, none⟩ = some u := by
  rcases h with rfl | h
  · simp at hk
  · exact h
theorem Sees.keep (h : Sees w A xs) (hk : Keep M w w') (hn : ∀ g, inBlock A = some g → ¬ M g) : Sees w' A xs := by
  rcases h with h | ⟨b, o, rfl, hb, hc⟩
  · exact .inl h
  · exact .inr ⟨b, o, rfl, Nat.lt_of_lt_of_le hb hk.size, fun j u hu => (hk.cell (p := ⟨b, o + j, none⟩) hb (hn b rfl)).trans (hc j u hu)⟩
theorem Sees.below (h : Sees w A xs) (hb : Below w.heap.size w w') : Sees w' A xs := h.keep (M := fun _ => False) (.of_below hb) fun _ _ h => h
theorem Sees.drewN (h : Sees w A xs) (n : Nat) : Sees (w.drewN n) A xs := h
theorem Sees.drew (h : Sees w A xs) : Sees w.drew A xs := h
theorem Sees.ofOwns {base : Nat} {e : TypeId} {n c : Nat} (h : w.ownsRow base e 1 (.slice A n c) n xs) : Sees w A xs := by
  rcases h.2 with ⟨hv, rfl⟩ | ⟨g, cap, cur, hv, hb, hg, rest⟩
  · exact .inl (List.eq_nil_of_length_eq_zero (by simpa using h.1))
  · injection hv with hA
    subst hA
    refine .inr ⟨g, 0, rfl, lt_of_heap hg, fun j u hu => ?_⟩
    have := h.cells (g := g) rfl j u hu
    rw [show (⟨g, 0 + j, none⟩ : Addr) = (⟨g, 0, none⟩ : Addr).add j from by unfold Addr.add; split <;> simp_all]
    exact this
theorem Sees.ofBlk {g : Nat} {t : TypeId} {cs : Array Value} (h : Blk w g t cs) : Sees w (some ⟨g, 0, none⟩) cs.toList := by
  refine .inr ⟨g, 0, rfl, h.lt, fun j u hu => ?_⟩
  rw [Nat.zero_add, h.cell]
  simpa using hu
end

/-- The number at a place; 0 behind the end. -/
def nth (zs : List Int) (j : Nat) : Int := zs.getD j 0
theorem nth_get (zs : List Int) {j : Nat} (h : j < zs.length) : nth zs j = zs[j] := by simp [nth, List.getD, h]

/-- Whole numbers of a kind as cells. -/
def ints (k : IntKind) (zs : List Int) : List Value := zs.map (Value.int k)

theorem ints_length (k : IntKind) (zs : List Int) : (ints k zs).length = zs.length := by simp [ints]
theorem ints_get (k : IntKind) (zs : List Int) {j : Nat} (h : j < zs.length) : (ints k zs)[j]? = some (.int k (nth zs j)) := by
  simp [ints, h, nth, List.getD]

theorem Sees.int {w : World} {A : Option Addr} {k : IntKind} {zs : List Int} (h : Sees w A (ints k zs)) {j : Nat} (hj : j < zs.length) :
    ∃ b o, A = some ⟨b, o, none⟩ ∧ b < w.heap.size ∧ ∀ i, i < zs.length → w.cell? ⟨b, o + i, none⟩ = some (.int k (nth zs i)) := by
  obtain ⟨b, o, hA, hb, hc⟩ := h.at_ (k := j) (by rw [ints_length]; exact hj)
  exact ⟨b, o, hA, hb, fun i hi => hc i _ (ints_get k zs hi)⟩

theorem addr_add (b o j : Nat) : (⟨b, o, none⟩ : Addr).add j = ⟨b, o + j, none⟩ := by unfold Addr.add; split <;> simp_all

end Wf

namespace Wf
open Go Go.RowKit

/-- Blocks from p on whose element type is one of these. -/
def Tagged (p : Nat) (ts : List TypeId) (w : World) (k : Nat) : Prop := p ≤ k ∧ ∃ cs t fz, w.heap[k]? = some (.cells cs t fz) ∧ t ∈ ts

/-- Only blocks from p on of these element types, and new ones, may have turned. -/
def Step (p : Nat) (ts : List TypeId) (w w' : World) : Prop := Keep (Tagged p ts w) w w'

section
variable {p : Nat} {ts : List TypeId} {w w' w2 : World}
theorem Step.refl (p : Nat) (ts : List TypeId) (w : World) : Step p ts w w := Keep.refl _ _
theorem Step.trans (h : Step p ts w w') (h2 : Step p ts w' w2) : Step p ts w w2 :=
  Keep.trans h h2 fun k hk hN => by
    obtain ⟨hp, cs, t, fz, hc, ht⟩ := hN
    apply Classical.byContradiction
    intro hn
    have := h.block k hk hn
    exact hn ⟨hp, cs, t, fz, this ▸ hc, ht⟩
theorem Step.ofBelow (h : Below w.heap.size w w') : Step p ts w w' := Keep.of_below h
theorem Step.ofKeep (h : Keep (fun _ => False) w w') : Step p ts w w' := Keep.of_below h.toBelow
theorem Step.drew (h : Step p ts w w') : Step p ts w w'.drew := Keep.drew h
theorem Step.drewN (h : Step p ts w w') (n : Nat) : Step p ts w (w'.drewN n) := Keep.drewN h n
theorem Step.alloc (h : Step p ts w w') (o : Obj) : Step p ts w (w'.alloc o) := Keep.alloc h o
theorem Step.size (h : Step p ts w w') : w.heap.size ≤ w'.heap.size := Keep.size h
theorem Step.below (h : Step p ts w w') (hp : p ≤ w.heap.size) : Below p w w' := Keep.below h (fun _ h => h.1) hp
theorem Step.setCell {g : Nat} {t : TypeId} {cs : Array Value} (h : Step p ts w w') (hg : Blk w' g t cs) (hp : p ≤ g) (ht : t ∈ ts) (i : Nat) (u : Value) : Step p ts w (w'.setCell ⟨g, i, none⟩ u) :=
  h.trans (Keep.setCell (Keep.refl _ w') (.inl ⟨hp, cs, t, _, hg, ht⟩) u)
theorem Step.grown {base : Nat} {e : TypeId} {size n : Nat} {v : Value} {xs : List Value} (h : Step p ts w w') (hg : w'.grownBy w2 v.ownBlock) (ho : w'.ownsRow base e size v n xs) (hb : p ≤ base) (he : e ∈ ts) : Step p ts w w2 :=
  h.trans (Keep.grown (Keep.refl _ w') hg fun k hk => by
    rcases ho.2 with ⟨rfl, _⟩ | ⟨g, cap, cur, rfl, hbg, hh, _⟩
    · simp [Value.ownBlock] at hk
    · have : g = k := by simpa [Value.ownBlock] using hk
      subst this
      exact .inl ⟨by omega, cur, e, _, hh, he⟩)
theorem Blk.step {g : Nat} {t : TypeId} {cs : Array Value} (h : Blk w g t cs) (hs : Step p ts w w') (hn : g < p ∨ t ∉ ts) : Blk w' g t cs :=
  h.keep hs fun ⟨hp, cs', t', fz, hc, ht⟩ => by
    rcases hn with hn | hn
    · omega
    · unfold Blk at h
      rw [h] at hc
      injection hc with hc
      injection hc with _ hc
      exact hn (hc ▸ ht)
theorem Sees.step {A : Option Addr} {xs : List Value} (h : Sees w A xs) (hs : Step p ts w w') (hA : ∀ g, inBlock A = some g → g < p) : Sees w' A xs :=
  h.keep hs fun g hg hM => by have := hA g hg; have := hM.1; omega
theorem ownsRow_step {base : Nat} {e : TypeId} {size n : Nat} {v : Value} {xs : List Value} (h : w.ownsRow base e size v n xs) (hs : Step p ts w w') (he : e ∉ ts) : w'.ownsRow base e size v n xs :=
  ownsRow_keep h hs fun g hg hM => by
    rcases h.2 with ⟨rfl, _⟩ | ⟨g', cap, cur, rfl, hbg, hh, _⟩
    · simp [Value.ownBlock] at hg
    · have : g' = g := by simpa [Value.ownBlock] using hg
      subst this
      obtain ⟨_, cs', t', fz, hc, ht⟩ := hM
      rw [hh] at hc
      injection hc with hc
      injection hc with _ hc
      exact he (hc ▸ ht)
end
end Wf

namespace Wf
open Go Go.RowKit
theorem ownsRow_drewN {w : World} {base : Nat} {e : TypeId} {size n : Nat} {v : Value} {xs : List Value} (h : w.ownsRow base e size v n xs) (k : Nat) : (w.drewN k).ownsRow base e size v n xs := h
theorem ownsRow_drew {w : World} {base : Nat} {e : TypeId} {size n : Nat} {v : Value} {xs : List Value} (h : w.ownsRow base e size v n xs) : w.drew.ownsRow base e size v n xs := h
/-- 'append(s, x)' of one element onto a row of the call's own. -/
theorem wpList_push {P : Program} {ops : Array Oper} {rest : List Oper} {o : Oper} {a : Act} {Q : Exit → Act → World → Prop} {w : World} (hgd : o.guard = none) (s x : Operand) (t : TypeId)
    (ho : o.op = .call { callee := .builtin .append, args := #[s, x], argTypes := #[t, t] })
    (base : Nat) (e : TypeId) (z : Value) (bytes : Nat) (ht : P.underlying t = some (.slice e)) (hinfo : (P.info? e).map (fun i => (i.zero, i.size, i.bytes)) = some (some z, 1, bytes)) (hzs : z.cells.size = 1)
    (v : Value) (n : Nat) (xs : List Value) (hs : a.eval s = v) (hown : w.ownsRow base e 1 v n xs) (u : Value) (hu : u.oneCell' = true)
    (hx : a.eval x = .slice (some ⟨w.heap.size, 0, none⟩) 1 1) (hbytes : (n + 1) * bytes ≤ 140737488355328) (h63 : n + 1 ≤ maxLen) (hbase : base ≤ w.heap.size)
    (h : ∀ g cap' w', w'.ownsRow base e 1 (.slice (some ⟨g, 0, none⟩) (n + 1) cap') (n + 1) (xs ++ [u]) → (w.alloc (.cells #[u] e)).grownBy w' v.ownBlock →
      wpList P ops Q rest (a.put o.dst (.slice (some ⟨g, 0, none⟩) (n + 1) cap')) w') : wpList P ops Q (o :: rest) a (w.alloc (.cells #[u] e)) := by
  obtain ⟨i, hi, hz, hsz, hb⟩ := info_parts hinfo
  refine wpList_append_own _ hgd s x t ho base e i z 1 bytes ht hi hz hsz hb hzs (by decide) v n xs hs (hown.alloc _) ⟨w.heap.size, 0, none⟩ 1 1 [u] hx rfl ?_ ?_ h63 hbytes (by simp; omega) ?_
  · intro j u' hj
    match j, hj with
    | 0, hj =>
      simp at hj
      subst hj
      rw [addr_add]
      exact (Blk.new w e #[u]).cell 0
  · intro u' hu'
    simp at hu'
    subst hu'
    exact hu
  · intro v' w' hown' hg _
    rcases hown'.2 with ⟨_, h0⟩ | ⟨g, cap', _, rfl, _⟩
    · omega
    · exact h g cap' w' hown' hg
end Wf

namespace Wf
open Go Go.RowKit
/-- Cells, told place by place. -/
def arr (n : Nat) (f : Nat → Value) : Array Value := Array.ofFn (n := n) fun k => f k
theorem arr_size (n : Nat) (f : Nat → Value) : (arr n f).size = n := by simp [arr]
theorem arr_get {n : Nat} {f : Nat → Value} {k : Nat} (h : k < n) : (arr n f)[k]? = some (f k) := by simp [arr, h]
theorem arr_congr {n : Nat} {f g : Nat → Value} (h : ∀ k, k < n → f k = g k) : arr n f = arr n g := by
  unfold arr
  congr 1
  funext k
  exact h k k.isLt
theorem arr_ext {n : Nat} {f : Nat → Value} {a : Array Value} (hs : a.size = n) (h : ∀ k, k < n → a[k]? = some (f k)) : a = arr n f := by
  apply Array.ext_getElem?
  intro k
  by_cases hk : k < n
  · rw [h k hk, arr_get hk]
  · rw [Array.getElem?_eq_none (by omega), Array.getElem?_eq_none (by rw [arr_size]; omega)]
theorem arr_set {n : Nat} {f : Nat → Value} {i : Nat} {v : Value} : (arr n f).setIfInBounds i v = arr n fun k => if k = i then v else f k := by
  refine arr_ext (by simp [arr_size]) fun k hk => ?_
  by_cases h : k = i
  · subst h; simp [arr_size, hk]
  · rw [Array.getElem?_setIfInBounds_ne (fun e => h e.symm), arr_get hk, if_neg h]

theorem made_arr (z : Value) (n : Nat) : (madeCells #[z] n).toList.toArray = arr n fun _ => z := by
  refine arr_ext (by simp [size_madeCells]) fun k hk => ?_
  rw [toList_madeCells_one]
  simp [hk]

theorem made_arrN (z : Array Value) (n : Nat) : (madeCells z n).toList.toArray = arr n fun k => z[k % z.size]! := by
  refine arr_ext (by simp [size_madeCells]) fun k hk => ?_
  simp [madeCells, hk]

/-- A slice of the call's own that is just as long as its block. -/
theorem Blk.ofFull {w : World} {base : Nat} {e : TypeId} {size n g : Nat} {xs : List Value} (h : w.ownsRow base e size (.slice (some ⟨g, 0, none⟩) n n) n xs) : Blk w g e xs.toArray := by
  rcases h.2 with ⟨hv, _⟩ | ⟨g', cap, cur, hv, _, hg, _, _, hs, ht⟩
  · cases hv
  · injection hv with hA _ hc
    injection hA with hA
    injection hA with hA
    subst hA hc
    have e1 : cur.toList = xs := by rw [← ht, List.take_of_length_le (by simp [hs])]
    unfold Blk
    rw [hg, ← e1]
theorem Blk.owns {w : World} {e : TypeId} {g n : Nat} {f : Nat → Value} (h : Blk w g e (arr n f)) {base : Nat} (hb : base ≤ g) (hn : n ≤ maxLen) : w.ownsRow base e 1 (.slice (some ⟨g, 0, none⟩) n n) n ((List.range n).map f) := by
  refine ⟨by simp, .inr ⟨g, n, arr n f, rfl, hb, h, Nat.le_refl _, hn, by simp [arr_size], ?_⟩⟩
  rw [Nat.mul_one, List.take_of_length_le (by simp [arr_size])]
  apply List.ext_getElem?
  intro k
  by_cases hk : k < n
  · rw [Array.getElem?_toList, arr_get hk]; simp [hk]
  · rw [List.getElem?_eq_none (by simp [arr_size]; omega), List.getElem?_eq_none (by simp; omega)]
theorem Sees.ofArr {w : World} {e : TypeId} {g n : Nat} {f : Nat → Value} (h : Blk w g e (arr n f)) : Sees w (some ⟨g, 0, none⟩) ((List.range n).map f) := by
  refine .inr ⟨g, 0, rfl, h.lt, fun j u hu => ?_⟩
  rw [Nat.zero_add, h.cell]
  have hj : j < n := by
    have := (List.getElem?_eq_some_iff.1 hu).1
    simpa using this
  rw [arr_get hj]
  simpa [hj] using hu
end Wf
