/- The stream of package inflate: what it is in memory; its small methods. -/
import Derived.Test.YtkdjljnplfempaaWfRead
import Derived.Test.YtkdjljnplfempaaWfInf
import Derived.WalkKit
import Derived.WalkLawsBesides
import Derived.Lib.Hide
import Derived.Deep.QuietTactic
import Derived.BigQuiet
import Derived.Handy
set_option linter.unusedVariables false
set_option linter.unusedSimpArgs false
set_option linter.unusedSectionVars false
namespace Go.Proofs.Ytkdjljnplfempaa
open Go.RowKit Wf

theorem info5 : (Try.prog.info? 5).map (fun i => (i.zero, i.size, i.bytes)) = some (some (.int .u8 0), 1, 1) := by kernel_rfl

/-- How a stream is given up. -/
def Wrong (k : Int) (e : Ending) : Prop := e = .panicked [{ v := .iface 62 (.agg #[.int .i64 k]), recovered := false }]

/-- The bytes that are read lie below block p. -/
structure In (w : World) (p : Nat) (v0 : Value) (b : List Int) : Prop where
  sees : ∃ A c, v0 = .slice A b.length c ∧ Sees w A (ints .u8 b) ∧ (b ≠ [] → ∀ g, inBlock A = some g → g < p)
  bytes : Bytes b
  len : b.length ≤ 140737488351232

def TS : List TypeId := [66, 5]

/-- Block p is a stream that stands at s. -/
structure Str (w : World) (p : Nat) (v0 : Value) (b : List Int) (most : Nat) (s : St) : Prop where
  inp : In w p v0 b
  blk : ∃ vo, Blk w p 66 #[v0, .int .i64 s.pos, vo, .int .i64 most] ∧ w.ownsRow (p + 1) 5 1 vo s.out.length (ints .u8 s.out)
  pos : s.pos ≤ 8 * b.length
  out : s.out.length ≤ most
  most : most ≤ 65536

/-- The block of a slice that holds something is there. -/
theorem sees_lt {w : World} {A : Option Addr} {b : List Int} (h : Sees w A (ints .u8 b)) (hb : b ≠ []) : ∀ g, inBlock A = some g → g < w.heap.size := fun g hg => by
  obtain ⟨g', o, rfl, hl, _⟩ := h.int (j := 0) (List.length_pos_iff.2 hb)
  cases hg
  exact hl

theorem In.step {w w' : World} {p : Nat} {v0 : Value} {b : List Int} {ts : List TypeId} (h : In w p v0 b) (hs : Wf.Step p ts w w') : In w' p v0 b := by
  obtain ⟨A, c, h1, h2, h3⟩ := h.sees
  refine ⟨⟨A, c, h1, ?_, h3⟩, h.bytes, h.len⟩
  by_cases hb : b = []
  · subst hb; exact .inl rfl
  · exact h2.step hs (h3 hb)

theorem Str.drewN {w : World} {p : Nat} {v0 : Value} {b : List Int} {most : Nat} {s : St} (h : Str w p v0 b most s) (n : Nat) : Str (w.drewN n) p v0 b most s :=
  ⟨⟨h.inp.sees, h.inp.bytes, h.inp.len⟩, h.blk, h.pos, h.out, h.most⟩

set_option maxHeartbeats 400000 in
theorem need_ok (w : World) : Calls Try.prog 85 #[.int .i64 0] w fun e w' => e = .returned (.tuple #[]) ∧ w = w' := by
  go_enter Try.func85, Try.ntmps85
  go_wp2
  go_end0
  exact ⟨rfl, rfl⟩

set_option maxHeartbeats 400000 in
theorem need_bad (n : Int) (hn : (n != 0) = true) (w : World) : Calls Try.prog 85 #[.int .i64 n] w fun e w' => Wrong n e ∧ w = w' := by
  go_enter Try.func85, Try.ntmps85
  go_wp2
  exact ⟨rfl, ⟨rfl, rfl⟩⟩

set_option maxHeartbeats 400000 in
theorem must_ok (w : World) : Calls Try.prog 65 #[.bool true] w fun e w' => e = .returned (.tuple #[]) ∧ w = w' := by
  go_enter Try.func65, Try.ntmps65
  go_wp2
  go_end0
  exact ⟨rfl, rfl⟩

set_option maxHeartbeats 400000 in
theorem must_bad (w : World) : Calls Try.prog 65 #[.bool false] w fun e w' => Wrong 8 e ∧ w = w' := by
  go_enter Try.func65, Try.ntmps65
  go_wp2_with (go_at_call 85; refine (need_bad _ rfl _).mono ?_; rintro e w' ⟨rfl, rfl⟩)
  exact ⟨rfl, ⟨rfl, rfl⟩⟩

/-- What a step that may give up leaves. -/
def Post {α : Type} (w : World) (p : Nat) (v0 : Value) (b : List Int) (most : Nat) (ret : α → Value) (r : Except Int (α × St)) (e : Ending) (w' : World) : Prop :=
  Wf.Step p TS w w' ∧ match r with
  | .ok (a, s) => e = .returned (ret a) ∧ Str w' p v0 b most s
  | .error k => Wrong k e

def Post0 (w : World) (p : Nat) (v0 : Value) (b : List Int) (most : Nat) (r : Except Int St) (e : Ending) (w' : World) : Prop :=
  Wf.Step p TS w w' ∧ match r with
  | .ok s => e = .returned (.tuple #[]) ∧ Str w' p v0 b most s
  | .error k => Wrong k e

/-- A stream whose place was written. -/
theorem Str.seek {w : World} {p : Nat} {v0 : Value} {b : List Int} {most : Nat} {s : St} {vo : Value} (h : Str w p v0 b most s)
    (hb : Blk w p 66 #[v0, .int .i64 s.pos, vo, .int .i64 most]) (ho : w.ownsRow (p + 1) 5 1 vo s.out.length (ints .u8 s.out)) (n : Nat) (hn : n ≤ 8 * b.length) {m : Int} (hm : m = n) :
    Str (w.setCell ⟨p, 1, none⟩ (.int .i64 m)) p v0 b most ⟨n, s.out⟩ ∧ Wf.Step p TS w (w.setCell ⟨p, 1, none⟩ (.int .i64 m)) := by
  subst hm
  have hs : Wf.Step p TS w (w.setCell ⟨p, 1, none⟩ (.int .i64 n)) := (Wf.Step.refl p TS w).setCell hb (Nat.le_refl _) (by simp [TS]) 1 _
  refine ⟨⟨h.inp.step hs, ⟨vo, by simpa using hb.set_ 1 (.int .i64 n), ?_⟩, hn, h.out, h.most⟩, hs⟩
  refine ownsRow_keep (M := fun k => k = p) ho (Keep.setCell (M := fun k => k = p) (Keep.refl _ w) (.inl rfl) _) fun g hg e => ?_
  subst e
  exact ownsRow_ne ho hb (by decide) hg

set_option maxHeartbeats 800000 in
theorem bits_calls (w : World) (p : Nat) (v0 : Value) (b : List Int) (most : Nat) (s : St) (n : Nat) (h : Str w p v0 b most s) (hn : n ≤ 16) :
    Calls Try.prog 61 #[.pointer (some ⟨p, 0, none⟩), .int .i64 n] w (Post w p v0 b most (fun k : Nat => .int .i64 k) (takeS b n s)) := by
  obtain ⟨vo, hb, ho⟩ := h.blk
  obtain ⟨A, c, rfl, hA, hAp⟩ := h.inp.sees
  have hlen := h.inp.len
  have hpos := h.pos
  have c0 := hb.cell 0
  have c1 := hb.cell 1
  have f1 := hb.frozen 1
  simp at c0 c1
  by_cases hk : s.pos + n ≤ 8 * b.length
  · have hlt := bitsAt_lt b s.pos n
    have hpw : 2 ^ n ≤ 2 ^ 16 := Nat.pow_le_pow_right (by omega) hn
    have hlt2 : bitsAt b s.pos n < 65536 := by omega
    clear hlt hpw
    go_enter Try.func61, Try.ntmps61
    go_wp2
    go_quiet ((go_at_call 84; exact Calls.quiet_of (read_ok A c s.pos n b _ (hA.drewN _) h.inp.bytes (by omega) hlen hk)))
    go_wp2_with (go_at_call 85; refine (need_ok _).mono ?_; rintro e w' ⟨rfl, rfl⟩)
    go_ret
    obtain ⟨h1, h2⟩ := (h.drewN nq).seek (hb.drewN nq) ho (s.pos + n) hk (m := ↑s.pos + ↑n) (by omega)
    refine ⟨((Wf.Step.refl p TS w).drewN nq).trans h2, ?_⟩
    simp only [takeS, if_pos hk]
    exact ⟨rfl, h1⟩
  · go_enter Try.func61, Try.ntmps61
    go_wp2
    go_quiet ((go_at_call 84; exact Calls.quiet_of_same ((read_short A _ c s.pos n _ (by omega) hlen (by omega)).mono fun _ _ hh => ⟨hh.1, hh.2.symm⟩)))
    go_wp2_with (go_at_call 85; refine (need_bad _ rfl _).mono ?_; rintro e w' ⟨rfl, rfl⟩)
    refine ⟨rfl, (Wf.Step.refl p TS w).drewN nq, ?_⟩
    simp only [takeS, if_neg hk]
    rfl

theorem Str.told {w w1 : World} {p : Nat} {v0 : Value} {b : List Int} {most : Nat} {s : St} {vo v' : Value} {c : Int} (h : Str w p v0 b most s) (hs : Wf.Step p TS w w1)
    (hb : Blk w1 p 66 #[v0, .int .i64 s.pos, vo, .int .i64 most]) (ho : w1.ownsRow (p + 1) 5 1 v' (s.out.length + 1) (ints .u8 s.out ++ [.int .u8 c])) (hk : s.out.length < most) :
    Post0 w p v0 b most (tellS most c s) (.returned (.tuple #[])) (w1.setCell ⟨p, 2, none⟩ v') := by
  have hs2 : Wf.Step p TS w (w1.setCell ⟨p, 2, none⟩ v') := hs.setCell hb (Nat.le_refl _) (by simp [TS]) 2 _
  refine ⟨hs2, ?_⟩
  rw [show tellS most c s = .ok ⟨s.pos, s.out ++ [c]⟩ from if_pos hk]
  refine ⟨rfl, h.inp.step hs2, ⟨v', by simpa using hb.set_ 2 v', ?_⟩, h.pos, by simp; omega, h.most⟩
  have e : ints .u8 (s.out ++ [c]) = ints .u8 s.out ++ [.int .u8 c] := by simp [ints]
  simp only [List.length_append, List.length_singleton, e]
  refine ownsRow_keep (M := fun k => k = p) ho (Keep.setCell (M := fun k => k = p) (Keep.refl _ w1) (.inl rfl) _) fun g hg e => ?_
  subst e
  exact ownsRow_ne ho hb (by decide) hg

set_option maxHeartbeats 800000 in
set_option maxRecDepth 100000 in
theorem tell_calls (w : World) (p : Nat) (v0 : Value) (b : List Int) (most : Nat) (s : St) (c : Int) (h : Str w p v0 b most s) :
    Calls Try.prog 86 #[.pointer (some ⟨p, 0, none⟩), .int .u8 c] w (Post0 w p v0 b most (tellS most c s)) := by
  obtain ⟨vo, hb, ho⟩ := h.blk
  have c2 := hb.cell 2
  have c3 := hb.cell 3
  have f2 := hb.frozen 2
  simp at c2 c3
  have h1 := h.out
  have h2 := h.most
  obtain ⟨Ao, co, rfl⟩ : ∃ Ao co, vo = .slice Ao s.out.length co := ho.isSlice
  by_cases hk : s.out.length < most
  · go_enter Try.func86, Try.ntmps86
    go_wp2
    go_quiet (fail)
    go_wp2_with (at_builtin; go_loud (refine wpList_push (w := w.drewN nq) rfl (.tmp 19) (.tmp 21) _ rfl (p + 1) 5 _ 1 Try.underlying22 info5 rfl (.slice Ao s.out.length co) _ _ rfl (ownsRow_drewN ho nq) (.int .u8 c) rfl rfl (by omega) (by unfold maxLen; omega) hb.lt ?_))
    intro g cap' w1 ho1 hg1
    have hb1 : Blk w1 p 66 _ := ((hb.drewN nq).alloc _).grown hg1 (Ne.symm (ownsRow_ne ho hb (by decide)))
    have hs1 : Wf.Step p TS w w1 := (((Wf.Step.refl p TS w).drewN nq).alloc _).grown hg1 ((ownsRow_drewN ho nq).alloc _) (by omega) (by simp [TS])
    have d2 := hb1.cell 2
    have g2 := hb1.frozen 2
    simp at d2
    have H2 := Lib.hid ho1
    have H3 := Lib.hid hb1
    have H4 := Lib.hid hs1
    clear hg1 ho1 hb1 hs1
    go_wp2
    go_end0
    exact h.told H4.out H3.out H2.out hk
  · go_enter Try.func86, Try.ntmps86
    go_wp2
    go_quiet (fail)
    go_wp2_with (go_at_call 85; refine (need_bad _ rfl _).mono ?_; rintro e w' ⟨rfl, rfl⟩)
    refine ⟨rfl, (Wf.Step.refl p TS w).drewN nq, ?_⟩
    simp only [tellS, if_neg hk]
    rfl
end Go.Proofs.Ytkdjljnplfempaa
