/- The stream of package ref05: what it is in memory; its small methods. -/
import Derived.Test.YtkdjljnplfempaaWfOuter
import Derived.Test.YtkdjljnplfempaaWfRefSym
import Derived.Test.YtkdjljnplfempaaWfRefLen
import Derived.Test.YtkdjljnplfempaaWfRefFixed
import Derived.WalkKit
import Derived.WalkLawsBesides
import Derived.Lib.Hide
import Derived.Deep.QuietTactic
import Derived.BigQuiet
import Derived.Deep.LoopGhost
import Derived.StillTailTactics
import Derived.Deep.RegionHeld3
import Derived.Deep.RegionWith
import Derived.Handy
set_option linter.unusedVariables false
set_option linter.unusedSimpArgs false
set_option linter.unusedSectionVars false
namespace Go.Proofs.Ytkdjljnplfempaa
open Go.RowKit Wf

def RTS : List TypeId := [69, 5]
def codeOf {α : Type} : Except Int α → Int
  | .ok _ => 0
  | .error k => k

/-- Block p is a stream that stands at s, or that has its first error. -/
structure RStr (w : World) (p : Nat) (v0 : Value) (b : List Int) (most : Nat) (X : Except Int St) : Prop where
  inp : In w p v0 b
  blk : ∃ (t : Int) (out : List Int) (vo : Value), Blk w p 69 #[v0, .int .i64 t, vo, .int .i64 most, .int .i64 (codeOf X)] ∧ w.ownsRow (p + 1) 5 1 vo out.length (ints .u8 out) ∧ ∀ s, X = .ok s → t = s.pos ∧ out = s.out
  pos : ∀ s, X = .ok s → s.pos ≤ 8 * b.length ∧ s.out.length ≤ most
  bad : ∀ k, X = .error k → k ≠ 0
  most : most ≤ 65536

section
variable {w w' : World} {p : Nat} {v0 : Value} {b : List Int} {most : Nat} {s : St} {X : Except Int St}
theorem RStr.live (h : RStr w p v0 b most (.ok s)) : ∃ vo, Blk w p 69 #[v0, .int .i64 s.pos, vo, .int .i64 most, .int .i64 0] ∧ w.ownsRow (p + 1) 5 1 vo s.out.length (ints .u8 s.out) := by
  obtain ⟨t, out, vo, h1, h2, h3⟩ := h.blk
  obtain ⟨rfl, rfl⟩ := h3 s rfl
  exact ⟨vo, h1, h2⟩
theorem RStr.ofLive {vo : Value} (hi : In w p v0 b) (h1 : Blk w p 69 #[v0, .int .i64 s.pos, vo, .int .i64 most, .int .i64 0]) (h2 : w.ownsRow (p + 1) 5 1 vo s.out.length (ints .u8 s.out))
    (hp : s.pos ≤ 8 * b.length) (ho : s.out.length ≤ most) (hm : most ≤ 65536) : RStr w p v0 b most (.ok s) :=
  ⟨hi, ⟨_, _, vo, h1, h2, fun s' e => by injection e with e; subst e; exact ⟨rfl, rfl⟩⟩, fun s' e => by injection e with e; subst e; exact ⟨hp, ho⟩, fun k e => (by cases e), hm⟩
theorem RStr.drewN (h : RStr w p v0 b most X) (n : Nat) : RStr (w.drewN n) p v0 b most X := ⟨⟨h.inp.sees, h.inp.bytes, h.inp.len⟩, h.blk, h.pos, h.bad, h.most⟩
theorem RStr.keep (h : RStr w p v0 b most X) (hb : Below w.heap.size w w') : RStr w' p v0 b most X := by
  obtain ⟨t, out, vo, h1, h2, h3⟩ := h.blk
  exact ⟨h.inp.step (Step.ofBelow (ts := RTS) hb), ⟨t, out, vo, h1.below hb, ownsRow_step h2 (Step.ofBelow (p := p) (ts := []) hb) (by simp), h3⟩, h.pos, h.bad, h.most⟩
theorem RStr.die {k : Int} (h : RStr w p v0 b most (.ok s)) (hk : k ≠ 0) : RStr (w.setCell ⟨p, 4, none⟩ (.int .i64 k)) p v0 b most (.error k) ∧ Wf.Step p RTS w (w.setCell ⟨p, 4, none⟩ (.int .i64 k)) := by
  obtain ⟨vo, hb, ho⟩ := h.live
  have hs : Wf.Step p RTS w (w.setCell ⟨p, 4, none⟩ (.int .i64 k)) := (Wf.Step.refl p RTS w).setCell hb (Nat.le_refl _) (by simp [RTS]) 4 _
  refine ⟨⟨h.inp.step hs, ⟨s.pos, s.out, vo, by simpa [codeOf] using hb.set_ 4 (.int .i64 k), ?_, fun s' e => (by cases e)⟩, fun s' e => (by cases e), fun k' e => by injection e with e; subst e; exact hk, h.most⟩, hs⟩
  refine ownsRow_keep (M := fun k => k = p) ho (Keep.setCell (M := fun k => k = p) (Keep.refl _ w) (.inl rfl) _) fun g hg e => ?_
  subst e
  exact ownsRow_ne ho hb (by decide) hg
theorem RStr.seek {vo : Value} (h : RStr w p v0 b most (.ok s)) (hb : Blk w p 69 #[v0, .int .i64 s.pos, vo, .int .i64 most, .int .i64 0]) (ho : w.ownsRow (p + 1) 5 1 vo s.out.length (ints .u8 s.out))
    (n : Nat) (hn : n ≤ 8 * b.length) {m : Int} (hm : m = n) :
    RStr (w.setCell ⟨p, 1, none⟩ (.int .i64 m)) p v0 b most (.ok ⟨n, s.out⟩) ∧ Wf.Step p RTS w (w.setCell ⟨p, 1, none⟩ (.int .i64 m)) := by
  subst hm
  have hs : Wf.Step p RTS w (w.setCell ⟨p, 1, none⟩ (.int .i64 n)) := (Wf.Step.refl p RTS w).setCell hb (Nat.le_refl _) (by simp [RTS]) 1 _
  refine ⟨RStr.ofLive (s := ⟨n, s.out⟩) (h.inp.step hs) (by simpa using hb.set_ 1 (.int .i64 n)) ?_ hn (h.pos _ rfl).2 h.most, hs⟩
  refine ownsRow_keep (M := fun k => k = p) ho (Keep.setCell (M := fun k => k = p) (Keep.refl _ w) (.inl rfl) _) fun g hg e => ?_
  subst e
  exact ownsRow_ne ho hb (by decide) hg
end

/-- What a step leaves: a step upon a stream that has its error hands back 'no' and turns nothing. -/
def RPost {α : Type} (w : World) (p : Nat) (v0 : Value) (b : List Int) (most : Nat) (ret : α → Value) (no : α) (r : Except Int (α × St)) (e : Ending) (w' : World) : Prop :=
  Wf.Step p RTS w w' ∧ match r with
  | .ok (a, s) => e = .returned (ret a) ∧ RStr w' p v0 b most (.ok s)
  | .error k => e = .returned (ret no) ∧ RStr w' p v0 b most (.error k)
def RPost0 (w : World) (p : Nat) (v0 : Value) (b : List Int) (most : Nat) (r : Except Int St) (e : Ending) (w' : World) : Prop :=
  Wf.Step p RTS w w' ∧ e = .returned (.tuple #[]) ∧ RStr w' p v0 b most r

theorem fail_calls (w : World) (p : Nat) (v0 : Value) (b : List Int) (most : Nat) (s : St) (k : Int) (h : RStr w p v0 b most (.ok s)) (hk : k ≠ 0) :
    Calls Try.prog 39 #[.pointer (some ⟨p, 0, none⟩), .int .i64 k] w (RPost0 w p v0 b most (.error k)) := by
  obtain ⟨vo, hb, ho⟩ := h.live
  have c4 : w.cell? ⟨p, 4, none⟩ = some (.int .i64 0) := hb.cell 4
  have f4 := hb.frozen 4
  have hd := Lib.hid (h.die hk)
  go_enter Try.func39, Try.ntmps39
  go_wp2
  go_end0
  exact ⟨hd.out.2, rfl, hd.out.1⟩

set_option maxHeartbeats 800000 in
theorem take_calls (w : World) (p : Nat) (v0 : Value) (b : List Int) (most : Nat) (X : Except Int St) (n : Nat) (h : RStr w p v0 b most X) (hn : n ≤ 16) :
    Calls Try.prog 35 #[.pointer (some ⟨p, 0, none⟩), .int .i64 n] w (RPost w p v0 b most (fun k : Nat => .int .i64 k) 0 (X.bind (takeS b n))) := by
  cases X with
  | error k =>
    obtain ⟨t, out, vo, hb, _⟩ := h.blk
    have c4 : w.cell? ⟨p, 4, none⟩ = some (.int .i64 k) := hb.cell 4
    have hkb : (k != 0) = true := by rw [bne_iff_ne]; exact h.bad k rfl
    go_enter Try.func35, Try.ntmps35
    go_wp2
    go_ret
    exact ⟨Wf.Step.refl p RTS _, rfl, h⟩
  | ok s =>
    obtain ⟨vo, hb, ho⟩ := h.live
    obtain ⟨A, c, rfl, hA, hAp⟩ := h.inp.sees
    have hlen := h.inp.len
    have hpos := (h.pos s rfl).1
    have c0 : w.cell? ⟨p, 0, none⟩ = some (.slice A b.length c) := hb.cell 0
    have c1 : w.cell? ⟨p, 1, none⟩ = some (.int .i64 s.pos) := hb.cell 1
    have c4 : w.cell? ⟨p, 4, none⟩ = some (.int .i64 0) := hb.cell 4
    have f1 := hb.frozen 1
    by_cases hk : s.pos + n ≤ 8 * b.length
    · have hlt := bitsAt_lt b s.pos n
      have hpw : 2 ^ n ≤ 2 ^ 16 := Nat.pow_le_pow_right (by omega) hn
      have hlt2 : bitsAt b s.pos n < 65536 := by omega
      clear hlt hpw
      go_enter Try.func35, Try.ntmps35
      go_wp2
      go_quiet ((go_at_call 66; exact Calls.quiet_of (refRead_ok A c s.pos n b _ (hA.drewN _) h.inp.bytes (by omega) hlen hk)))
      go_wp2_with fail
      go_ret
      obtain ⟨h1, h2⟩ := (h.drewN nq).seek (hb.drewN nq) ho (s.pos + n) hk (m := ↑s.pos + ↑n) (by omega)
      refine ⟨((Wf.Step.refl p RTS w).drewN nq).trans h2, ?_⟩
      simp only [Except.bind, takeS, if_pos hk]
      exact ⟨rfl, h1⟩
    · go_enter Try.func35, Try.ntmps35
      go_wp2
      go_quiet ((go_at_call 66; exact Calls.quiet_of_same ((refRead_short A _ c s.pos n _ (by omega) hlen (by omega)).mono fun _ _ hh => ⟨hh.1, hh.2.symm⟩)))
      go_wp2_with (go_at_call 39; refine (fail_calls _ p _ b most s 7 (h.drewN _) (by omega)).mono ?_; rintro e w' ⟨hs1, rfl, h1⟩)
      go_ret
      refine ⟨((Wf.Step.refl p RTS w).drewN nq).trans hs1, ?_⟩
      simp only [Except.bind, takeS, if_neg hk]
      exact ⟨rfl, h1⟩

theorem refSymbol_ok (w : World) (A : Option Addr) (c : Nat) (zs : List Int) (B : Option Addr) (d : Nat) (b : List Int) (p i m : Nat) (hA : Sees w A (ints .i64 zs)) (hz : okLens zs)
    (hB : Sees w B (ints .u8 b)) (hb : Bytes b) (hlen : b.length ≤ 140737488351232) (hp : p ≤ 8 * b.length) (hr : symGo zs b p 16 0 0 = .ok (i, m)) :
    Calls Try.prog 90 #[.slice A zs.length c, .slice B b.length d, .int .i64 p] w fun e w' => e = .returned (.tuple #[.int .i64 i, .int .i64 m, .int .i64 0]) ∧ Below w.heap.size w w' := by
  have := refSymbol_calls w A c zs B d b p hA hz hB hb hlen hp
  rw [hr] at this
  exact this
theorem refSymbol_err (w : World) (A : Option Addr) (c : Nat) (zs : List Int) (B : Option Addr) (d : Nat) (b : List Int) (p : Nat) (k : Int) (hA : Sees w A (ints .i64 zs)) (hz : okLens zs)
    (hB : Sees w B (ints .u8 b)) (hb : Bytes b) (hlen : b.length ≤ 140737488351232) (hp : p ≤ 8 * b.length) (hr : symGo zs b p 16 0 0 = .error k) :
    Calls Try.prog 90 #[.slice A zs.length c, .slice B b.length d, .int .i64 p] w fun e w' => e = .returned (.tuple #[.int .i64 0, .int .i64 0, .int .i64 k]) ∧ Below w.heap.size w w' := by
  have := refSymbol_calls w A c zs B d b p hA hz hB hb hlen hp
  rw [hr] at this
  exact this

set_option maxHeartbeats 800000 in
theorem rsym_calls (w : World) (p : Nat) (v0 : Value) (b : List Int) (most : Nat) (X : Except Int St) (A2 : Option Addr) (c2 : Nat) (zs : List Int) (h : RStr w p v0 b most X) (hA2 : Sees w A2 (ints .i64 zs)) (hz : okLens zs) :
    Calls Try.prog 68 #[.pointer (some ⟨p, 0, none⟩), .slice A2 zs.length c2] w (RPost w p v0 b most (fun k : Nat => .int .i64 k) 0 (X.bind (symS zs b))) := by
  cases X with
  | error k =>
    obtain ⟨t, out, vo, hb, _⟩ := h.blk
    have c4 : w.cell? ⟨p, 4, none⟩ = some (.int .i64 k) := hb.cell 4
    have hkb : (k != 0) = true := by rw [bne_iff_ne]; exact h.bad k rfl
    go_enter Try.func68, Try.ntmps68
    go_wp2
    go_ret
    exact ⟨Wf.Step.refl p RTS _, rfl, h⟩
  | ok s =>
    obtain ⟨vo, hb, ho⟩ := h.live
    obtain ⟨A, c, rfl, hA, hAp⟩ := h.inp.sees
    have hlen := h.inp.len
    have hpos := (h.pos s rfl).1
    have c0 : w.cell? ⟨p, 0, none⟩ = some (.slice A b.length c) := hb.cell 0
    have c1 : w.cell? ⟨p, 1, none⟩ = some (.int .i64 s.pos) := hb.cell 1
    have c4 : w.cell? ⟨p, 4, none⟩ = some (.int .i64 0) := hb.cell 4
    have hbl := Blk.lt hb
    have HS := Lib.hid (symS_eq zs b s)
    generalize hr : symGo zs b s.pos 16 0 0 = r at HS
    cases r with
    | error e0 =>
      have hk : (e0 != 0) = true := symGo_err hr
      have hk0 : e0 ≠ 0 := bne_iff_ne.1 hk
      have HR := Lib.hid hr
      clear hr
      go_enter Try.func68, Try.ntmps68
      go_wp2
      go_region_held3 (fun w' => w'.cell? ⟨p, 0, none⟩ = some (.slice A b.length c) ∧ w'.cell? ⟨p, 1, none⟩ = some (.int .i64 s.pos))
        (first | go_keep | exact ⟨(hbel.cell hbl).trans c0, (hbel.cell hbl).trans c1⟩)
        (first | (go_at_call 90; refine (refSymbol_err w.drew A2 c2 zs A c b s.pos e0 hA2.drew hz hA.drew h.inp.bytes hlen hpos HR.out).mono ?_; rintro e w1 ⟨rfl, hbel⟩))
      have h1 : RStr w1 p (.slice A b.length c) b most (.ok s) := RStr.keep (w := w.drew) (h.drewN 1) hbel
      have hst : Wf.Step p RTS w w1 := (Wf.Step.refl p RTS w).drew.trans (Step.ofBelow hbel)
      clear c0 c1 c4 hbel
      go_wp2_with (go_at_call 39; refine (fail_calls _ p _ b most s e0 h1 hk0).mono ?_; rintro e w' ⟨hs1, rfl, h2⟩)
      go_ret
      refine ⟨hst.trans hs1, ?_⟩
      rw [show (Except.ok s).bind (symS zs b) = symS zs b s from rfl, HS.out]
      exact ⟨rfl, h2⟩
    | ok y =>
      obtain ⟨i, m⟩ := y
      have HR := Lib.hid hr
      clear hr
      go_enter Try.func68, Try.ntmps68
      go_wp2
      go_region_held3 (fun w' => w'.cell? ⟨p, 0, none⟩ = some (.slice A b.length c) ∧ w'.cell? ⟨p, 1, none⟩ = some (.int .i64 s.pos))
        (first | go_keep | exact ⟨(hbel.cell hbl).trans c0, (hbel.cell hbl).trans c1⟩)
        (first | (go_at_call 90; refine (refSymbol_ok w.drew A2 c2 zs A c b s.pos i m hA2.drew hz hA.drew h.inp.bytes hlen hpos HR.out).mono ?_; rintro e w1 ⟨rfl, hbel⟩))
      have h1 : RStr w1 p (.slice A b.length c) b most (.ok s) := RStr.keep (w := w.drew) (h.drewN 1) hbel
      have hst : Wf.Step p RTS w w1 := (Wf.Step.refl p RTS w).drew.trans (Step.ofBelow hbel)
      have hbd := symGo_bound zs b s.pos 16 0 0 i m HR.out
      obtain ⟨vo1, hb1, ho1⟩ := h1.live
      have e1 : w1.cell? ⟨p, 1, none⟩ = some (.int .i64 s.pos) := hb1.cell 1
      have f1 := hb1.frozen 1
      clear c0 c1 c4 hbel
      go_wp2_with fail
      go_ret
      obtain ⟨k1, k2⟩ := h1.seek hb1 ho1 (s.pos + m) (by omega) (m := ↑s.pos + ↑m) (by omega)
      refine ⟨hst.trans k2, ?_⟩
      rw [show (Except.ok s).bind (symS zs b) = symS zs b s from rfl, HS.out]
      exact ⟨rfl, k1⟩

theorem RStr.told {w w1 : World} {p : Nat} {v0 : Value} {b : List Int} {most : Nat} {s : St} {vo v' : Value} {c : Int} (h : RStr w p v0 b most (.ok s)) (hs : Wf.Step p RTS w w1)
    (hb : Blk w1 p 69 #[v0, .int .i64 s.pos, vo, .int .i64 most, .int .i64 0]) (ho : w1.ownsRow (p + 1) 5 1 v' (s.out.length + 1) (ints .u8 s.out ++ [.int .u8 c])) (hk : s.out.length < most) :
    RPost0 w p v0 b most (tellS most c s) (.returned (.tuple #[])) (w1.setCell ⟨p, 2, none⟩ v') := by
  have hs2 : Wf.Step p RTS w (w1.setCell ⟨p, 2, none⟩ v') := hs.setCell hb (Nat.le_refl _) (by simp [RTS]) 2 _
  refine ⟨hs2, rfl, ?_⟩
  rw [show tellS most c s = .ok ⟨s.pos, s.out ++ [c]⟩ from if_pos hk]
  refine RStr.ofLive (s := ⟨s.pos, s.out ++ [c]⟩) (vo := v') (h.inp.step hs2) (by simpa using hb.set_ 2 v') ?_ (h.pos _ rfl).1 (by simp; omega) h.most
  have e : ints .u8 (s.out ++ [c]) = ints .u8 s.out ++ [.int .u8 c] := by simp [ints]
  simp only [List.length_append, List.length_singleton, e]
  refine ownsRow_keep (M := fun k => k = p) ho (Keep.setCell (M := fun k => k = p) (Keep.refl _ w1) (.inl rfl) _) fun g hg e => ?_
  subst e
  exact ownsRow_ne ho hb (by decide) hg

set_option maxHeartbeats 800000 in
set_option maxRecDepth 100000 in
theorem rtell_calls (w : World) (p : Nat) (v0 : Value) (b : List Int) (most : Nat) (s : St) (c : Int) (h : RStr w p v0 b most (.ok s)) :
    Calls Try.prog 67 #[.pointer (some ⟨p, 0, none⟩), .int .u8 c] w (RPost0 w p v0 b most (tellS most c s)) := by
  obtain ⟨vo, hb, ho⟩ := h.live
  have c2 : w.cell? ⟨p, 2, none⟩ = some vo := hb.cell 2
  have c3 : w.cell? ⟨p, 3, none⟩ = some (.int .i64 most) := hb.cell 3
  have c4 : w.cell? ⟨p, 4, none⟩ = some (.int .i64 0) := hb.cell 4
  have f2 := hb.frozen 2
  have h1 := (h.pos s rfl).2
  have h2 := h.most
  obtain ⟨Ao, co, rfl⟩ : ∃ Ao co, vo = .slice Ao s.out.length co := ho.isSlice
  by_cases hk : s.out.length < most
  · go_enter Try.func67, Try.ntmps67
    go_wp2
    go_quiet (fail)
    go_wp2_with (at_builtin; go_loud (refine wpList_push (w := w.drewN nq) rfl (.tmp 32) (.tmp 34) _ rfl (p + 1) 5 _ 1 Try.underlying22 info5 rfl (.slice Ao s.out.length co) _ _ rfl (ownsRow_drewN ho nq) (.int .u8 c) rfl rfl (by omega) (by unfold maxLen; omega) hb.lt ?_))
    intro g cap' w1 ho1 hg1
    have hb1 : Blk w1 p 69 _ := ((hb.drewN nq).alloc _).grown hg1 (Ne.symm (ownsRow_ne ho hb (by decide)))
    have hs1 : Wf.Step p RTS w w1 := (((Wf.Step.refl p RTS w).drewN nq).alloc _).grown hg1 ((ownsRow_drewN ho nq).alloc _) (by omega) (by simp [RTS])
    have d2 := hb1.cell 2
    have g2 := hb1.frozen 2
    simp at d2
    have H2 := Lib.hid ho1
    have H3 := Lib.hid hb1
    have H4 := Lib.hid hs1
    clear hg1 ho1 hb1 hs1
    go_wp2
    go_end0
    exact h.told H4.out H3.out H2.out hk
  · go_enter Try.func67, Try.ntmps67
    go_wp2
    go_quiet (fail)
    go_wp2_with (go_at_call 39; refine (fail_calls _ p _ b most s 4 (h.drewN _) (by omega)).mono ?_; rintro e w' ⟨hs1, rfl, h2⟩; obtain ⟨t2, o2, vo2, hb2, _⟩ := h2.blk; have c42 : w'.cell? ⟨p, 4, none⟩ = some (.int .i64 4) := hb2.cell 4)
    go_end0
    refine ⟨((Wf.Step.refl p RTS w).drewN nq).trans hs1, rfl, ?_⟩
    rw [show tellS most c s = .error 4 from if_neg hk]
    exact h2
end Go.Proofs.Ytkdjljnplfempaa
