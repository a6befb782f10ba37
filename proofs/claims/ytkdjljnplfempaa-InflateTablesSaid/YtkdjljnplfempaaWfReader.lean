/- A reader of symbols. -/
import Derived.Test.YtkdjljnplfempaaWfRead
import Derived.Test.YtkdjljnplfempaaWfInf
import Derived.Test.YtkdjljnplfempaaWfStr
import Derived.Test.YtkdjljnplfempaaWfSteps
import Derived.Test.YtkdjljnplfempaaWfSym
import Derived.StillTailTactics
import Derived.Deep.RegionHeld3
import Derived.Test.YtkdjljnplfempaaWfHuffP
import Derived.WalkKit
import Derived.WalkLawsBesides
import Derived.Lib.Hide
import Derived.Deep.QuietTactic
import Derived.BigQuiet
import Derived.Handy
set_option linter.unusedVariables false
set_option linter.unusedSimpArgs false
set_option linter.unusedSectionVars false
namespace Go.Proofs.Ytkdjljnplfempaa
open Go.RowKit Wf

/-- A reader of symbols by these lengths, of the stream p. -/
def Reader (w : World) (p : Nat) (zs : List Int) (v : Value) : Prop :=
  ∃ tb sb T, v = .func (.func 95) #[] #[.pointer (some ⟨tb, 0, none⟩), .pointer (some ⟨sb, 0, none⟩)] ∧ Blk w tb 121 #[.pointer (some ⟨T, 0, none⟩)] ∧ Blk w sb 64 #[.pointer (some ⟨p, 0, none⟩)] ∧ Table w T zs

theorem Table.step {w w' : World} {p T : Nat} {zs : List Int} (h : Table w T zs) (hs : Wf.Step p TS w w') : Table w' T zs := by
  obtain ⟨m, h1, h2⟩ := h
  refine ⟨m, h1.step hs (.inr (by decide)), ?_⟩
  obtain ⟨es, c, h3, h4⟩ := h2
  refine ⟨es, c, (hs.block m (lt_of_heap h3) fun hM => ?_).trans h3, h4⟩
  obtain ⟨_, cs, t, fz, hc, _⟩ := hM
  rw [h3] at hc
  cases hc
theorem Reader.step {w w' : World} {p : Nat} {zs : List Int} {v : Value} (h : Reader w p zs v) (hs : Wf.Step p TS w w') : Reader w' p zs v := by
  obtain ⟨tb, sb, T, h1, h2, h3, h4⟩ := h
  exact ⟨tb, sb, T, h1, h2.step hs (.inr (by decide)), h3.step hs (.inr (by decide)), h4.step hs⟩

theorem Str.keep {w w' : World} {p : Nat} {v0 : Value} {b : List Int} {most : Nat} {s : St} (h : Str w p v0 b most s) (hb : Below w.heap.size w w') : Str w' p v0 b most s := by
  obtain ⟨vo, h1, h2⟩ := h.blk
  exact ⟨h.inp.step (ts := TS) (Step.ofBelow hb), ⟨vo, h1.below hb, ownsRow_keep (M := fun _ => False) h2 (.of_below hb) fun _ _ h => h⟩, h.pos, h.out, h.most⟩

set_option maxHeartbeats 800000 in
set_option maxRecDepth 100000 in
theorem reader_ok (w : World) (p : Nat) (A : Option Addr) (c : Nat) (zs : List Int) (hA : Sees w A (ints .i64 zs)) (hz : okLens zs) :
    Calls Try.prog 87 #[.pointer (some ⟨p, 0, none⟩), .slice A zs.length c] w fun e w' => ∃ v, e = .returned v ∧ Reader w' p zs v ∧ Below w.heap.size w w' := by
  have hmf : ∀ (fn : Fn) (first cap : Array Value) (w : World), (Instr.makeFunc fn first cap).run Try.prog w = .ok (.func fn first cap) w := fun _ _ _ _ => rfl
  go_enter Try.func87, Try.ntmps87
  go_wp2_with (go_at_call 76; refine (tabled_ok _ A c zs (keepA hA _) hz).mono ?_; rintro e w1 ⟨T, rfl, hT, hTl, hb⟩)
  have hsb := (Blk.new w 64 #[.pointer (some ⟨p, 0, none⟩)]).below hb
  have hbel : Below w.heap.size w w1 := ((Below.refl _ _).alloc (Nat.le_refl _) _).trans (hb.mono (by simp))
  clear hb
  go_wp2_with (go_at_call 65; refine (must_ok _).mono ?_; rintro e w2 ⟨rfl, rfl⟩)
  go_ret
  exact ⟨_, rfl, ⟨_, _, T, rfl, Blk.new _ _ _, hsb.alloc _, hT.step (p := p) ((Wf.Step.refl p TS w1).alloc _)⟩, hbel.alloc hbel.size _⟩

set_option maxHeartbeats 800000 in
set_option maxRecDepth 100000 in
theorem reader_bad (w : World) (p : Nat) (A : Option Addr) (c : Nat) (zs : List Int) (hA : Sees w A (ints .i64 zs)) (hn : zs.length ≤ 17592186044416) (hz : ¬ okLens zs) :
    Calls Try.prog 87 #[.pointer (some ⟨p, 0, none⟩), .slice A zs.length c] w fun e w' => Wrong 8 e ∧ Below w.heap.size w w' := by
  have hm : (mayErr zs != 0) = true := by rw [bne_iff_ne]; exact fun h => hz (mayErr_ok.1 h)
  have hm2 : (mayErr zs == 0) = false := by rw [beq_eq_false_iff_ne]; exact fun h => hz (mayErr_ok.1 h)
  go_enter Try.func87, Try.ntmps87
  go_wp2_with (go_at_call 76; refine (tabled_bad _ A c zs (keepA hA _) hn hm).mono ?_; rintro e w1 ⟨rfl, hb⟩)
  have hbel : Below w.heap.size w w1 := ((Below.refl _ _).alloc (Nat.le_refl _) _).trans (hb.mono (by simp))
  clear hb
  go_wp2_with (go_at_call 65; refine (must_bad _).mono ?_; rintro e w2 ⟨rfl, rfl⟩)
  exact ⟨rfl, rfl, hbel.alloc hbel.size _⟩

theorem tableSymbol_ok (w : World) (T : Nat) (zs : List Int) (A : Option Addr) (c : Nat) (b : List Int) (p i m : Nat) (hT : Table w T zs) (hz : okLens zs)
    (hA : Sees w A (ints .u8 b)) (hb : Bytes b) (hlen : b.length ≤ 140737488351232) (hp : p ≤ 8 * b.length) (hr : symGo zs b p 16 0 0 = .ok (i, m)) :
    Calls Try.prog 77 #[.pointer (some ⟨T, 0, none⟩), .slice A b.length c, .int .i64 p] w fun e w' => e = .returned (.tuple #[.int .i64 i, .int .i64 m, .int .i64 0]) ∧ Below w.heap.size w w' := by
  have := tableSymbol_calls w T zs A c b p hT hz hA hb hlen hp
  rwa [hr] at this
theorem tableSymbol_err (w : World) (T : Nat) (zs : List Int) (A : Option Addr) (c : Nat) (b : List Int) (p : Nat) (k : Int) (hT : Table w T zs) (hz : okLens zs)
    (hA : Sees w A (ints .u8 b)) (hb : Bytes b) (hlen : b.length ≤ 140737488351232) (hp : p ≤ 8 * b.length) (hr : symGo zs b p 16 0 0 = .error k) :
    Calls Try.prog 77 #[.pointer (some ⟨T, 0, none⟩), .slice A b.length c, .int .i64 p] w fun e w' => e = .returned (.tuple #[.int .i64 0, .int .i64 0, .int .i64 k]) ∧ Below w.heap.size w w' := by
  have := tableSymbol_calls w T zs A c b p hT hz hA hb hlen hp
  rwa [hr] at this

theorem symS_eq (zs b : List Int) (s : St) : symS zs b s = match symGo zs b s.pos 16 0 0 with
  | .ok (i, n) => .ok (i, ⟨s.pos + n, s.out⟩)
  | .error e => .error e := rfl

/-- What has been read lies in the bytes. -/
theorem symGo_bound (zs b : List Int) (p : Nat) : ∀ (f n c : Nat) (i m : Nat), symGo zs b p f n c = .ok (i, m) → p + m ≤ 8 * b.length ∧ 0 < m ∧ m ≤ n + f ∧ i < zs.length := by
  intro f
  induction f with
  | zero => intro n c i m h; cases h
  | succ f ih =>
    intro n c i m h
    rw [symGo] at h
    split at h
    · cases h
    · split at h
      · cases h
      · split at h
        · rename_i j hj
          simp only [Except.ok.injEq, Prod.mk.injEq] at h
          obtain ⟨rfl, rfl⟩ := h
          refine ⟨by omega, by omega, by omega, ?_⟩
          unfold findCode at hj
          have := List.mem_of_find?_eq_some hj
          simpa using this
        · have := ih _ _ _ _ h
          omega

theorem symGo_err {zs b : List Int} {p : Nat} : ∀ {f n c : Nat} {k : Int}, symGo zs b p f n c = .error k → (k != 0) = true := by
  intro f
  induction f with
  | zero => intro n c k h; rw [symGo] at h; cases h; rfl
  | succ f ih =>
    intro n c k h
    rw [symGo] at h
    split at h
    · cases h; rfl
    · split at h
      · cases h; rfl
      · split at h
        · cases h
        · exact ih h

set_option maxHeartbeats 1600000 in
set_option maxRecDepth 100000 in
theorem reader1_calls (w : World) (p : Nat) (v0 : Value) (b : List Int) (most : Nat) (s : St) (zs : List Int) (tb sb T : Nat) (h : Str w p v0 b most s) (hz : okLens zs)
    (htb : Blk w tb 121 #[.pointer (some ⟨T, 0, none⟩)]) (hsb : Blk w sb 64 #[.pointer (some ⟨p, 0, none⟩)]) (hT : Table w T zs) :
    Calls Try.prog 95 #[.pointer (some ⟨tb, 0, none⟩), .pointer (some ⟨sb, 0, none⟩)] w (Post w p v0 b most (fun k : Nat => .int .i64 k) (symS zs b s)) := by
  obtain ⟨vo, hb, ho⟩ := h.blk
  obtain ⟨A, c, rfl, hA, hAp⟩ := h.inp.sees
  have hlen := h.inp.len
  have hpos := h.pos
  have c0 := hb.cell 0
  have c1 := hb.cell 1
  have t0 := htb.cell 0
  have s0 := hsb.cell 0
  simp at c0 c1 t0 s0
  have HS := Lib.hid (symS_eq zs b s)
  have hTT : ∀ w', Below w.heap.size w w' → Table w' T zs := fun w' hw => hT.step (p := p) (Step.ofBelow hw)
  have hbl := Blk.lt hb
  have htbl := htb.lt
  have hsbl := hsb.lt
  generalize hr : symGo zs b s.pos 16 0 0 = r at HS
  cases r with
  | ok x =>
    obtain ⟨i, m⟩ := x
    have HR := Lib.hid hr
    clear hr
    go_enter Try.func95, Try.ntmps95
    go_wp2
    go_region_held3 (fun w' => w'.cell? ⟨tb, 0, none⟩ = some (.pointer (some ⟨T, 0, none⟩)) ∧ w'.cell? ⟨sb, 0, none⟩ = some (.pointer (some ⟨p, 0, none⟩)) ∧ w'.cell? ⟨p, 0, none⟩ = some (.slice A b.length c) ∧ w'.cell? ⟨p, 1, none⟩ = some (.int .i64 s.pos))
      (first | go_keep | exact ⟨(hbel.cell htbl).trans t0, (hbel.cell hsbl).trans s0, (hbel.cell hbl).trans c0, (hbel.cell hbl).trans c1⟩)
      (first | (go_at_call 77; refine (tableSymbol_ok w.drew T zs A c b s.pos i m hT hz hA.drew h.inp.bytes hlen hpos HR.out).mono ?_; rintro e w1 ⟨rfl, hbel⟩))
    have h1 : Str w1 p (.slice A b.length c) b most s := Str.keep (w := w.drew) (h.drewN 1) hbel
    have hst : Wf.Step p TS w w1 := (Wf.Step.refl p TS w).drew.trans (Step.ofBelow hbel)
    have hsb1 := Blk.cell (Blk.below (w := w.drew) hsb hbel) 0
    have hbd := symGo_bound zs b s.pos 16 0 0 i m HR.out
    obtain ⟨vo1, hb1, ho1⟩ := h1.blk
    have e1 := hb1.cell 1
    have f1 := hb1.frozen 1
    simp at e1 hsb1
    clear t0 s0 c0 c1 hTT hbel
    go_wp2_with (go_at_call 85; refine (need_ok _).mono ?_; rintro e w' ⟨rfl, rfl⟩)
    go_ret
    obtain ⟨k1, k2⟩ := h1.seek hb1 ho1 (s.pos + m) (by omega) (m := ↑s.pos + ↑m) (by omega)
    refine ⟨hst.trans k2, ?_⟩
    rw [HS.out]
    exact ⟨rfl, k1⟩
  | error k =>
    have HR := Lib.hid hr
    have hk : (k != 0) = true := symGo_err hr
    clear hr
    go_enter Try.func95, Try.ntmps95
    go_wp2
    go_region_held3 (fun w' => w'.cell? ⟨tb, 0, none⟩ = some (.pointer (some ⟨T, 0, none⟩)) ∧ w'.cell? ⟨sb, 0, none⟩ = some (.pointer (some ⟨p, 0, none⟩)) ∧ w'.cell? ⟨p, 0, none⟩ = some (.slice A b.length c) ∧ w'.cell? ⟨p, 1, none⟩ = some (.int .i64 s.pos))
      (first | go_keep | exact ⟨(hbel.cell htbl).trans t0, (hbel.cell hsbl).trans s0, (hbel.cell hbl).trans c0, (hbel.cell hbl).trans c1⟩)
      (first | (go_at_call 77; refine (tableSymbol_err w.drew T zs A c b s.pos k hT hz hA.drew h.inp.bytes hlen hpos HR.out).mono ?_; rintro e w1 ⟨rfl, hbel⟩))
    have hst : Wf.Step p TS w w1 := (Wf.Step.refl p TS w).drew.trans (Step.ofBelow hbel)
    clear t0 s0 c0 c1 hTT hbel
    go_wp2_with (go_at_call 85; refine (need_bad _ hk _).mono ?_; rintro e w' ⟨rfl, rfl⟩)
    refine ⟨rfl, hst, ?_⟩
    rw [HS.out]
    exact rfl
end Go.Proofs.Ytkdjljnplfempaa
