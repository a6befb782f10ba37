/- Package ref05: a stored block. -/
import Derived.Test.YtkdjljnplfempaaWfRStr
import Derived.Test.YtkdjljnplfempaaWfRefSym
import Derived.Test.YtkdjljnplfempaaWfRefLen
import Derived.Test.YtkdjljnplfempaaWfRefFixed
import Derived.WalkKit
import Derived.WalkLawsBesides
import Derived.Lib.Hide
import Derived.Deep.QuietTactic
import Derived.BigQuiet
import Derived.Deep.LoopGhost
import Derived.StillTailTactics
import Derived.Deep.RegionHeld3
import Derived.Deep.RegionWith
import Derived.Handy
set_option linter.unusedVariables false
set_option linter.unusedSimpArgs false
set_option linter.unusedSectionVars false
namespace Go.Proofs.Ytkdjljnplfempaa
open Go.RowKit Wf

def valOf : Except Int (Nat × St) → Nat
  | .ok (v, _) => v
  | .error _ => 0
def stOf {α : Type} : Except Int (α × St) → Except Int St
  | .ok (_, s) => .ok s
  | .error k => .error k

/-- The same, said of what stands in memory. -/
theorem take_val (w : World) (p : Nat) (v0 : Value) (b : List Int) (most : Nat) (X : Except Int St) (n : Nat) (h : RStr w p v0 b most X) (hn : n ≤ 16) :
    Calls Try.prog 35 #[.pointer (some ⟨p, 0, none⟩), .int .i64 n] w fun e w' => e = .returned (.int .i64 (valOf (X.bind (takeS b n)) : Nat)) ∧ RStr w' p v0 b most (stOf (X.bind (takeS b n))) ∧ Wf.Step p RTS w w' := by
  refine (take_calls w p v0 b most X n h hn).mono ?_
  rintro e w' ⟨hs, hp⟩
  generalize X.bind (takeS b n) = R at hp
  cases R with
  | error k => exact ⟨hp.1, hp.2, hs⟩
  | ok y => exact ⟨hp.1, hp.2, hs⟩
theorem sym_val (w : World) (p : Nat) (v0 : Value) (b : List Int) (most : Nat) (X : Except Int St) (A2 : Option Addr) (c2 : Nat) (zs : List Int) (h : RStr w p v0 b most X) (hA2 : Sees w A2 (ints .i64 zs)) (hz : okLens zs) :
    Calls Try.prog 68 #[.pointer (some ⟨p, 0, none⟩), .slice A2 zs.length c2] w fun e w' => e = .returned (.int .i64 (valOf (X.bind (symS zs b)) : Nat)) ∧ RStr w' p v0 b most (stOf (X.bind (symS zs b))) ∧ Wf.Step p RTS w w' := by
  refine (rsym_calls w p v0 b most X A2 c2 zs h hA2 hz).mono ?_
  rintro e w' ⟨hs, hp⟩
  generalize X.bind (symS zs b) = R at hp
  cases R with
  | error k => exact ⟨hp.1, hp.2, hs⟩
  | ok y => exact ⟨hp.1, hp.2, hs⟩

set_option maxHeartbeats 800000 in
theorem rtell_dead (w : World) (p : Nat) (v0 : Value) (b : List Int) (most : Nat) (k c : Int) (h : RStr w p v0 b most (.error k)) :
    Calls Try.prog 67 #[.pointer (some ⟨p, 0, none⟩), .int .u8 c] w (RPost0 w p v0 b most (.error k)) := by
  obtain ⟨t, out, vo, hb, _⟩ := h.blk
  have c4 : w.cell? ⟨p, 4, none⟩ = some (.int .i64 k) := hb.cell 4
  have hkb : (k == 0) = false := by rw [beq_eq_false_iff_ne]; exact h.bad k rfl
  go_enter Try.func67, Try.ntmps67
  go_wp2
  go_quiet (fail)
  go_wp2_with fail
  go_end0
  exact ⟨(Wf.Step.refl p RTS w).drewN nq, rfl, h.drewN nq⟩
theorem rtell_any (w : World) (p : Nat) (v0 : Value) (b : List Int) (most : Nat) (X : Except Int St) (c : Int) (h : RStr w p v0 b most X) :
    Calls Try.prog 67 #[.pointer (some ⟨p, 0, none⟩), .int .u8 c] w (RPost0 w p v0 b most (X.bind (tellS most c))) := by
  cases X with
  | error k => exact rtell_dead w p v0 b most k c h
  | ok s => exact rtell_calls w p v0 b most s c h

theorem RStr.cell4 {w : World} {p : Nat} {v0 : Value} {b : List Int} {most : Nat} {X : Except Int St} (h : RStr w p v0 b most X) : w.cell? ⟨p, 4, none⟩ = some (.int .i64 (codeOf X)) := by
  obtain ⟨t, out, vo, hb, _⟩ := h.blk
  exact hb.cell 4
theorem RStr.code0 {w : World} {p : Nat} {v0 : Value} {b : List Int} {most : Nat} {X : Except Int St} (h : RStr w p v0 b most X) : (codeOf X == 0) = true ↔ ∃ s, X = .ok s := by
  cases X with
  | ok s => exact ⟨fun _ => ⟨s, rfl⟩, fun _ => rfl⟩
  | error k => exact ⟨fun e => absurd (eq_of_beq e) (h.bad k rfl), fun ⟨s, e⟩ => by cases e⟩
theorem split_bind {β : Type} (R1 : Except Int (Nat × St)) (F : Nat → St → Except Int β) : R1.bind (fun x => F x.1 x.2) = (stOf R1).bind (F (valOf R1)) := by cases R1 <;> rfl
theorem bind_assoc {α β γ : Type} (X : Except Int α) (f : α → Except Int β) (g : β → Except Int γ) : X.bind (fun s => (f s).bind g) = (X.bind f).bind g := by cases X <;> rfl
theorem valOf_lt {b : List Int} {X : Except Int St} {n : Nat} : valOf (X.bind (takeS b n)) < 2 ^ n := by
  cases X with
  | error k => exact Nat.pow_pos (by omega)
  | ok s =>
    show valOf (takeS b n s) < 2 ^ n
    cases h : takeS b n s with
    | error k => exact Nat.pow_pos (by omega)
    | ok y => exact takeS_lt h


set_option maxHeartbeats 1600000 in
theorem rstored_calls (w : World) (p : Nat) (v0 : Value) (b : List Int) (most : Nat) (s : St) (h : RStr w p v0 b most (.ok s)) :
    Calls Try.prog 36 #[.pointer (some ⟨p, 0, none⟩)] w (RPost0 w p v0 b most (storedS b most s)) := by
  generalize hR : storedS b most s = R
  have HR := Lib.hid hR
  clear hR
  obtain ⟨vo, hb, ho⟩ := h.live
  have c1 : w.cell? ⟨p, 1, none⟩ = some (.int .i64 s.pos) := hb.cell 1
  have f1 := hb.frozen 1
  have hlen := h.inp.len
  have hpos := (h.pos s rfl).1
  have q1 : IntKind.i64.wrap ((s.pos : Int) + 7) = (s.pos : Int) + 7 := IntWalk.i64_in _ (by omega)
  have q2 : ((s.pos : Int) + 7).tdiv 8 = (((s.pos + 7) / 8 : Nat) : Int) := by rw [Int.tdiv_eq_ediv_of_nonneg (by omega)]; omega
  have hq : (s.pos + 7) / 8 ≤ b.length := by omega
  obtain ⟨Q, hQ⟩ : ∃ Q, Q = (s.pos + 7) / 8 := ⟨_, rfl⟩
  rw [← hQ] at q2 hq
  have hsk := h.seek hb ho (Q * 8) (by omega) (m := (Q : Int) * 8) (by omega)
  have HS := Lib.hid hsk
  have HR2 := Lib.hid (show (takeS b 16 ⟨Q * 8, s.out⟩).bind (fun x => (takeS b 16 x.2).bind fun y => if x.1 + y.1 = 65535 then bytesS b most x.1 y.2 else .error 8) = R by rw [hQ]; exact HR.out)
  clear hsk hQ HR
  go_enter Try.func36, Try.ntmps36
  go_wp2_with fail
  refine (take_val _ p v0 b most (.ok ⟨Q * 8, s.out⟩) 16 HS.out.1 (by omega)).mono ?_
  rintro r w1 ⟨rfl, h1, hs1⟩
  have hst1 := HS.out.2.trans hs1
  have HR := Lib.hid ((split_bind _ fun n s1 => (takeS b 16 s1).bind fun y => if n + y.1 = 65535 then bytesS b most n y.2 else .error 8).symm.trans HR2.out)
  have hN : valOf ((Except.ok ⟨Q * 8, s.out⟩ : Except Int St).bind (takeS b 16)) < 65536 := valOf_lt (n := 16)
  rw [show takeS b 16 ⟨Q * 8, s.out⟩ = (Except.ok ⟨Q * 8, s.out⟩ : Except Int St).bind (takeS b 16) from rfl] at HR
  generalize (Except.ok ⟨Q * 8, s.out⟩ : Except Int St).bind (takeS b 16) = R1 at h1 HR hN ⊢
  generalize valOf R1 = N at HR hN ⊢
  generalize stOf R1 = X1 at h1 HR
  clear HR2 HS hs1 c1 f1 h hb ho hpos hlen q1 q2 hq
  go_wp2_with fail
  refine (take_val _ p v0 b most X1 16 h1 (by omega)).mono ?_
  rintro r w2 ⟨rfl, h2, hs2⟩
  have hst2 := hst1.trans hs2
  have hr := HR.out
  rw [bind_assoc, split_bind _ fun m s2 => if N + m = 65535 then bytesS b most N s2 else .error 8] at hr
  have hM : valOf (X1.bind (takeS b 16)) < 65536 := valOf_lt (n := 16)
  generalize X1.bind (takeS b 16) = R2 at h2 hr hM ⊢
  generalize valOf R2 = M at hr hM ⊢
  generalize stOf R2 = X2 at h2 hr
  replace HR := Lib.hid hr
  clear hr h1 hst1 hs2 w1
  have c4 := h2.cell4
  cases X2 with
  | error k =>
    replace c4 : w2.cell? ⟨p, 4, none⟩ = some (.int .i64 k) := c4
    have hkb : (k == 0) = false := by rw [beq_eq_false_iff_ne]; exact h2.bad k rfl
    have HX3 := Lib.hid (show (Except.error k : Except Int St).bind (bytesS b most N) = R from HR.out)
    go_wp2_with fail
    clear HR c4 hkb hM
    obtain ⟨w3, rfl⟩ : ∃ w3, w3 = w2 := ⟨_, rfl⟩
    obtain ⟨X3, hX3⟩ : ∃ X3 : Except Int St, X3 = .error k := ⟨_, rfl⟩
    rw [← hX3] at HX3 h2
    clear hX3
    have h3 := h2; have hst3 := hst2; clear h2 hst2
    go_loopw [4, 5] (fun v4 _ wr => ∃ (i : Nat) (X : Except Int St), v4 = .int .i64 i ∧ i ≤ N ∧ RStr wr p v0 b most X ∧ Wf.Step p RTS w wr ∧ X.bind (bytesS b most (N - i)) = R) (fun v4 _ _ => N - (intOf v4).toNat)
    case atStart => exact ⟨0, X3, rfl, by omega, h3, hst3, HX3.out⟩
    case round =>
      clear h3 hst3 HX3
      obtain ⟨i, X, rfl, hi, h3, hst3, hx⟩ := hrel
      have HX3 := Lib.hid hx
      clear hx
      have c4 := h3.cell4
      by_cases hlt : i < N
      · have hlti : (i : Int) < (N : Int) := by omega
        cases X with
        | error k =>
          replace c4 : wr.cell? ⟨p, 4, none⟩ = some (.int .i64 k) := c4
          have hkb : (k == 0) = false := by rw [beq_eq_false_iff_ne]; exact h3.bad k rfl
          go_wp2_with fail
          go_end0
          have hr : Except.error k = R := HX3.out
          subst hr
          exact ⟨hst3, rfl, h3⟩
        | ok s4 =>
          replace c4 : wr.cell? ⟨p, 4, none⟩ = some (.int .i64 0) := c4
          go_wp2_with fail
          refine (take_val _ p v0 b most (.ok s4) 8 h3 (by omega)).mono ?_
          rintro r w4 ⟨rfl, h4, hs4⟩
          have hst4 := hst3.trans hs4
          have hr := HX3.out
          obtain ⟨f, hf⟩ : ∃ f, N - i = f + 1 := ⟨N - i - 1, by omega⟩
          have hf2 : N - (i + 1) = f := by omega
          have HF := Lib.hid hf2
          rw [hf] at hr
          have hr : ((Except.ok s4 : Except Int St).bind (takeS b 8)).bind (fun x => (tellS most x.1 x.2).bind (bytesS b most f)) = R := hr
          rw [split_bind _ fun n s5 => (tellS most n s5).bind (bytesS b most f), bind_assoc] at hr
          have hV : valOf ((Except.ok s4 : Except Int St).bind (takeS b 8)) < 256 := valOf_lt (n := 8)
          generalize (Except.ok s4 : Except Int St).bind (takeS b 8) = R5 at h4 hr hV ⊢
          generalize valOf R5 = V at hr hV ⊢
          generalize stOf R5 = X5 at h4 hr
          replace HX3 := Lib.hid hr
          clear hr h3 hst3 hs4 c4 hf hf2
          have q8 : IntKind.u8.wrap (V : Int) = (V : Int) := IntWalk.u8_in _ (by omega)
          go_wp2_with fail
          refine (rtell_any _ p v0 b most X5 (V : Int) h4).mono ?_
          rintro r w6 ⟨hs6, rfl, h6⟩
          have hst6 := hst4.trans hs6
          clear hs6 h4 hst4 q8
          go_wp2_with fail
          exact ⟨⟨i + 1, _, by go_num, by omega, h6, hst6, by rw [HF.out]; exact HX3.out⟩, by simp [intOf]; omega⟩
      · have hie : i = N := by omega
        have hlti : ¬ (i : Int) < (N : Int) := by omega
        have HIE := Lib.hid hie
        clear hie
        go_wp2_with fail
        go_end0
        have hr := HX3.out
        rw [HIE.out, Nat.sub_self] at hr
        have hr : X = R := by rw [← hr]; cases X <;> rfl
        subst hr
        exact ⟨hst3, rfl, h3⟩
  | ok s2 =>
    replace c4 : w2.cell? ⟨p, 4, none⟩ = some (.int .i64 0) := c4
    by_cases he : N + M = 65535
    · have hei : ((N : Int) + M != 65535) = false := by simp; omega
      have hr := HR.out
      simp only [Except.bind] at hr
      rw [if_pos he] at hr
      have HX3 := Lib.hid (show (Except.ok s2 : Except Int St).bind (bytesS b most N) = R from hr)
      clear hr
      go_wp2_with fail
      clear HR c4 hei hM
      obtain ⟨w3, rfl⟩ : ∃ w3, w3 = w2 := ⟨_, rfl⟩
      obtain ⟨X3, hX3⟩ : ∃ X3 : Except Int St, X3 = .ok s2 := ⟨_, rfl⟩
      rw [← hX3] at HX3 h2
      clear hX3
      have h3 := h2; have hst3 := hst2; clear h2 hst2
      go_loopw [4, 5] (fun v4 _ wr => ∃ (i : Nat) (X : Except Int St), v4 = .int .i64 i ∧ i ≤ N ∧ RStr wr p v0 b most X ∧ Wf.Step p RTS w wr ∧ X.bind (bytesS b most (N - i)) = R) (fun v4 _ _ => N - (intOf v4).toNat)
      case atStart => exact ⟨0, X3, rfl, by omega, h3, hst3, HX3.out⟩
      case round =>
        clear h3 hst3 HX3
        obtain ⟨i, X, rfl, hi, h3, hst3, hx⟩ := hrel
        have HX3 := Lib.hid hx
        clear hx
        have c4 := h3.cell4
        by_cases hlt : i < N
        · have hlti : (i : Int) < (N : Int) := by omega
          cases X with
          | error k =>
            replace c4 : wr.cell? ⟨p, 4, none⟩ = some (.int .i64 k) := c4
            have hkb : (k == 0) = false := by rw [beq_eq_false_iff_ne]; exact h3.bad k rfl
            go_wp2_with fail
            go_end0
            have hr : Except.error k = R := HX3.out
            subst hr
            exact ⟨hst3, rfl, h3⟩
          | ok s4 =>
            replace c4 : wr.cell? ⟨p, 4, none⟩ = some (.int .i64 0) := c4
            go_wp2_with fail
            refine (take_val _ p v0 b most (.ok s4) 8 h3 (by omega)).mono ?_
            rintro r w4 ⟨rfl, h4, hs4⟩
            have hst4 := hst3.trans hs4
            have hr := HX3.out
            obtain ⟨f, hf⟩ : ∃ f, N - i = f + 1 := ⟨N - i - 1, by omega⟩
            have hf2 : N - (i + 1) = f := by omega
            have HF := Lib.hid hf2
            rw [hf] at hr
            have hr : ((Except.ok s4 : Except Int St).bind (takeS b 8)).bind (fun x => (tellS most x.1 x.2).bind (bytesS b most f)) = R := hr
            rw [split_bind _ fun n s5 => (tellS most n s5).bind (bytesS b most f), bind_assoc] at hr
            have hV : valOf ((Except.ok s4 : Except Int St).bind (takeS b 8)) < 256 := valOf_lt (n := 8)
            generalize (Except.ok s4 : Except Int St).bind (takeS b 8) = R5 at h4 hr hV ⊢
            generalize valOf R5 = V at hr hV ⊢
            generalize stOf R5 = X5 at h4 hr
            replace HX3 := Lib.hid hr
            clear hr h3 hst3 hs4 c4 hf hf2
            have q8 : IntKind.u8.wrap (V : Int) = (V : Int) := IntWalk.u8_in _ (by omega)
            go_wp2_with fail
            refine (rtell_any _ p v0 b most X5 (V : Int) h4).mono ?_
            rintro r w6 ⟨hs6, rfl, h6⟩
            have hst6 := hst4.trans hs6
            clear hs6 h4 hst4 q8
            go_wp2_with fail
            exact ⟨⟨i + 1, _, by go_num, by omega, h6, hst6, by rw [HF.out]; exact HX3.out⟩, by simp [intOf]; omega⟩
        · have hie : i = N := by omega
          have hlti : ¬ (i : Int) < (N : Int) := by omega
          have HIE := Lib.hid hie
          clear hie
          go_wp2_with fail
          go_end0
          have hr := HX3.out
          rw [HIE.out, Nat.sub_self] at hr
          have hr : X = R := by rw [← hr]; cases X <;> rfl
          subst hr
          exact ⟨hst3, rfl, h3⟩
    · have hei : ((N : Int) + M != 65535) = true := by simp; omega
      have hr := HR.out
      simp only [Except.bind] at hr
      rw [if_neg he] at hr
      have HX3 := Lib.hid (show (Except.error 8 : Except Int St).bind (bytesS b most N) = R from hr)
      clear hr
      go_wp2_with fail
      refine (fail_calls _ p _ b most s2 8 h2 (by omega)).mono ?_
      rintro r w3 ⟨hs3, rfl, h3⟩
      have hst3 := hst2.trans hs3
      go_wp2_with fail
      clear HR c4 hei hM hst2 h2 hs3
      obtain ⟨X3, hX3⟩ : ∃ X3 : Except Int St, X3 = .error 8 := ⟨_, rfl⟩
      rw [← hX3] at HX3 h3
      clear hX3
      go_loopw [4, 5] (fun v4 _ wr => ∃ (i : Nat) (X : Except Int St), v4 = .int .i64 i ∧ i ≤ N ∧ RStr wr p v0 b most X ∧ Wf.Step p RTS w wr ∧ X.bind (bytesS b most (N - i)) = R) (fun v4 _ _ => N - (intOf v4).toNat)
      case atStart => exact ⟨0, X3, rfl, by omega, h3, hst3, HX3.out⟩
      case round =>
        clear h3 hst3 HX3
        obtain ⟨i, X, rfl, hi, h3, hst3, hx⟩ := hrel
        have HX3 := Lib.hid hx
        clear hx
        have c4 := h3.cell4
        by_cases hlt : i < N
        · have hlti : (i : Int) < (N : Int) := by omega
          cases X with
          | error k =>
            replace c4 : wr.cell? ⟨p, 4, none⟩ = some (.int .i64 k) := c4
            have hkb : (k == 0) = false := by rw [beq_eq_false_iff_ne]; exact h3.bad k rfl
            go_wp2_with fail
            go_end0
            have hr : Except.error k = R := HX3.out
            subst hr
            exact ⟨hst3, rfl, h3⟩
          | ok s4 =>
            replace c4 : wr.cell? ⟨p, 4, none⟩ = some (.int .i64 0) := c4
            go_wp2_with fail
            refine (take_val _ p v0 b most (.ok s4) 8 h3 (by omega)).mono ?_
            rintro r w4 ⟨rfl, h4, hs4⟩
            have hst4 := hst3.trans hs4
            have hr := HX3.out
            obtain ⟨f, hf⟩ : ∃ f, N - i = f + 1 := ⟨N - i - 1, by omega⟩
            have hf2 : N - (i + 1) = f := by omega
            have HF := Lib.hid hf2
            rw [hf] at hr
            have hr : ((Except.ok s4 : Except Int St).bind (takeS b 8)).bind (fun x => (tellS most x.1 x.2).bind (bytesS b most f)) = R := hr
            rw [split_bind _ fun n s5 => (tellS most n s5).bind (bytesS b most f), bind_assoc] at hr
            have hV : valOf ((Except.ok s4 : Except Int St).bind (takeS b 8)) < 256 := valOf_lt (n := 8)
            generalize (Except.ok s4 : Except Int St).bind (takeS b 8) = R5 at h4 hr hV ⊢
            generalize valOf R5 = V at hr hV ⊢
            generalize stOf R5 = X5 at h4 hr
            replace HX3 := Lib.hid hr
            clear hr h3 hst3 hs4 c4 hf hf2
            have q8 : IntKind.u8.wrap (V : Int) = (V : Int) := IntWalk.u8_in _ (by omega)
            go_wp2_with fail
            refine (rtell_any _ p v0 b most X5 (V : Int) h4).mono ?_
            rintro r w6 ⟨hs6, rfl, h6⟩
            have hst6 := hst4.trans hs6
            clear hs6 h4 hst4 q8
            go_wp2_with fail
            exact ⟨⟨i + 1, _, by go_num, by omega, h6, hst6, by rw [HF.out]; exact HX3.out⟩, by simp [intOf]; omega⟩
        · have hie : i = N := by omega
          have hlti : ¬ (i : Int) < (N : Int) := by omega
          have HIE := Lib.hid hie
          clear hie
          go_wp2_with fail
          go_end0
          have hr := HX3.out
          rw [HIE.out, Nat.sub_self] at hr
          have hr : X = R := by rw [← hr]; cases X <;> rfl
          subst hr
          exact ⟨hst3, rfl, h3⟩
end Go.Proofs.Ytkdjljnplfempaa
