/- Package ref05: a block of symbols. -/
import Derived.Test.YtkdjljnplfempaaWfRStored
import Derived.Test.YtkdjljnplfempaaWfRefSym
import Derived.Test.YtkdjljnplfempaaWfRefLen
import Derived.Test.YtkdjljnplfempaaWfRefFixed
import Derived.WalkKit
import Derived.WalkLawsBesides
import Derived.Lib.Hide
import Derived.Deep.QuietTactic
import Derived.BigQuiet
import Derived.Deep.LoopGhost
import Derived.StillTailTactics
import Derived.Deep.RegionHeld3
import Derived.Deep.RegionWith
import Derived.Handy
set_option linter.unusedVariables false
set_option linter.unusedSimpArgs false
set_option linter.unusedSectionVars false
namespace Go.Proofs.Ytkdjljnplfempaa
open Go.RowKit Wf

/-- A slice of ints in a block of ints. -/
def Ints (w : World) (A : Option Addr) (zs : List Int) : Prop := ∃ g o cs, A = some ⟨g, o, none⟩ ∧ Blk w g 3 cs ∧ ∀ j u, (ints .i64 zs)[j]? = some u → cs[o + j]? = some u
theorem Ints.sees {w : World} {A : Option Addr} {zs : List Int} (h : Ints w A zs) : Sees w A (ints .i64 zs) := by
  obtain ⟨g, o, cs, rfl, hb, hc⟩ := h
  exact .inr ⟨g, o, rfl, hb.lt, fun j u hj => (hb.cell (o + j)).trans (hc j u hj)⟩
theorem Ints.step {w w' : World} {p : Nat} {A : Option Addr} {zs : List Int} (h : Ints w A zs) (hs : Wf.Step p RTS w w') : Ints w' A zs := by
  obtain ⟨g, o, cs, rfl, hb, hc⟩ := h
  exact ⟨g, o, cs, rfl, hb.step hs (.inr (by decide)), hc⟩

theorem rlength_ok {w : World} {x a e : Nat} (h : lenS x = some (a, e)) : Calls Try.prog 15 #[.int .i64 x] w fun r w' => r = .returned (.tuple #[.int .i64 a, .int .i64 e, .int .i64 0]) ∧ w = w' := by
  have := refLength_calls w x
  rwa [(lenS_some h).1] at this
theorem rlength_err {w : World} {x : Nat} (h : lenS x = none) : Calls Try.prog 15 #[.int .i64 x] w fun r w' => r = .returned (.tuple #[.int .i64 0, .int .i64 0, .int .i64 2]) ∧ w = w' := by
  have := refLength_calls w x
  rwa [lenS_none h] at this
theorem rdistance_ok {w : World} {x a e : Nat} (h : distS x = some (a, e)) : Calls Try.prog 17 #[.int .i64 x] w fun r w' => r = .returned (.tuple #[.int .i64 a, .int .i64 e, .int .i64 0]) ∧ w = w' := by
  have := refDistance_calls w x
  rwa [(distS_some h).1] at this
theorem rdistance_err {w : World} {x : Nat} (h : distS x = none) : Calls Try.prog 17 #[.int .i64 x] w fun r w' => r = .returned (.tuple #[.int .i64 0, .int .i64 0, .int .i64 2]) ∧ w = w' := by
  have := refDistance_calls w x
  rwa [distS_none h] at this


set_option maxHeartbeats 6400000 in
set_option maxRecDepth 100000 in
theorem rcoded_calls (w : World) (p : Nat) (v0 : Value) (b : List Int) (most : Nat) (X0 : Except Int St) (A1 A2 : Option Addr) (c1 c2 : Nat) (sy di : List Int) (f0 : Nat) (h : RStr w p v0 b most X0)
    (hA1 : Ints w A1 sy) (hA2 : Ints w A2 di) (hz1 : okLens sy) (hz2 : okLens di) (hf : ∀ s, X0 = .ok s → 8 * b.length < f0 + s.pos) :
    Calls Try.prog 37 #[.pointer (some ⟨p, 0, none⟩), .slice A1 sy.length c1, .slice A2 di.length c2] w (RPost0 w p v0 b most (X0.bind (codedS b most sy di f0))) := by
  generalize hR : X0.bind (codedS b most sy di f0) = R
  have HR := Lib.hid hR
  clear hR
  have hst : Wf.Step p RTS w w := Wf.Step.refl p RTS w
  go_enter Try.func37, Try.ntmps37
  go_wp2_with fail
  go_loopg [] (f0 + 1) (fun k wr => ∃ (X : Except Int St) (f : Nat), k = f + 1 ∧ RStr wr p v0 b most X ∧ Wf.Step p RTS w wr ∧ Ints wr A1 sy ∧ Ints wr A2 di ∧ (∀ s, X = .ok s → 8 * b.length < f + s.pos) ∧ X.bind (codedS b most sy di f) = R)
  case atStart => exact ⟨X0, f0, rfl, h, hst, hA1, hA2, hf, HR.out⟩
  case round =>
    clear h hst hA1 hA2 hf HR
    obtain ⟨X, f, rfl, h, hst, hA1, hA2, hf, hx⟩ := hrel
    have c4 := h.cell4
    have HR := Lib.hid hx
    clear hx
    cases X with
    | error k =>
      replace c4 : wr.cell? ⟨p, 4, none⟩ = some (.int .i64 k) := c4
      have hkb : (k == 0) = false := by rw [beq_eq_false_iff_ne]; exact h.bad k rfl
      go_wp2_with fail
      go_end0
      have hr : Except.error k = R := HR.out
      subst hr
      exact ⟨hst, rfl, h⟩
    | ok s =>
      replace c4 : wr.cell? ⟨p, 4, none⟩ = some (.int .i64 0) := c4
      obtain ⟨f, rfl⟩ : ∃ f', f = f' + 1 := ⟨f - 1, by have := hf s rfl; have := (h.pos s rfl).1; omega⟩
      have hm := hf s rfl
      have hpl := (h.pos s rfl).1
      have hr : (symS sy b s).bind (fun x => if x.1 < 256 then (tellS most x.1 x.2).bind (codedS b most sy di f) else if x.1 = 256 then .ok x.2 else (pieceS b most di x.1 x.2).bind (codedS b most sy di f)) = R := HR.out
      replace HR := Lib.hid hr
      clear hr hf
      go_wp2_with fail
      have hcs := rsym_calls wr p v0 b most (.ok s) A1 c1 sy h hA1.sees hz1
      rw [show (Except.ok s : Except Int St).bind (symS sy b) = symS sy b s from rfl] at hcs
      refine hcs.mono ?_
      clear hcs
      rintro r w1 ⟨hsx, hp⟩
      have hst1 := hst.trans hsx
      have hB1 := hA1.step hsx
      have hB2 := hA2.step hsx
      clear hst hA1 hA2 hsx h c4
      cases hs1 : symS sy b s with
      | error e0 =>
        rw [hs1] at hp
        obtain ⟨rfl, h1⟩ := hp
        have c4 : w1.cell? ⟨p, 4, none⟩ = some (.int .i64 e0) := h1.cell4
        have hkb : (e0 != 0) = true := by rw [bne_iff_ne]; exact h1.bad e0 rfl
        go_wp2_with fail
        have hr := HR.out
        rw [hs1] at hr
        have hr : Except.error e0 = R := hr
        subst hr
        refine bodyPost_ret (results_none rfl _ _ _) rfl ?_
        exact ⟨hst1, rfl, h1⟩
      | ok y =>
        obtain ⟨x, s1⟩ := y
        rw [hs1] at hp
        obtain ⟨rfl, h1⟩ := hp
        have c4 : w1.cell? ⟨p, 4, none⟩ = some (.int .i64 0) := h1.cell4
        have hbd := symS_bound hs1
        have hx5 : x < 512 := by have := hz1.2.2; omega
        have hm1 : 8 * b.length < f + s1.pos := by omega
        have hr := HR.out
        rw [hs1] at hr
        have hr : (if x < 256 then (tellS most x s1).bind (codedS b most sy di f) else if x = 256 then .ok s1 else (pieceS b most di x s1).bind (codedS b most sy di f)) = R := hr
        replace HR := Lib.hid hr
        clear hr hs1 hbd hm hpl
        by_cases hx1 : x < 256
        · have hxi : (x : Int) < 256 := by omega
          have hxe : ((x : Int) == 256) = false := by rw [beq_eq_false_iff_ne]; omega
          have q8 : IntKind.u8.wrap (x : Int) = (x : Int) := IntWalk.u8_in _ (by omega)
          have hr := HR.out
          rw [if_pos hx1] at hr
          replace HR := Lib.hid hr
          clear hr
          go_wp2_with fail
          refine (rtell_calls _ p v0 b most s1 (x : Int) h1).mono ?_
          rintro r w2 ⟨hs2, rfl, h2⟩
          have hst2 := hst1.trans hs2
          have hC1 := hB1.step hs2
          have hC2 := hB2.step hs2
          clear hs2 hst1 hB1 hB2 h1 c4
          go_wp2_with fail
          go_roundg (f + 1)
          case measure => omega
          case rel => exact ⟨_, f, rfl, h2, hst2, hC1, hC2, fun s' e => by have := tellS_pos e; omega, HR.out⟩
        · by_cases hx2 : x = 256
          · subst hx2
            have hr := HR.out
            rw [if_neg hx1, if_pos rfl] at hr
            subst hr
            go_wp2_with fail
            refine bodyPost_ret (results_none rfl _ _ _) rfl ?_
            exact ⟨hst1, rfl, h1⟩
          · have hxi : ¬ (x : Int) < 256 := by omega
            have hxe : ((x : Int) == 256) = false := by rw [beq_eq_false_iff_ne]; omega
            have hr := HR.out
            rw [if_neg hx1, if_neg hx2] at hr
            replace HR := Lib.hid hr
            clear hr
            cases hl : lenS x with
            | none =>
              have hr := HR.out
              unfold pieceS at hr
              rw [hl] at hr
              have hr : Except.error 8 = R := hr
              subst hr
              go_wp2_with (go_at_call 15; refine (rlength_err hl).mono ?_; rintro r wx ⟨rfl, rfl⟩)
              refine (fail_calls _ p _ b most s1 8 h1 (by omega)).mono ?_
              rintro r w2 ⟨hs2, rfl, h2⟩
              go_wp2_with fail
              refine bodyPost_ret (results_none rfl _ _ _) rfl ?_
              exact ⟨hst1.trans hs2, rfl, h2⟩
            | some y =>
              obtain ⟨base, extra⟩ := y
              go_wp2_with (go_at_call 15; refine (rlength_ok hl).mono ?_; rintro r wx ⟨rfl, rfl⟩)
              have hbe := lenS_some hl
              have hba : base ≤ 258 := hbe.2.1
              have hex : extra ≤ 5 := hbe.2.2.1
              clear hbe
              obtain ⟨P, hP⟩ : ∃ P, P = pieceS b most di x s1 := ⟨_, rfl⟩
              have hpp : ∀ s', P = .ok s' → 8 * b.length < f + s'.pos := fun s' e => by have := pieceS_pos (hP.symm.trans e); omega
              rw [← hP] at HR
              have HPP := Lib.hid hpp
              have hP2 : ((Except.ok s1 : Except Int St).bind (takeS b extra)).bind (fun e => (symS di b e.2).bind fun y => match distS y.1 with
                  | none => .error 8
                  | some (far, more) => (takeS b more y.2).bind fun m => if m.2.out.length < far + m.1 then .error 8 else copyS most (far + m.1) (base + e.1) m.2) = P := by
                rw [hP]; unfold pieceS; rw [hl]; rfl
              rw [split_bind _ fun e s5 => (symS di b s5).bind fun y => match distS y.1 with
                  | none => .error 8
                  | some (far, more) => (takeS b more y.2).bind fun m => if m.2.out.length < far + m.1 then .error 8 else copyS most (far + m.1) (base + e) m.2, bind_assoc] at hP2
              refine (take_val _ p v0 b most (.ok s1) extra h1 (by omega)).mono ?_
              rintro r w2 ⟨rfl, h2, hs2⟩
              have hV : valOf ((Except.ok s1 : Except Int St).bind (takeS b extra)) < 2 ^ extra := valOf_lt
              have hpw : 2 ^ extra ≤ 2 ^ 5 := Nat.pow_le_pow_right (by omega) hex
              generalize (Except.ok s1 : Except Int St).bind (takeS b extra) = R1 at h2 hP2 hV ⊢
              generalize valOf R1 = V at hP2 hV ⊢
              generalize stOf R1 = X1 at h2 hP2
              have hV2 : V < 32 := by omega
              have hst2 := hst1.trans hs2
              have hC1 := hB1.step hs2
              have hC2 := hB2.step hs2
              have HP := Lib.hid hP2
              clear hP2 hV hpw hpp hP hs2 hst1 hB1 hB2 h1 c4 hxi hxe
              obtain ⟨N, hN⟩ : ∃ N, N = base + V := ⟨_, rfl⟩
              rw [← hN] at HP
              have HN := Lib.hid (show (base : Int) + V = (N : Int) by omega)
              have hNb : N < 300 := by omega
              clear hN
              go_wp2_with fail
              rw [HN.out]
              refine (sym_val _ p v0 b most X1 A2 c2 di h2 hC2.sees hz2).mono ?_
              rintro r w3 ⟨rfl, h3, hs3⟩
              have hst3 := hst2.trans hs3
              replace hC1 := hC1.step hs3
              replace hC2 := hC2.step hs3
              clear hs3 hst2 h2
              generalize X1.bind (symS di b) = R2 at h3 HP ⊢
              cases R2 with
              | error k =>
                have hp0 : Except.error k = P := HP.out
                have h3 : RStr w3 p v0 b most (.error k) := h3
                have c4 : w3.cell? ⟨p, 4, none⟩ = some (.int .i64 k) := h3.cell4
                have hkb : (k == 0) = false := by rw [beq_eq_false_iff_ne]; exact h3.bad k rfl
                go_wp2_with (go_at_call 17; refine (rdistance_ok (x := 0) (a := 1) (e := 0) rfl).mono ?_; rintro r wx ⟨rfl, rfl⟩)
                have hct := take_calls _ p v0 b most (.error k) 0 h3 (by omega)
                rw [show (Except.error k : Except Int St).bind (takeS b 0) = .error k from rfl] at hct
                refine hct.mono ?_
                clear hct
                rintro r w5 ⟨hs5, rfl, h5⟩
                have hst5 := hst3.trans hs5
                replace hC1 := hC1.step hs5
                replace hC2 := hC2.step hs5
                clear hs5 hst3 h3 c4
                have c4 : w5.cell? ⟨p, 4, none⟩ = some (.int .i64 k) := h5.cell4
                go_wp2_with fail
                try clear hkb
                clear c4
                go_loopw [15] (fun v15 wr2 => v15 = .int .i64 0 ∧ RStr wr2 p v0 b most (.error k) ∧ Wf.Step p RTS w wr2 ∧ Ints wr2 A1 sy ∧ Ints wr2 A2 di) (fun _ _ => 0)
                case atStart => exact ⟨rfl, h5, hst5, hC1, hC2⟩
                case round =>
                  clear h5 hst5 hC1 hC2
                  obtain ⟨rfl, h5, hst5, hC1, hC2⟩ := hrel
                  have c4 : wr.cell? ⟨p, 4, none⟩ = some (.int .i64 k) := h5.cell4
                  have hkb : (k == (0 : Int)) = false := by rw [beq_eq_false_iff_ne]; exact h5.bad _ rfl
                  have hrr : (Except.error k : Except Int St).bind (codedS b most sy di f) = R := by have := HR.out; rw [← hp0] at this; exact this
                  go_wp2_with fail
                  all_goals
                    go_roundg (f + 1)
                    case measure => omega
                    case rel => exact ⟨_, f, rfl, h5, hst5, hC1, hC2, fun s' e => (by cases e), hrr⟩
              | ok y =>
                obtain ⟨d, s2⟩ := y
                have h3 : RStr w3 p v0 b most (.ok s2) := h3
                have c4 : w3.cell? ⟨p, 4, none⟩ = some (.int .i64 0) := h3.cell4
                cases hd : distS d with
                | none =>
                  go_wp2_with (go_at_call 17; refine (rdistance_err hd).mono ?_; rintro r wx ⟨rfl, rfl⟩)
                  have hp0 : Except.error 8 = P := by have := HP.out; simp only [Except.bind, hd] at this; exact this
                  refine (fail_calls _ p _ b most s2 8 h3 (by omega)).mono ?_
                  rintro r w4 ⟨hs4, rfl, h4⟩
                  have hst4 := hst3.trans hs4
                  replace hC1 := hC1.step hs4
                  replace hC2 := hC2.step hs4
                  clear hs4 hst3 h3 c4
                  have c4 : w4.cell? ⟨p, 4, none⟩ = some (.int .i64 8) := h4.cell4
                  go_wp2_with fail

                  have hct := take_calls _ p v0 b most (.error 8) 0 h4 (by omega)
                  rw [show (Except.error 8 : Except Int St).bind (takeS b 0) = .error 8 from rfl] at hct
                  refine hct.mono ?_
                  clear hct
                  rintro r w5 ⟨hs5, rfl, h5⟩
                  have hst5 := hst4.trans hs5
                  replace hC1 := hC1.step hs5
                  replace hC2 := hC2.step hs5
                  clear hs5 hst4 h4 c4
                  have c4 : w5.cell? ⟨p, 4, none⟩ = some (.int .i64 8) := h5.cell4
                  go_wp2_with fail
                  try clear hkb
                  clear c4
                  go_loopw [15] (fun v15 wr2 => v15 = .int .i64 0 ∧ RStr wr2 p v0 b most (.error 8) ∧ Wf.Step p RTS w wr2 ∧ Ints wr2 A1 sy ∧ Ints wr2 A2 di) (fun _ _ => 0)
                  case atStart => exact ⟨rfl, h5, hst5, hC1, hC2⟩
                  case round =>
                    clear h5 hst5 hC1 hC2
                    obtain ⟨rfl, h5, hst5, hC1, hC2⟩ := hrel
                    have c4 : wr.cell? ⟨p, 4, none⟩ = some (.int .i64 8) := h5.cell4
                    have hkb : (8 == (0 : Int)) = false := by rw [beq_eq_false_iff_ne]; exact h5.bad _ rfl
                    have hrr : (Except.error 8 : Except Int St).bind (codedS b most sy di f) = R := by have := HR.out; rw [← hp0] at this; exact this
                    go_wp2_with fail
                    all_goals
                      go_roundg (f + 1)
                      case measure => omega
                      case rel => exact ⟨_, f, rfl, h5, hst5, hC1, hC2, fun s' e => (by cases e), hrr⟩
                | some z =>
                  obtain ⟨far, more⟩ := z
                  go_wp2_with (go_at_call 17; refine (rdistance_ok hd).mono ?_; rintro r wx ⟨rfl, rfl⟩)
                  have hde := distS_some hd
                  have hf1 : far ≤ 24577 := hde.2.1
                  have hm1b : more ≤ 13 := hde.2.2.1
                  have hf0 : 0 < far := hde.2.2.2
                  clear hde
                  have hp1 : (takeS b more s2).bind (fun m => if m.2.out.length < far + m.1 then .error 8 else copyS most (far + m.1) N m.2) = P := by have := HP.out; simp only [Except.bind, hd] at this; exact this
                  replace HP := Lib.hid hp1
                  clear hp1
                  have hct := take_calls _ p v0 b most (.ok s2) more h3 (by omega)
                  rw [show (Except.ok s2 : Except Int St).bind (takeS b more) = takeS b more s2 from rfl] at hct
                  refine hct.mono ?_
                  clear hct
                  rintro r w5 ⟨hs5, hp⟩
                  have hst5 := hst3.trans hs5
                  replace hC1 := hC1.step hs5
                  replace hC2 := hC2.step hs5
                  clear hs5 hst3 h3 c4
                  cases ht : takeS b more s2 with
                  | error k =>
                    rw [ht] at hp
                    obtain ⟨rfl, h5⟩ := hp
                    have hp0 : Except.error k = P := by have := HP.out; rw [ht] at this; exact this
                    have c4 : w5.cell? ⟨p, 4, none⟩ = some (.int .i64 k) := h5.cell4
                    have hkb : (k == 0) = false := by rw [beq_eq_false_iff_ne]; exact h5.bad k rfl
                    go_wp2_with fail
                    clear hkb c4
                    go_loopw [15] (fun v15 wr2 => v15 = .int .i64 0 ∧ RStr wr2 p v0 b most (.error k) ∧ Wf.Step p RTS w wr2 ∧ Ints wr2 A1 sy ∧ Ints wr2 A2 di) (fun _ _ => 0)
                    case atStart => exact ⟨rfl, h5, hst5, hC1, hC2⟩
                    case round =>
                      clear h5 hst5 hC1 hC2
                      obtain ⟨rfl, h5, hst5, hC1, hC2⟩ := hrel
                      have c4 : wr.cell? ⟨p, 4, none⟩ = some (.int .i64 k) := h5.cell4
                      have hkb : (k == (0 : Int)) = false := by rw [beq_eq_false_iff_ne]; exact h5.bad _ rfl
                      have hrr : (Except.error k : Except Int St).bind (codedS b most sy di f) = R := by have := HR.out; rw [← hp0] at this; exact this
                      go_wp2_with fail
                      all_goals
                        go_roundg (f + 1)
                        case measure => omega
                        case rel => exact ⟨_, f, rfl, h5, hst5, hC1, hC2, fun s' e => (by cases e), hrr⟩

                  | ok y =>
                    obtain ⟨m, s3⟩ := y
                    rw [ht] at hp
                    obtain ⟨rfl, h5⟩ := hp
                    have hml := takeS_lt ht
                    have hme : 2 ^ more ≤ 2 ^ 13 := Nat.pow_le_pow_right (by omega) hm1b
                    have hmb : m < 8192 := by omega
                    have hp1 : (if s3.out.length < far + m then .error 8 else copyS most (far + m) N s3) = P := by have := HP.out; rw [ht] at this; exact this
                    have c4 : w5.cell? ⟨p, 4, none⟩ = some (.int .i64 0) := h5.cell4
                    obtain ⟨F, hF⟩ : ∃ F, F = far + m := ⟨_, rfl⟩
                    rw [← hF] at hp1
                    have HF := Lib.hid (show (far : Int) + m = (F : Int) by omega)
                    have hFb : F < 40000 := by omega
                    have hF0 : 0 < F := by omega
                    clear hF hml hme HP ht
                    obtain ⟨vo, hb5, ho5⟩ := h5.live
                    obtain ⟨Ao, co, rfl⟩ := ho5.isSlice
                    have d2 : w5.cell? ⟨p, 2, none⟩ = some (.slice Ao s3.out.length co) := hb5.cell 2
                    clear hb5 ho5
                    by_cases hfar : s3.out.length < F
                    · have hfi : (s3.out.length : Int) < (far : Int) + m := by have := HF.out; omega
                      have hp0 : Except.error 8 = P := by rw [if_pos hfar] at hp1; exact hp1
                      have hs3b := (h5.pos s3 rfl).2
                      go_wp2_with fail
                      refine (fail_calls _ p _ b most s3 8 h5 (by omega)).mono ?_
                      rintro r w6 ⟨hs6, rfl, h6⟩
                      have hst6 := hst5.trans hs6
                      replace hC1 := hC1.step hs6
                      replace hC2 := hC2.step hs6
                      clear hs6 hst5 h5 c4 d2
                      have h5 := h6
                      have hst5 := hst6
                      clear h6 hst6
                      go_wp2_with fail
                      go_loopw [15] (fun v15 wr2 => v15 = .int .i64 0 ∧ RStr wr2 p v0 b most (.error 8) ∧ Wf.Step p RTS w wr2 ∧ Ints wr2 A1 sy ∧ Ints wr2 A2 di) (fun _ _ => 0)
                      case atStart => exact ⟨rfl, h5, hst5, hC1, hC2⟩
                      case round =>
                        clear h5 hst5 hC1 hC2
                        obtain ⟨rfl, h5, hst5, hC1, hC2⟩ := hrel
                        have c4 : wr.cell? ⟨p, 4, none⟩ = some (.int .i64 8) := h5.cell4
                        have hkb : (8 == (0 : Int)) = false := by rw [beq_eq_false_iff_ne]; exact h5.bad _ rfl
                        have hrr : (Except.error 8 : Except Int St).bind (codedS b most sy di f) = R := by have := HR.out; rw [← hp0] at this; exact this
                        go_wp2_with fail
                        all_goals
                          go_roundg (f + 1)
                          case measure => omega
                          case rel => exact ⟨_, f, rfl, h5, hst5, hC1, hC2, fun s' e => (by cases e), hrr⟩

                    · have hfi : decide ((s3.out.length : Int) < (far : Int) + m) = false := by have := HF.out; rw [decide_eq_false_iff_not]; omega
                      have hp2 : copyS most F N s3 = P := by rw [if_neg hfar] at hp1; exact hp1
                      have HP := Lib.hid hp2
                      clear hp2 hp1
                      go_wp2_with fail
                      rw [HF.out]
                      clear c4 d2 hfi
                      have hFl : F ≤ s3.out.length := by omega
                      obtain ⟨wo, rfl⟩ : ∃ wo : World, wo = w5 := ⟨_, rfl⟩
                      go_loopw [15] (fun v15 wr2 => ∃ (i : Nat) (X : Except Int St), v15 = .int .i64 i ∧ i ≤ N ∧ RStr wr2 p v0 b most X ∧ Wf.Step p RTS w wr2 ∧ Ints wr2 A1 sy ∧ Ints wr2 A2 di ∧ (∀ s', X = .ok s' → F ≤ s'.out.length) ∧ X.bind (copyS most F (N - i)) = P) (fun v15 _ => N - (intOf v15).toNat)
                      case atStart => exact ⟨0, .ok s3, rfl, by omega, h5, hst5, hC1, hC2, fun s' e => (by cases e; exact hFl), HP.out⟩
                      case round =>
                        clear h5 hst5 hC1 hC2 HP hFl
                        obtain ⟨i, X, rfl, hi, h5, hst5, hC1, hC2, hFl, hx⟩ := hrel
                        have HX := Lib.hid hx
                        clear hx
                        cases X with
                        | error k =>
                          have c4 : wr.cell? ⟨p, 4, none⟩ = some (.int .i64 k) := h5.cell4
                          have hkb : (k == (0 : Int)) = false := by rw [beq_eq_false_iff_ne]; exact h5.bad _ rfl
                          have hp0 : Except.error k = P := HX.out
                          have hrr : (Except.error k : Except Int St).bind (codedS b most sy di f) = R := by have := HR.out; rw [← hp0] at this; exact this
                          go_wp2_with fail
                          all_goals
                            go_roundg (f + 1)
                            case measure => omega
                            case rel => exact ⟨_, f, rfl, h5, hst5, hC1, hC2, fun s' e => (by cases e), hrr⟩
                        | ok s6 =>
                          have c4 : wr.cell? ⟨p, 4, none⟩ = some (.int .i64 0) := h5.cell4
                          by_cases hlt : i < N
                          · have hlti : (i : Int) < (N : Int) := by omega
                            have hFl6 := hFl s6 rfl
                            obtain ⟨vo, hb6, ho6⟩ := h5.live
                            obtain ⟨Ao, co, rfl⟩ := ho6.isSlice
                            have d2 : wr.cell? ⟨p, 2, none⟩ = some (.slice Ao s6.out.length co) := hb6.cell 2
                            have hol := (h5.pos s6 rfl).2
                            have hmo := h5.most
                            obtain ⟨g, o, rfl, hgl, hcel⟩ := (Sees.ofOwns ho6).int (j := s6.out.length - F) (by omega)
                            have hc := hcel (s6.out.length - F) (by omega)
                            clear hcel
                            have q1 : IntKind.i64.wrap ((s6.out.length : Int) - F) = (s6.out.length : Int) - F := IntWalk.i64_in _ (by omega)
                            have q2 : 0 ≤ (s6.out.length : Int) - F := by omega
                            have q3 : (s6.out.length : Int) - F < s6.out.length := by omega
                            have q4 : ((s6.out.length : Int) - F).toNat = s6.out.length - F := by omega
                            go_wp2_with fail
                            go_still_tail 14, (by kernel_rfl)
                            change wpList _ _ _ _ _ wr.drew
                            go_wp2_with fail
                            clear q1 q2 q3 q4 hc d2 hb6 ho6 hgl c4
                            refine (rtell_calls wr.drew p v0 b most s6 (nth s6.out (s6.out.length - F)) (h5.drewN 1)).mono ?_
                            rintro r w7 ⟨hs7, rfl, h7⟩
                            have hst7 := hst5.drew.trans hs7
                            have hD1 := (show Ints wr.drew A1 sy from hC1).step hs7
                            have hD2 := (show Ints wr.drew A2 di from hC2).step hs7
                            have hxx : (tellS most (nth s6.out (s6.out.length - F)) s6).bind (copyS most F (N - (i + 1))) = P := by
                              have hr := HX.out
                              rw [show N - i = (N - (i + 1)) + 1 by omega] at hr
                              exact hr
                            clear hs7 hst5 hC1 hC2 h5 HX
                            go_wp2_with fail
                            refine ⟨⟨i + 1, tellS most (nth s6.out (s6.out.length - F)) s6, by go_num, by omega, h7, hst7, hD1, hD2, ?_, hxx⟩, by simp [intOf]; omega⟩
                            intro s' e
                            unfold tellS at e
                            split at e
                            · cases e; simp; omega
                            · cases e
                          · have hlti : ¬ (i : Int) < (N : Int) := by omega
                            have hie : N - i = 0 := by omega
                            have hp0 : Except.ok s6 = P := by have := HX.out; rw [hie] at this; exact this
                            have hrr : (Except.ok s6 : Except Int St).bind (codedS b most sy di f) = R := by have := HR.out; rw [← hp0] at this; exact this
                            have hpo := HPP.out s6 hp0.symm
                            go_wp2_with fail
                            go_roundg (f + 1)
                            case measure => omega
                            case rel => exact ⟨_, f, rfl, h5, hst5, hC1, hC2, fun s' e => (by cases e; exact hpo), hrr⟩
end Go.Proofs.Ytkdjljnplfempaa
