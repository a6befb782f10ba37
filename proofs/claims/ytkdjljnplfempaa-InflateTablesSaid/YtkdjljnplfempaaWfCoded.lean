/- A block of symbols. -/
import Derived.Test.YtkdjljnplfempaaWfRead
import Derived.Test.YtkdjljnplfempaaWfInf
import Derived.Test.YtkdjljnplfempaaWfStored
import Derived.Deep.LoopGhost
import Derived.StillTailTactics
import Derived.Deep.RegionHeld3
import Derived.Test.YtkdjljnplfempaaWfHuffP
import Derived.WalkKit
import Derived.WalkLawsBesides
import Derived.Lib.Hide
import Derived.Deep.QuietTactic
import Derived.BigQuiet
import Derived.Handy
set_option linter.unusedVariables false
set_option linter.unusedSimpArgs false
set_option linter.unusedSectionVars false
namespace Go.Proofs.Ytkdjljnplfempaa
open Go.RowKit Wf

theorem length_ok {w : World} {x a e : Nat} (h : lenS x = some (a, e)) : Calls Try.prog 14 #[.int .i64 x] w fun r w' => r = .returned (.tuple #[.int .i64 a, .int .i64 e, .int .i64 0]) ∧ w = w' := by
  have := length_calls w x
  rwa [(lenS_some h).1] at this
theorem length_err {w : World} {x : Nat} (h : lenS x = none) : Calls Try.prog 14 #[.int .i64 x] w fun r w' => r = .returned (.tuple #[.int .i64 0, .int .i64 0, .int .i64 2]) ∧ w = w' := by
  have := length_calls w x
  rwa [lenS_none h] at this
theorem distance_ok {w : World} {x a e : Nat} (h : distS x = some (a, e)) : Calls Try.prog 16 #[.int .i64 x] w fun r w' => r = .returned (.tuple #[.int .i64 a, .int .i64 e, .int .i64 0]) ∧ w = w' := by
  have := distance_calls w x
  rwa [(distS_some h).1] at this
theorem distance_err {w : World} {x : Nat} (h : distS x = none) : Calls Try.prog 16 #[.int .i64 x] w fun r w' => r = .returned (.tuple #[.int .i64 0, .int .i64 0, .int .i64 2]) ∧ w = w' := by
  have := distance_calls w x
  rwa [distS_none h] at this

/-- A reader, written out. -/
structure Rd (w : World) (p : Nat) (zs : List Int) (tb sb T : Nat) : Prop where
  tb : Blk w tb 121 #[.pointer (some ⟨T, 0, none⟩)]
  sb : Blk w sb 64 #[.pointer (some ⟨p, 0, none⟩)]
  tab : Table w T zs
theorem Rd.step {w w' : World} {p : Nat} {zs : List Int} {tb sb T : Nat} (h : Rd w p zs tb sb T) (hs : Wf.Step p TS w w') : Rd w' p zs tb sb T :=
  ⟨h.tb.step hs (.inr (by decide)), h.sb.step hs (.inr (by decide)), h.tab.step hs⟩

section
variable {w : World} {p : Nat} {v0 : Value} {b : List Int} {most : Nat} {s s' : St} {zs : List Int} {tb sb T x : Nat} {k : Int}
theorem sym_ok (h : Str w p v0 b most s) (hz : okLens zs) (hr : Rd w p zs tb sb T) (hs : symS zs b s = .ok (x, s')) :
    Calls Try.prog 95 #[.pointer (some ⟨tb, 0, none⟩), .pointer (some ⟨sb, 0, none⟩)] w fun e w' => e = .returned (.int .i64 x) ∧ Str w' p v0 b most s' ∧ Wf.Step p TS w w' :=
  (reader1_calls w p v0 b most s zs tb sb T h hz hr.tb hr.sb hr.tab).mono fun _ _ hp => by
    obtain ⟨h1, h2⟩ := hp
    rw [hs] at h2
    exact ⟨h2.1, h2.2, h1⟩
theorem sym_err (h : Str w p v0 b most s) (hz : okLens zs) (hr : Rd w p zs tb sb T) (hs : symS zs b s = .error k) :
    Calls Try.prog 95 #[.pointer (some ⟨tb, 0, none⟩), .pointer (some ⟨sb, 0, none⟩)] w fun e w' => Wrong k e ∧ Wf.Step p TS w w' :=
  (reader1_calls w p v0 b most s zs tb sb T h hz hr.tb hr.sb hr.tab).mono fun _ _ hp => by
    obtain ⟨h1, h2⟩ := hp
    rw [hs] at h2
    exact ⟨h2, h1⟩
theorem symS_bound (hs : symS zs b s = .ok (x, s')) : s.pos < s'.pos ∧ x < zs.length ∧ s'.out = s.out := by
  rw [symS_eq] at hs
  cases hr : symGo zs b s.pos 16 0 0 with
  | error e => rw [hr] at hs; cases hs
  | ok y =>
    obtain ⟨i, m⟩ := y
    rw [hr] at hs
    simp only [Except.ok.injEq, Prod.mk.injEq] at hs
    obtain ⟨rfl, rfl⟩ := hs
    have := symGo_bound zs b s.pos 16 0 0 i m hr
    exact ⟨by simp; omega, this.2.2.2, rfl⟩
end

set_option maxHeartbeats 3200000 in
set_option maxRecDepth 100000 in
theorem coded_calls (w : World) (p : Nat) (v0 : Value) (b : List Int) (most : Nat) (s : St) (A1 A2 : Option Addr) (c1 c2 : Nat) (sy di : List Int) (h : Str w p v0 b most s)
    (hA1 : Sees w A1 (ints .i64 sy)) (hA2 : Sees w A2 (ints .i64 di)) (hn1 : sy.length ≤ 17592186044416) (hn2 : di.length ≤ 17592186044416) :
    Calls Try.prog 63 #[.pointer (some ⟨p, 0, none⟩), .slice A1 sy.length c1, .slice A2 di.length c2] w (Post0 w p v0 b most (codedP b most sy di s)) := by
  generalize hR : codedP b most sy di s = R
  have HR := Lib.hid hR
  clear hR
  by_cases hz1 : okLens sy
  · by_cases hz2 : okLens di
    · have HC := Lib.hid (show codedS b most sy di (8 * b.length + 1) s = R by have := HR.out; unfold codedP at this; rwa [if_pos ⟨hz1, hz2⟩] at this)
      clear HR
      go_enter Try.func63, Try.ntmps63
      go_wp2_with fail
      refine (reader_ok _ p A1 c1 sy hA1 hz1).mono ?_
      rintro e w1 ⟨v1, rfl, ⟨tb, sb, T, rfl, hr1, hr2, hr3⟩, hb1⟩
      go_wp2_with fail
      refine (reader_ok _ p A2 c2 di (hA2.below hb1) hz2).mono ?_
      rintro e w2 ⟨v2, rfl, ⟨tb', sb', T', rfl, hq1, hq2, hq3⟩, hb2⟩
      have hrd : Rd w2 p sy tb sb T := Rd.step ⟨hr1, hr2, hr3⟩ (Step.ofBelow hb2)
      have hrd' : Rd w2 p di tb' sb' T' := ⟨hq1, hq2, hq3⟩
      have h2 : Str w2 p v0 b most s := (h.keep hb1).keep hb2
      have hst : Wf.Step p TS w w2 := (Step.ofBelow hb1).trans (Step.ofBelow hb2)
      clear hr1 hr2 hr3 hq1 hq2 hq3 hb1 hb2 h
      go_wp2_with fail
      go_loopg [8] (8 * b.length + 1) (fun k _ wr => ∃ s' : St, 8 * b.length < k + s'.pos ∧ codedS b most sy di k s' = R ∧ Str wr p v0 b most s' ∧ Wf.Step p TS w wr ∧ Rd wr p sy tb sb T ∧ Rd wr p di tb' sb' T')
      case atStart => exact ⟨s, by omega, HC.out, h2, hst, hrd, hrd'⟩
      case round =>
        clear h2 hst hrd hrd' w2 w1
        obtain ⟨s1, hk, hgo, h1, hst, hrd, hrd'⟩ := hrel
        have hp1 := h1.pos
        obtain ⟨f, rfl⟩ : ∃ f, gk = f + 1 := ⟨gk - 1, by omega⟩
        rw [codedS] at hgo
        have HG := Lib.hid hgo
        clear hgo
        go_wp2_with fail
        cases hs1 : symS sy b s1 with
        | error k =>
          have hr := HG.out
          simp only [hs1, Except.bind] at hr
          subst hr
          refine (sym_err h1 hz1 hrd hs1).mono ?_
          rintro e w3 ⟨rfl, hs3⟩
          exact ⟨rfl, wrong_post (hst.trans hs3) rfl⟩
        | ok y =>
          obtain ⟨x, s2⟩ := y
          have hbd := symS_bound hs1
          have hxl := hz1.2.2
          refine (sym_ok h1 hz1 hrd hs1).mono ?_
          rintro e w3 ⟨rfl, h3, hs3⟩
          have hst3 := hst.trans hs3
          have hrd3 := hrd.step hs3
          have hrd3' := hrd'.step hs3
          clear hst hrd hrd' hs3 h1
          have HG2 := Lib.hid (show (if x < 256 then (tellS most x s2).bind (codedS b most sy di f) else if x = 256 then .ok s2 else (pieceS b most di x s2).bind (codedS b most sy di f)) = R by
            have hr := HG.out
            simp only [hs1, Except.bind] at hr
            exact hr)
          clear HG
          have hm : 8 * b.length < f + s2.pos := by omega
          by_cases hx : x < 256
          · have HG3 := Lib.hid (show (tellS most x s2).bind (codedS b most sy di f) = R by have := HG2.out; rwa [if_pos hx] at this)
            clear HG2
            go_wp2_with fail
            cases ht : tellS most x s2 with
            | error k =>
              have hr := HG3.out
              simp only [ht, Except.bind] at hr
              subst hr
              refine (tell_err h3 ht).mono ?_
              rintro e w4 ⟨rfl, hs4⟩
              exact ⟨rfl, wrong_post (hst3.trans hs4) rfl⟩
            | ok s3 =>
              have HG4 := Lib.hid (show codedS b most sy di f s3 = R by have hr := HG3.out; simp only [ht, Except.bind] at hr; exact hr)
              have hp3 : s3.pos = s2.pos := by unfold tellS at ht; split at ht <;> cases ht; rfl
              have hm3 : 8 * b.length < f + s3.pos := by omega
              have HP := Lib.hid hp3
              clear hp3
              refine (tell_ok h3 ht).mono ?_
              rintro e w4 ⟨rfl, h4, hs4⟩
              go_wp2_with fail
              go_roundg f
              case measure => omega
              case rel => exact ⟨s3, hm3, HG4.out, h4, hst3.trans hs4, hrd3.step hs4, hrd3'.step hs4⟩
          · by_cases hx2 : x = 256
            · have hr := HG2.out
              rw [if_neg hx, if_pos hx2] at hr
              subst hr
              have hxb : ((x : Int) == 256) = true := by rw [hx2]; rfl
              have HX := Lib.hid hx2
              clear hx2
              go_wp2_with fail
              go_end0
              exact ok_post hst3 h3
            · have HG3 := Lib.hid (show (pieceS b most di x s2).bind (codedS b most sy di f) = R by have := HG2.out; rwa [if_neg hx, if_neg hx2] at this)
              clear HG2
              have hxb : ((x : Int) == 256) = false := by rw [beq_eq_false_iff_ne]; omega
              go_wp2_with fail
              cases hl : lenS x with
              | none =>
                have hr := HG3.out
                simp only [pieceS, hl, Except.bind] at hr
                subst hr
                refine (length_err hl).mono ?_
                rintro e w4 ⟨rfl, rfl⟩
                go_wp2_with (go_at_call 65; refine (must_bad _).mono ?_; rintro e w5 ⟨rfl, rfl⟩)
                exact ⟨rfl, wrong_post hst3 rfl⟩
              | some y =>
                obtain ⟨a, e⟩ := y
                obtain ⟨_, ha, he, _⟩ := lenS_some hl
                refine (length_ok hl).mono ?_
                rintro r w4 ⟨rfl, rfl⟩
                go_wp2_with (go_at_call 65; refine (must_ok _).mono ?_; rintro r w5 ⟨rfl, rfl⟩)
                cases ht : takeS b e s2 with
                | error k =>
                  have hr := HG3.out
                  simp only [pieceS, hl, ht, Except.bind] at hr
                  subst hr
                  refine (bits_err h3 (by omega) ht).mono ?_
                  rintro r w4 ⟨rfl, hs4⟩
                  exact ⟨rfl, wrong_post (hst3.trans hs4) rfl⟩
                | ok y =>
                  obtain ⟨m, s3⟩ := y
                  have hml : m < 2 ^ e := takeS_lt ht
                  have hme : 2 ^ e ≤ 2 ^ 5 := Nat.pow_le_pow_right (by omega) he
                  have hmm : m < 32 := by omega
                  have hp3 : 8 * b.length < f + s3.pos := by
                    unfold takeS at ht
                    split at ht
                    · cases ht; simp; omega
                    · cases ht
                  clear hml hme
                  refine (bits_ok h3 (by omega) ht).mono ?_
                  rintro r w4 ⟨rfl, h4, hs4⟩
                  have hst4 := hst3.trans hs4
                  have hrd4 := hrd3.step hs4
                  have hrd4' := hrd3'.step hs4
                  clear hst3 hrd3 hrd3' hs4 h3
                  go_wp2_with fail
                  cases hs2 : symS di b s3 with
                  | error k =>
                    have hr := HG3.out
                    simp only [pieceS, hl, ht, hs2, Except.bind] at hr
                    subst hr
                    refine (sym_err h4 hz2 hrd4' hs2).mono ?_
                    rintro r w5 ⟨rfl, hs5⟩
                    exact ⟨rfl, wrong_post (hst4.trans hs5) rfl⟩
                  | ok y =>
                    obtain ⟨x2, s4⟩ := y
                    have hbd2 := symS_bound hs2
                    have hdl := hz2.2.2
                    refine (sym_ok h4 hz2 hrd4' hs2).mono ?_
                    rintro r w5 ⟨rfl, h5, hs5⟩
                    have hst5 := hst4.trans hs5
                    have hrd5 := hrd4.step hs5
                    have hrd5' := hrd4'.step hs5
                    clear hst4 hrd4 hrd4' hs5 h4
                    go_wp2_with fail
                    cases hd : distS x2 with
                    | none =>
                      have hr := HG3.out
                      simp only [pieceS, hl, ht, hs2, hd, Except.bind] at hr
                      subst hr
                      refine (distance_err hd).mono ?_
                      rintro r w6 ⟨rfl, rfl⟩
                      go_wp2_with (go_at_call 65; refine (must_bad _).mono ?_; rintro r w6 ⟨rfl, rfl⟩)
                      exact ⟨rfl, wrong_post hst5 rfl⟩
                    | some y =>
                      obtain ⟨a2, e2⟩ := y
                      obtain ⟨_, ha2, he2, ha0⟩ := distS_some hd
                      refine (distance_ok hd).mono ?_
                      rintro r w6 ⟨rfl, rfl⟩
                      go_wp2_with (go_at_call 65; refine (must_ok _).mono ?_; rintro r w6 ⟨rfl, rfl⟩)
                      cases ht2 : takeS b e2 s4 with
                      | error k =>
                        have hr := HG3.out
                        simp only [pieceS, hl, ht, hs2, hd, ht2, Except.bind] at hr
                        subst hr
                        refine (bits_err h5 (by omega) ht2).mono ?_
                        rintro r w6 ⟨rfl, hs6⟩
                        exact ⟨rfl, wrong_post (hst5.trans hs6) rfl⟩
                      | ok y =>
                        obtain ⟨m2, s5⟩ := y
                        have hml : m2 < 2 ^ e2 := takeS_lt ht2
                        have hme : 2 ^ e2 ≤ 2 ^ 13 := Nat.pow_le_pow_right (by omega) he2
                        have hmm2 : m2 < 8192 := by omega
                        have hp5 : 8 * b.length < f + s5.pos := by
                          unfold takeS at ht2
                          split at ht2
                          · cases ht2; simp; omega
                          · cases ht2
                        clear hml hme
                        have HG4 := Lib.hid (show (if s5.out.length < a2 + m2 then .error 8 else copyS most (a2 + m2) (a + m) s5).bind (codedS b most sy di f) = R by
                          have hr := HG3.out
                          simp only [pieceS, hl, ht, hs2, hd, ht2, Except.bind] at hr
                          exact hr)
                        refine (bits_ok h5 (by omega) ht2).mono ?_
                        rintro r w6 ⟨rfl, h6, hs6⟩
                        have hst6 := hst5.trans hs6
                        have hrd6 := hrd5.step hs6
                        have hrd6' := hrd5'.step hs6
                        clear hst5 hrd5 hrd5' hs6 h5 HG3 hl ht hs2 hd ht2 hs1
                        obtain ⟨vo, hb6, ho6⟩ := h6.blk
                        obtain ⟨Ao, co, rfl⟩ := ho6.isSlice
                        have d2 := hb6.cell 2
                        simp at d2
                        have hol := h6.out
                        have hmo := h6.most
                        by_cases hfar : s5.out.length < a2 + m2
                        · have hr := HG4.out
                          rw [if_pos hfar] at hr
                          simp only [Except.bind] at hr
                          subst hr
                          have hfb : decide ((a2 : Int) + m2 ≤ (s5.out.length : Int)) = false := by rw [decide_eq_false_iff_not]; omega
                          go_wp2_with (go_at_call 65; refine (must_bad _).mono ?_; rintro r w7 ⟨rfl, rfl⟩)
                          exact ⟨rfl, wrong_post hst6 rfl⟩
                        · have HG5 := Lib.hid (show (copyS most (a2 + m2) (a + m) s5).bind (codedS b most sy di f) = R by have := HG4.out; rwa [if_neg hfar] at this)
                          have hfb : ((a2 : Int) + m2 ≤ (s5.out.length : Int)) := by omega
                          go_wp2_with (go_at_call 65; refine (must_ok _).mono ?_; rintro r w7 ⟨rfl, rfl⟩)
                          clear d2 hfb
                          obtain ⟨N, hN⟩ : ∃ N, N = a + m := ⟨_, rfl⟩
                          obtain ⟨D, hD⟩ : ∃ D, D = a2 + m2 := ⟨_, rfl⟩
                          have hNi : (a : Int) + m = (N : Int) := by omega
                          have hDi : (a2 : Int) + m2 = (D : Int) := by omega
                          have hD0 : 0 < D := by omega
                          have hDl : D ≤ s5.out.length := by omega
                          have hNb : N ≤ 512 := by omega
                          rw [← hN, ← hD] at HG5
                          rw [hNi, hDi]
                          clear hb6 ho6 hN hD hNi hDi hfar hol HG4
                          obtain ⟨wo, rfl⟩ : ∃ wo : World, wo = w6 := ⟨_, rfl⟩
                          go_loopw [69] (fun vi wr => ∃ (i : Nat) (s6 : St), i ≤ N ∧ vi = .int .i64 i ∧ D ≤ s6.out.length ∧ 8 * b.length < f + s6.pos ∧ Str wr p v0 b most s6 ∧ Wf.Step p TS w wr ∧ Rd wr p sy tb sb T ∧ Rd wr p di tb' sb' T' ∧ (copyS most D (N - i) s6).bind (codedS b most sy di f) = R) (fun vi _ => N - (intOf vi).toNat)
                          case atStart => exact ⟨0, s5, by omega, rfl, hDl, hp5, h6, hst6, hrd6, hrd6', HG5.out⟩
                          case round =>
                            clear h6 hst6 hrd6 hrd6' HG5 hDl hp5 wo
                            obtain ⟨i, s6, hi, rfl, hDl, hp6, h6, hst6, hrd6, hrd6', hgo⟩ := hrel
                            have HG6 := Lib.hid hgo
                            clear hgo
                            by_cases hlt : i < N
                            · obtain ⟨vo, hb6, ho6⟩ := h6.blk
                              obtain ⟨Ao, co, rfl⟩ := ho6.isSlice
                              have d2 := hb6.cell 2
                              simp at d2
                              have hol := h6.out
                              have hmo := h6.most
                              obtain ⟨g, o, rfl, hgl, hcel⟩ := (Sees.ofOwns ho6).int (j := s6.out.length - D) (by omega)
                              have hc := hcel (s6.out.length - D) (by omega)
                              clear hcel
                              have q1 : IntKind.i64.wrap ((s6.out.length : Int) - D) = (s6.out.length : Int) - D := IntWalk.i64_in _ (by omega)
                              have q2 : 0 ≤ (s6.out.length : Int) - D := by omega
                              have q3 : (s6.out.length : Int) - D < s6.out.length := by omega
                              have q4 : ((s6.out.length : Int) - D).toNat = s6.out.length - D := by omega
                              go_wp2_with fail
                              go_still_tail 14, (by kernel_rfl)
                              change wpList _ _ _ _ _ wr.drew
                              go_wp2_with fail
                              clear q1 q2 q3 q4 hc d2 hb6 ho6 hgl
                              have h7 : Str wr.drew p v0 b most s6 := h6.drewN 1
                              have HG7 := Lib.hid (show ((tellS most (nth s6.out (s6.out.length - D)) s6).bind (copyS most D (N - (i + 1)))).bind (codedS b most sy di f) = R by
                                have hr := HG6.out
                                rw [show N - i = (N - (i + 1)) + 1 by omega, copyS] at hr
                                exact hr)
                              clear HG6
                              cases ht3 : tellS most (nth s6.out (s6.out.length - D)) s6 with
                              | error k =>
                                have hr := HG7.out
                                simp only [ht3, Except.bind] at hr
                                subst hr
                                refine (tell_err h7 ht3).mono ?_
                                rintro r w7 ⟨rfl, hs7⟩
                                exact ⟨rfl, wrong_post (hst6.drew.trans hs7) rfl⟩
                              | ok s7 =>
                                have HG8 := Lib.hid (show (copyS most D (N - (i + 1)) s7).bind (codedS b most sy di f) = R by
                                  have hr := HG7.out
                                  simp only [ht3, Except.bind] at hr
                                  exact hr)
                                have hs7 : s7 = ⟨s6.pos, s6.out ++ [nth s6.out (s6.out.length - D)]⟩ := by
                                  unfold tellS at ht3
                                  split at ht3
                                  · cases ht3; rfl
                                  · cases ht3
                                have hp7 : 8 * b.length < f + s7.pos := by rw [hs7]; exact hp6
                                have hD7 : D ≤ s7.out.length := by rw [hs7]; simp; omega
                                clear hs7 HG7
                                refine (tell_ok h7 ht3).mono ?_
                                rintro r w7 ⟨rfl, h8, hs8⟩
                                clear ht3
                                go_wp2_with fail
                                exact ⟨⟨i + 1, s7, by omega, by go_num, hD7, hp7, h8, hst6.drew.trans hs8, hrd6.step ((Wf.Step.refl p TS wr).drew.trans hs8), hrd6'.step ((Wf.Step.refl p TS wr).drew.trans hs8), HG8.out⟩, by simp [intOf]; omega⟩
                            · obtain rfl : i = N := by omega
                              have HG7 := Lib.hid (show codedS b most sy di f s6 = R by
                                have hr := HG6.out
                                rw [Nat.sub_self, copyS] at hr
                                exact hr)
                              clear HG6
                              go_wp2_with fail
                              go_roundg f
                              case measure => omega
                              case rel => exact ⟨s6, hp6, HG7.out, h6, hst6, hrd6, hrd6'⟩
    · have hr : R = .error 8 := by have := HR.out; unfold codedP at this; rw [if_neg fun h => hz2 h.2] at this; exact this.symm
      subst hr
      go_enter Try.func63, Try.ntmps63
      go_wp2_with fail
      refine (reader_ok _ p A1 c1 sy hA1 hz1).mono ?_
      rintro e w1 ⟨v1, rfl, ⟨tb, sb, T, rfl, hr1, hr2, hr3⟩, hb1⟩
      go_wp2_with fail
      refine (reader_bad _ p A2 c2 di (hA2.below hb1) hn2 hz2).mono ?_
      rintro e w2 ⟨rfl, hb2⟩
      exact ⟨rfl, wrong_post ((Step.ofBelow hb1).trans (Step.ofBelow hb2)) rfl⟩
  · have hr : R = .error 8 := by have := HR.out; unfold codedP at this; rw [if_neg fun h => hz1 h.1] at this; exact this.symm
    subst hr
    go_enter Try.func63, Try.ntmps63
    go_wp2_with fail
    refine (reader_bad _ p A1 c1 sy hA1 hn1 hz1).mono ?_
    rintro e w2 ⟨rfl, hb2⟩
    exact ⟨rfl, wrong_post (Step.ofBelow hb2) rfl⟩
end Go.Proofs.Ytkdjljnplfempaa
