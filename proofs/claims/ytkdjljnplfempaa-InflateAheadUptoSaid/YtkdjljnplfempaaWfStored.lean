/- A stored block. -/
import Derived.Test.YtkdjljnplfempaaWfRead
import Derived.Test.YtkdjljnplfempaaWfInf
import Derived.Test.YtkdjljnplfempaaWfReader
import Derived.Test.YtkdjljnplfempaaWfLen
import Derived.StillTailTactics
import Derived.Deep.RegionHeld3
import Derived.Test.YtkdjljnplfempaaWfHuffP
import Derived.WalkKit
import Derived.WalkLawsBesides
import Derived.Lib.Hide
import Derived.Deep.QuietTactic
import Derived.BigQuiet
import Derived.Handy
set_option linter.unusedVariables false
set_option linter.unusedSimpArgs false
set_option linter.unusedSectionVars false
namespace Go.Proofs.Ytkdjljnplfempaa
open Go.RowKit Wf

section
variable {w : World} {p : Nat} {v0 : Value} {b : List Int} {most : Nat} {s s' : St} {n k : Nat} {e : Int} {c : Int}
theorem bits_ok (h : Str w p v0 b most s) (hn : n ≤ 16) (ht : takeS b n s = .ok (k, s')) :
    Calls Try.prog 61 #[.pointer (some ⟨p, 0, none⟩), .int .i64 n] w fun e w' => e = .returned (.int .i64 k) ∧ Str w' p v0 b most s' ∧ Wf.Step p TS w w' :=
  (bits_calls w p v0 b most s n h hn).mono fun _ _ hp => by
    obtain ⟨h1, h2⟩ := hp
    rw [ht] at h2
    exact ⟨h2.1, h2.2, h1⟩
theorem bits_err (h : Str w p v0 b most s) (hn : n ≤ 16) (ht : takeS b n s = .error e) :
    Calls Try.prog 61 #[.pointer (some ⟨p, 0, none⟩), .int .i64 n] w fun r w' => Wrong e r ∧ Wf.Step p TS w w' :=
  (bits_calls w p v0 b most s n h hn).mono fun _ _ hp => by
    obtain ⟨h1, h2⟩ := hp
    rw [ht] at h2
    exact ⟨h2, h1⟩
theorem tell_ok (h : Str w p v0 b most s) (ht : tellS most c s = .ok s') :
    Calls Try.prog 86 #[.pointer (some ⟨p, 0, none⟩), .int .u8 c] w fun e w' => e = .returned (.tuple #[]) ∧ Str w' p v0 b most s' ∧ Wf.Step p TS w w' :=
  (tell_calls w p v0 b most s c h).mono fun _ _ hp => by
    obtain ⟨h1, h2⟩ := hp
    rw [ht] at h2
    exact ⟨h2.1, h2.2, h1⟩
theorem tell_err (h : Str w p v0 b most s) (ht : tellS most c s = .error e) :
    Calls Try.prog 86 #[.pointer (some ⟨p, 0, none⟩), .int .u8 c] w fun r w' => Wrong e r ∧ Wf.Step p TS w w' :=
  (tell_calls w p v0 b most s c h).mono fun _ _ hp => by
    obtain ⟨h1, h2⟩ := hp
    rw [ht] at h2
    exact ⟨h2, h1⟩
theorem takeS_lt (ht : takeS b n s = .ok (k, s')) : k < 2 ^ n := by
  unfold takeS at ht
  split at ht
  · simp only [Except.ok.injEq, Prod.mk.injEq] at ht
    rw [← ht.1]; exact bitsAt_lt b s.pos n
  · cases ht
theorem wrong_post {r : Ending} {w' : World} (hs : Wf.Step p TS w w') (hr : Wrong e r) : Post0 w p v0 b most (.error e) r w' := ⟨hs, hr⟩
theorem ok_post {w' : World} (hs : Wf.Step p TS w w') (h : Str w' p v0 b most s') : Post0 w p v0 b most (.ok s') (.returned (.tuple #[])) w' := ⟨hs, rfl, h⟩
end

/-- The bits left in the byte are passed over. -/
def alignS (s : St) : St := ⟨(s.pos + 7) / 8 * 8, s.out⟩

set_option maxHeartbeats 1600000 in
set_option maxRecDepth 100000 in
theorem stored_calls (w : World) (p : Nat) (v0 : Value) (b : List Int) (most : Nat) (s : St) (h : Str w p v0 b most s) :
    Calls Try.prog 62 #[.pointer (some ⟨p, 0, none⟩)] w (Post0 w p v0 b most (storedS b most s)) := by
  generalize hR : storedS b most s = R
  have HR := Lib.hid hR
  clear hR
  obtain ⟨vo, hb, ho⟩ := h.blk
  have hpos := h.pos
  have hlen := h.inp.len
  have c1 := hb.cell 1
  have f1 := hb.frozen 1
  simp at c1
  have q1 : Int.tmod (s.pos : Int) 8 = (s.pos : Int) % 8 := Int.tmod_eq_emod_of_nonneg (by omega)
  have q2 : IntKind.i64.wrap ((s.pos : Int) % 8) = (s.pos : Int) % 8 := IntWalk.i64_in _ (by omega)
  have q3 : IntKind.i64.wrap (8 - (s.pos : Int) % 8) = 8 - (s.pos : Int) % 8 := IntWalk.i64_in _ (by omega)
  have q4 : Int.tmod (8 - (s.pos : Int) % 8) 8 = (8 - (s.pos : Int) % 8) % 8 := Int.tmod_eq_emod_of_nonneg (by omega)
  have q5 : IntKind.i64.wrap ((8 - (s.pos : Int) % 8) % 8) = (8 - (s.pos : Int) % 8) % 8 := IntWalk.i64_in _ (by omega)
  have q6 : IntKind.i64.wrap ((s.pos : Int) + (8 - (s.pos : Int) % 8) % 8) = (s.pos : Int) + (8 - (s.pos : Int) % 8) % 8 := IntWalk.i64_in _ (by omega)
  go_enter Try.func62, Try.ntmps62
  go_wp2
  go_still_tail 14, (by kernel_rfl)
  change wpList _ _ _ _ _ w.drew
  go_wp2_with fail
  clear q1 q2 q3 q4 q5 q6
  obtain ⟨k1, k2⟩ := h.seek hb ho ((s.pos + 7) / 8 * 8) (by omega) (m := (s.pos : Int) + -((s.pos : Int) % 8) % 8) (by omega)
  have h1 : Str (w.setCell ⟨p, 1, none⟩ (.int .i64 ((s.pos : Int) + -((s.pos : Int) % 8) % 8))).drew p v0 b most (alignS s) := k1.drewN 1
  have hst : Wf.Step p TS w (w.setCell ⟨p, 1, none⟩ (.int .i64 ((s.pos : Int) + -((s.pos : Int) % 8) % 8))).drew := k2.drew
  clear k1 k2 c1 f1
  generalize (w.setCell ⟨p, 1, none⟩ (.int .i64 ((s.pos : Int) + -((s.pos : Int) % 8) % 8))).drew = w1 at h1 hst ⊢
  cases ht1 : takeS b 16 (alignS s) with
  | error k =>
    have hr := HR.out
    simp only [storedS, show (⟨(s.pos + 7) / 8 * 8, s.out⟩ : St) = alignS s from rfl, ht1, Except.bind] at hr
    subst hr
    refine (bits_err h1 (by omega) ht1).mono ?_
    rintro e w2 ⟨rfl, hs2⟩
    exact ⟨rfl, wrong_post (hst.trans hs2) rfl⟩
  | ok x =>
    obtain ⟨n, s1⟩ := x
    have hn := takeS_lt ht1
    refine (bits_ok h1 (by omega) ht1).mono ?_
    rintro e w2 ⟨rfl, h2, hs2⟩
    have hst2 := hst.trans hs2
    clear hst hs2 h1 w1
    go_wp2_with fail
    cases ht2 : takeS b 16 s1 with
    | error k =>
      have hr := HR.out
      simp only [storedS, show (⟨(s.pos + 7) / 8 * 8, s.out⟩ : St) = alignS s from rfl, ht1, ht2, Except.bind] at hr
      subst hr
      refine (bits_err h2 (by omega) ht2).mono ?_
      rintro e w3 ⟨rfl, hs3⟩
      exact ⟨rfl, wrong_post (hst2.trans hs3) rfl⟩
    | ok x =>
      obtain ⟨m, s2⟩ := x
      have hm := takeS_lt ht2
      refine (bits_ok h2 (by omega) ht2).mono ?_
      rintro e w3 ⟨rfl, h3, hs3⟩
      have hst3 := hst2.trans hs3
      clear hst2 hs3 h2 w2
      have HR2 := Lib.hid (show (if n + m = 65535 then bytesS b most n s2 else .error 8) = R by
        have hr := HR.out
        simp only [storedS, show (⟨(s.pos + 7) / 8 * 8, s.out⟩ : St) = alignS s from rfl, ht1, ht2, Except.bind] at hr
        exact hr)
      clear HR ht1 ht2
      have hx := xor_ffff (n := n) (by omega)
      by_cases hnm : n + m = 65535
      · have hxe : ((m : Int) == ((65535 - n : Nat) : Int)) = true := by rw [beq_iff_eq]; omega
        go_wp2_with (go_at_call 65; refine (must_ok _).mono ?_; rintro e w4 ⟨rfl, rfl⟩)
        clear hx hxe
        have HB := Lib.hid (show bytesS b most n s2 = R by have := HR2.out; rwa [if_pos hnm] at this)
        clear HR2 hnm
        go_wp2_with fail
        go_loopw [26] (fun vi wr => ∃ (i : Nat) (s' : St), i ≤ n ∧ vi = .int .i64 i ∧ Str wr p v0 b most s' ∧ Wf.Step p TS w wr ∧ bytesS b most (n - i) s' = R) (fun vi _ => n - (intOf vi).toNat)
        case atStart => exact ⟨0, s2, by omega, rfl, h3, hst3, HB.out⟩
        case round =>
          clear h3 hst3 HB w3 h
          obtain ⟨i, s3, hi, rfl, h3, hst3, hB⟩ := hrel
          by_cases hlt : i < n
          · rw [show n - i = (n - (i + 1)) + 1 by omega, bytesS] at hB
            have HB := Lib.hid hB
            clear hB
            go_wp2_with fail
            cases ht3 : takeS b 8 s3 with
            | error k =>
              have hr := HB.out
              simp only [ht3, Except.bind] at hr
              subst hr
              refine (bits_err h3 (by omega) ht3).mono ?_
              rintro e w4 ⟨rfl, hs4⟩
              exact ⟨rfl, wrong_post (hst3.trans hs4) rfl⟩
            | ok x =>
              obtain ⟨k, s4⟩ := x
              have hk := takeS_lt ht3
              refine (bits_ok h3 (by omega) ht3).mono ?_
              rintro e w4 ⟨rfl, h4, hs4⟩
              have hst4 := hst3.trans hs4
              clear hst3 hs4 h3 wr
              go_wp2_with fail
              cases ht4 : tellS most k s4 with
              | error k2 =>
                have hr := HB.out
                simp only [ht3, ht4, Except.bind] at hr
                subst hr
                refine (tell_err h4 ht4).mono ?_
                rintro e w5 ⟨rfl, hs5⟩
                exact ⟨rfl, wrong_post (hst4.trans hs5) rfl⟩
              | ok s5 =>
                have HB2 := Lib.hid (show bytesS b most (n - (i + 1)) s5 = R by
                  have hr := HB.out
                  simp only [ht3, ht4, Except.bind] at hr
                  exact hr)
                refine (tell_ok h4 ht4).mono ?_
                rintro e w5 ⟨rfl, h5, hs5⟩
                have hst5 := hst4.trans hs5
                clear hst4 hs5 h4 HB w4
                go_wp2_with fail
                exact ⟨⟨i + 1, s5, by omega, by go_num, h5, hst5, HB2.out⟩, by simp [intOf]; omega⟩
          · obtain rfl : i = n := by omega
            rw [Nat.sub_self, bytesS] at hB
            subst hB
            go_wp2_with fail
            go_end0
            exact ok_post hst3 h3
      · have hxe : ((m : Int) == ((65535 - n : Nat) : Int)) = false := by rw [beq_eq_false_iff_ne]; omega
        go_wp2_with (go_at_call 65; refine (must_bad _).mono ?_; rintro e w4 ⟨rfl, rfl⟩)
        have hr := HR2.out
        rw [if_neg hnm] at hr
        subst hr
        exact ⟨rfl, wrong_post hst3 rfl⟩
end Go.Proofs.Ytkdjljnplfempaa
