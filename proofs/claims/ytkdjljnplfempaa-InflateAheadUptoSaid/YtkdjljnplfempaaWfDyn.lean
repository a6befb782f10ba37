/- A dynamic block. -/
import Derived.Test.YtkdjljnplfempaaWfRead
import Derived.Test.YtkdjljnplfempaaWfInf
import Derived.Test.YtkdjljnplfempaaWfDynA
import Derived.Deep.LoopGhost
import Derived.StillTailTactics
import Derived.Deep.RegionHeld3
import Derived.Deep.RegionWith
import Derived.Test.YtkdjljnplfempaaWfHuffP
import Derived.WalkKit
import Derived.WalkLawsBesides
import Derived.Lib.Hide
import Derived.Deep.QuietTactic
import Derived.BigQuiet
import Derived.Handy
set_option linter.unusedVariables false
set_option linter.unusedSimpArgs false
set_option linter.unusedSectionVars false
namespace Go.Proofs.Ytkdjljnplfempaa
open Go.RowKit Wf

theorem ints_take (k : IntKind) (l : List Int) (n : Nat) : ints k (l.take n) = (ints k l).take n := by simp [ints, List.map_take]
theorem ints_drop (k : IntKind) (l : List Int) (n : Nat) : ints k (l.drop n) = (ints k l).drop n := by simp [ints, List.map_drop]
theorem _root_.Wf.Sees.take {w : World} {A : Option Addr} {xs : List Value} (h : Sees w A xs) (n : Nat) : Sees w A (xs.take n) := by
  rcases h with rfl | ⟨b, o, hA, hb, hc⟩
  · exact .inl (by simp)
  · refine .inr ⟨b, o, hA, hb, fun j u hj => hc j u ?_⟩
    rw [List.getElem?_take] at hj
    split at hj
    · exact hj
    · cases hj
theorem _root_.Wf.Sees.drop {w : World} {b o : Nat} {xs : List Value} (h : Sees w (some ⟨b, o, none⟩) xs) (n : Nat) : Sees w (some ⟨b, o + n, none⟩) (xs.drop n) := by
  rcases h with rfl | ⟨b', o', hA, hb, hc⟩
  · exact .inl (by simp)
  · injection hA with hA
    injection hA with e1 e2
    subst e1 e2
    refine .inr ⟨_, _, rfl, hb, fun j u hj => ?_⟩
    rw [List.getElem?_drop] at hj
    have := hc _ u hj
    rwa [← Nat.add_assoc] at this

set_option maxHeartbeats 6400000 in
set_option maxRecDepth 100000 in
theorem dynamic_calls (w : World) (p : Nat) (v0 : Value) (b : List Int) (most : Nat) (s : St) (h : Str w p v0 b most s) :
    Calls Try.prog 64 #[.pointer (some ⟨p, 0, none⟩)] w (Post0 w p v0 b most (dynS b most s)) := by
  generalize hR : dynS b most s = R
  rw [dynS_eq] at hR
  have HR := Lib.hid hR
  clear hR
  have hpl : p < w.heap.size := by obtain ⟨vo, hb, _⟩ := h.blk; exact hb.lt
  have hm19 : ∀ w, (Instr.makeSlice 35 (.int .i64 19) (.int .i64 19)).run Try.prog w = .ok (.slice (some ⟨w.heap.size, 0, none⟩) 19 19) (w.alloc (.cells (zV 19) 3)) := run_make35 19 (by omega)
  have hst : Wf.Step p TS w w := Wf.Step.refl p TS w
  have hwS := Nat.le_refl w.heap.size
  go_enter Try.func64, Try.ntmps64
  go_wp2_with fail
  cases ht1 : takeS b 5 s with
  | error e0 =>
    have hr := HR.out
    simp only [ht1, Except.bind] at hr
    subst hr
    refine (bits_err h (by omega) ht1).mono ?_
    rintro r wx ⟨rfl, hsx⟩
    exact ⟨rfl, wrong_post (hst.trans hsx) rfl⟩
  | ok y =>
    obtain ⟨lit, s1⟩ := y
    have hlit := takeS_lt ht1
    refine (bits_ok h (by omega) ht1).mono ?_
    rintro r w1 ⟨rfl, hs1, hsx⟩
    have hst1 := hst.trans hsx
    clear hsx
    have hlb : lit < 32 := by simpa using hlit
    by_cases hc1 : 29 < lit
    · have hr := HR.out
      simp only [ht1, Except.bind] at hr
      rw [if_pos hc1] at hr
      subst hr
      have hcb : decide ((lit : Int) ≤ 29) = false := by rw [decide_eq_false_iff_not]; omega
      go_wp2_with (go_at_call 65; refine (must_bad _).mono ?_; rintro r wx ⟨rfl, rfl⟩)
      exact ⟨rfl, wrong_post hst1 rfl⟩
    have hcb1 : (lit : Int) ≤ 29 := by omega
    go_wp2_with (go_at_call 65; refine (must_ok _).mono ?_; rintro r wx ⟨rfl, rfl⟩)
    have hr := HR.out
    simp only [ht1, Except.bind] at hr
    rw [if_neg hc1] at hr
    replace HR := Lib.hid hr
    clear hr
    cases ht2 : takeS b 5 s1 with
    | error e0 =>
      have hr := HR.out
      simp only [ht2, Except.bind] at hr
      subst hr
      refine (bits_err hs1 (by omega) ht2).mono ?_
      rintro r wx ⟨rfl, hsx⟩
      exact ⟨rfl, wrong_post (hst1.trans hsx) rfl⟩
    | ok y =>
      obtain ⟨dist, s2⟩ := y
      have hdist := takeS_lt ht2
      refine (bits_ok hs1 (by omega) ht2).mono ?_
      rintro r w2 ⟨rfl, hs2, hsx⟩
      have hst2 := hst1.trans hsx
      clear hsx
      have hdb : dist < 32 := by simpa using hdist
      by_cases hc2 : 29 < dist
      · have hr := HR.out
        simp only [ht2, Except.bind] at hr
        rw [if_pos hc2] at hr
        subst hr
        have hcb : decide ((dist : Int) ≤ 29) = false := by rw [decide_eq_false_iff_not]; omega
        go_wp2_with (go_at_call 65; refine (must_bad _).mono ?_; rintro r wx ⟨rfl, rfl⟩)
        exact ⟨rfl, wrong_post hst2 rfl⟩
      have hcb2 : (dist : Int) ≤ 29 := by omega
      go_wp2_with (go_at_call 65; refine (must_ok _).mono ?_; rintro r wx ⟨rfl, rfl⟩)
      have hr := HR.out
      simp only [ht2, Except.bind] at hr
      rw [if_neg hc2] at hr
      replace HR := Lib.hid hr
      clear hr
      cases ht3 : takeS b 4 s2 with
      | error e0 =>
        have hr := HR.out
        simp only [ht3, Except.bind] at hr
        subst hr
        refine (bits_err hs2 (by omega) ht3).mono ?_
        rintro r wx ⟨rfl, hsx⟩
        exact ⟨rfl, wrong_post (hst2.trans hsx) rfl⟩
      | ok y =>
        obtain ⟨cl, s3⟩ := y
        have hcl := takeS_lt ht3
        refine (bits_ok hs2 (by omega) ht3).mono ?_
        rintro r w3 ⟨rfl, hs3, hsx⟩
        have hst3 := hst2.trans hsx
        clear hsx
        have hclb : cl < 16 := by simpa using hcl
        replace HR := Lib.hid (show (firstS b orderL (cl + 4) (List.replicate 19 0) s3).bind (dynRow b most lit dist) = R by have hr := HR.out; simp only [ht3, Except.bind] at hr; exact hr)
        clear ht1 ht2 ht3 hst hst1 hst2 hs1 hs2 h hlit hdist hcl
        have hri := fun w k hk => run_ord w k hk
        have HRI := Lib.hid hri
        clear hri
        go_wp2_with (go_at_call 88; refine (order_calls _).mono ?_; rintro r wx ⟨rfl, rfl⟩)
        clear hm19
        have hsz := hst3.size
        have hb4 := (Blk.new w3 3 (zV 19)).alloc (.cells ordV 110)
        have h4 := (hs3.soft (((Soft.refl 0 p w3).alloc (.cells (zV 19) 3)).alloc (.cells ordV 110)))
        have hst4 := (hst3.alloc (.cells (zV 19) 3)).alloc (.cells ordV 110)
        have hg : w.heap.size ≤ w3.heap.size := hsz
        have hpg : p < w3.heap.size := by omega
        generalize hgg : w3.heap.size = g at hb4 hg hpg ⊢
        generalize (w3.alloc (.cells (zV 19) 3)).alloc (.cells ordV 110) = w4 at hb4 h4 hst4 ⊢
        clear hgg hst3 hs3 hsz w1 w2 w3
        go_loopw [4, 31] (fun vc vi wr => ∃ (i cnt : Nat) (l : List Int) (s' : St), vi = .int .i64 i ∧ vc = .int .i64 cnt ∧ i ≤ 19 ∧ cnt ≤ 19 ∧ l.length = 19 ∧ Blk wr g 3 (arr 19 fun k => .int .i64 (nth l k)) ∧ Str wr p v0 b most s' ∧ Wf.Step p TS w wr ∧ (firstS b (orderL.drop i) cnt l s').bind (dynRow b most lit dist) = R) (fun _ vi _ => 19 - (intOf vi).toNat)
        case atStart =>
          refine ⟨0, cl + 4, List.replicate 19 0, s3, rfl, by go_num, by omega, by omega, rfl, ?_, h4, hst4, HR.out⟩
          rw [← arr_congr (f := fun _ => .int .i64 0) fun k hk => by rw [nth_zeros]]
          exact hb4
        case round =>
          clear hb4 h4 hst4 HR w4
          obtain ⟨i, cnt, l, s4, rfl, rfl, hi, hcnt, hll, hb4, h4, hst4, hgo⟩ := hrel
          have HR := Lib.hid hgo
          clear hgo
          by_cases hlt : i < 19
          · have hri := fun w => HRI.out w i hlt
            have hol := orderL_lt hlt
            by_cases hc0 : cnt = 0
            · subst hc0
              go_wp2_with fail
              exact ⟨⟨i + 1, 0, l, s4, by go_num, rfl, by omega, by omega, hll, hb4, h4, hst4, by have hr := HR.out; rw [firstS_zero] at hr ⊢; exact hr⟩, by simp [intOf]; omega⟩
            · obtain ⟨c, rfl⟩ : ∃ c, cnt = c + 1 := ⟨cnt - 1, by omega⟩
              have hcp : (0 : Int) < (c : Int) + 1 := by omega
              go_wp2_with fail
              have hr := HR.out
              rw [orderL_drop hlt, firstS] at hr
              replace HR := Lib.hid hr
              clear hr
              cases ht5 : takeS b 3 s4 with
              | error e0 =>
                have hr := HR.out
                simp only [ht5, Except.bind] at hr
                subst hr
                refine (bits_err h4 (by omega) ht5).mono ?_
                rintro r wx ⟨rfl, hsx⟩
                exact ⟨rfl, wrong_post (hst4.trans hsx) rfl⟩
              | ok y =>
                obtain ⟨v, s5⟩ := y
                refine (bits_ok h4 (by omega) ht5).mono ?_
                rintro r w5 ⟨rfl, h5, hsx⟩
                have hst5 := hst4.trans hsx
                have hb5 := hb4.step hsx (.inr (by decide))
                have hr := HR.out
                simp only [ht5] at hr
                replace HR := Lib.hid (show (firstS b (orderL.drop (i + 1)) c (l.set (ordAt i) (v : Int)) s5).bind (dynRow b most lit dist) = R from hr)
                clear hr ht5 hsx hst4 hb4 h4 wr hri
                generalize ordAt i = q at hol HR ⊢
                have d1 := (hb5.cell q).trans (arr_get hol)
                have f1 := hb5.frozen q
                have hq1 : (q : Int) < 19 := by omega
                have hq0 : 0 ≤ (q : Int) := by omega
                have hs6 := Soft.ofSet (n := w.heap.size) (p := p) hb5 hg hpg q (.int .i64 v)
                have hb6 := hb5.set_ q (.int .i64 v)
                rw [arr_set] at hb6
                have HB6 := Lib.hid hb6
                have HS6 := Lib.hid hs6
                clear hb6 hs6
                go_wp2_with fail
                refine ⟨⟨i + 1, c, l.set q v, s5, by go_num, by go_num, by omega, by omega, by simpa using hll, ?_, h5.soft HS6.out, step_soft hst5 HS6.out, HR.out⟩, by simp [intOf]; omega⟩
                rw [← arr_congr fun k hk => ?_]
                · exact HB6.out
                · show _ = Value.int .i64 (nth (l.set q v) k)
                  rw [nth_set (by omega)]
                  by_cases e : k = q <;> simp [e]
          · obtain rfl : i = 19 := by omega
            have hr := HR.out
            rw [show orderL.drop 19 = [] from rfl, firstS] at hr
            replace HR := Lib.hid (show dynRow b most lit dist (l, s4) = R from hr)
            clear hr
            have hsl : Sees wr (some ⟨g, 0, none⟩) (ints .i64 l) := by
              rw [← ints_range, hll]
              exact Sees.ofArr hb4
            go_wp2_with fail
            rw [← hll]
            by_cases hz : okLens l
            · have hr := HR.out
              unfold dynRow at hr
              rw [if_pos hz] at hr
              replace HR := Lib.hid hr
              clear hr
              refine (reader_ok _ p (some ⟨g, 0, none⟩) l.length l hsl hz).mono ?_
              rintro r w6 ⟨v, rfl, ⟨tb, sb, T, rfl, hr1, hr2, hr3⟩, hb⟩
              have hrd : Rd w6 p l tb sb T := ⟨hr1, hr2, hr3⟩
              have h6 := h4.keep hb
              have hst6 : Wf.Step p TS w w6 := hst4.trans (Step.ofBelow hb)
              clear hr1 hr2 hr3 hb hsl hb4 h4 hst4 hll
              go_wp2_with fail
              obtain ⟨AL, hAL⟩ : ∃ AL, AL = lit + dist + 258 := ⟨_, rfl⟩
              rw [← hAL] at HR
              have hall : (lit : Int) + 257 + dist + 1 = (AL : Int) := by omega
              rw [hall]
              have hALb : AL ≤ 316 := by omega
              have hALl : lit + 257 < AL := by omega
              have HAL := Lib.hid hAL
              clear hAL hall
              go_loopg [9] (8 * b.length + 1) (fun k v9 wr => ∃ (row : List Int) (s' : St), 8 * b.length < k + s'.pos ∧ wr.ownsRow w.heap.size 3 1 v9 row.length (ints .i64 row) ∧ row.length ≤ AL ∧ Str wr p v0 b most s' ∧ Wf.Step p TS w wr ∧ Rd wr p l tb sb T ∧ (rowS b l (AL) k row s').bind (dynEnd b most lit) = R)
              case atStart => exact ⟨[], s4, by omega, World.ownsRow_nil _ _ _ _, by simp, h6, hst6, hrd, HR.out⟩
              case round =>
                clear hrd h6 hst6 HR w6
                obtain ⟨row, s6, hk, ho, hrl, h6, hst6, hrd, hgo⟩ := hrel
                obtain ⟨f, rfl⟩ : ∃ f, gk = f + 1 := ⟨gk - 1, by have := h6.pos; omega⟩
                rw [rowS] at hgo
                have HR := Lib.hid hgo
                clear hgo
                obtain ⟨A9, c9, rfl⟩ := ho.isSlice
                by_cases hlt : row.length < AL
                · have hr := HR.out
                  rw [if_neg (by omega)] at hr
                  replace HR := Lib.hid hr
                  clear hr
                  have hlti : (row.length : Int) < (AL : Int) := by omega
                  go_wp2_with fail
                  cases hs6 : symS l b s6 with
                  | error e0 =>
                    have hr := HR.out
                    simp only [hs6, Except.bind] at hr
                    subst hr
                    refine (sym_err h6 hz hrd hs6).mono ?_
                    rintro r wx ⟨rfl, hsx⟩
                    exact ⟨rfl, wrong_post (hst6.trans hsx) rfl⟩
                  | ok y =>
                    obtain ⟨x, s7⟩ := y
                    have hbd := symS_bound hs6
                    refine (sym_ok h6 hz hrd hs6).mono ?_
                    rintro r w7 ⟨rfl, h7, hsx⟩
                    have hst7 := hst6.trans hsx
                    have hrd7 := hrd.step hsx
                    have ho7 := ownsRow_step ho hsx (by decide)
                    have hr := HR.out
                    simp only [hs6] at hr
                    have hx19 : x < 512 := by have := hz.2.2; omega
                    have hm7 : 8 * b.length < f + s7.pos := by omega
                    replace HR := Lib.hid (show ((repS b row x s7).bind fun y => if AL < row.length + y.1.2 then .error 8 else rowS b l (AL) f (row ++ List.replicate y.1.2 y.1.1) y.2).bind (dynEnd b most lit) = R from hr)
                    clear hr hs6 hsx hst6 hrd ho h6 hbd hk
                    by_cases hx16 : x = 16
                    · subst hx16
                      by_cases hrow : row = []
                      · subst hrow
                        have hr := HR.out
                        simp only [repS, Except.bind] at hr
                        simp at hr
                        subst hr
                        go_wp2_with (go_at_call 65; refine (must_bad _).mono ?_; rintro r wx ⟨rfl, rfl⟩)
                        exact ⟨rfl, wrong_post hst7 rfl⟩
                      · have hrow0 : 0 < row.length := List.length_pos_iff.2 hrow
                        have hrowi : (0 : Int) < (row.length : Int) := by omega
                        go_wp2_with (go_at_call 65; refine (must_ok _).mono ?_; rintro r wx ⟨rfl, rfl⟩)
                        obtain ⟨g9, o9, hA9, hg9l, hcel⟩ := (Sees.ofOwns ho7).int (j := row.length - 1) (by omega)
                        have hc9 := hcel (row.length - 1) (by omega)
                        subst hA9
                        clear hcel
                        obtain ⟨VL, hVL⟩ : ∃ v, v = nth row (row.length - 1) := ⟨_, rfl⟩
                        rw [← hVL] at hc9
                        have q1 : IntKind.i64.wrap ((row.length : Int) - 1) = (row.length : Int) - 1 := IntWalk.i64_in _ (by omega)
                        have q2 : 0 ≤ (row.length : Int) - 1 := by omega
                        have q3 : (row.length : Int) - 1 < row.length := by omega
                        have q5 : (1 : Int) ≤ row.length := by omega
                        have q4 : ((row.length : Int) - 1).toNat = row.length - 1 := by omega
                        have HVL := Lib.hid hVL
                        clear hVL
                        have hstep : ∀ w', Wf.Step p TS w7 w' → w'.cell? ⟨g9, o9 + (row.length - 1), none⟩ = some (.int .i64 VL) := fun w' hs => by
                          have := (Sees.ofOwns (ownsRow_step ho7 hs (by decide))).int (j := row.length - 1) (by omega)
                          obtain ⟨g', o', hA', _, hc'⟩ := this
                          injection hA' with hA'
                          injection hA' with e1 e2
                          subst e1
                          subst e2
                          rw [hc' _ (by omega), HVL.out]
                        cases ht8 : takeS b 2 s7 with
                        | error e0 =>
                          have hr := HR.out
                          simp only [repS, if_true, if_neg hrow, ht8, Except.bind] at hr
                          subst hr
                          go_wp2_with fail
                          refine wp_region_held_drew (S := fun w' => w'.cell? ⟨g9, o9 + (row.length - 1), none⟩ = some (.int .i64 VL)) (by kernel_rfl) (hstep _ (Wf.Step.refl p TS w7).drew) (fun hHeld => ?_)
                          refine wpAnyH_take (i := 0) (v := ?_) rfl (by kernel_rfl) (by kernel_rfl) (by kernel_rfl) (fun _ _ _ h => h) (Or.inl ⟨by rfl, ?_⟩) (by assumption) ?_
                          rotate_left 1
                          · (intro w hSw; (try dsimp only at hSw); go_simp <;> with_reducible rfl)
                          try simp only [Act.put, List.setIfInBounds_toArray, List.set_cons_zero, List.set_cons_succ]
                          refine wpAnyH_take (i := 1) (v := ?_) rfl (by kernel_rfl) (by kernel_rfl) (by kernel_rfl) (fun _ _ _ h => h) (Or.inl ⟨by rfl, ?_⟩) (by assumption) ?_
                          rotate_left 1
                          · (intro w hSw; (try dsimp only at hSw); go_simp <;> with_reducible rfl)
                          try simp only [Act.put, List.setIfInBounds_toArray, List.set_cons_zero, List.set_cons_succ]
                          refine wpAnyH_take (i := 2) (v := ?_) rfl (by kernel_rfl) (by kernel_rfl) (by kernel_rfl) (fun _ _ _ h => h) (Or.inl ⟨by rfl, ?_⟩) (by assumption) ?_
                          rotate_left 1
                          · (intro w hSw; (try dsimp only at hSw); go_simp <;> with_reducible rfl)
                          try simp only [Act.put, List.setIfInBounds_toArray, List.set_cons_zero, List.set_cons_succ]
                          refine wpAnyH_take (i := 3) (v := ?_) rfl (by kernel_rfl) (by kernel_rfl) (by kernel_rfl) (fun _ _ _ h => h) (Or.inl ⟨by rfl, ?_⟩) (by assumption) ?_
                          rotate_left 1
                          · (intro w hSw; (try dsimp only at hSw); go_simp <;> with_reducible rfl)
                          try simp only [Act.put, List.setIfInBounds_toArray, List.set_cons_zero, List.set_cons_succ]
                          refine wpAnyH_take (i := 4) (v := ?_) rfl (by kernel_rfl) (by kernel_rfl) (by kernel_rfl) (fun _ _ _ h => h) (Or.inl ⟨by rfl, ?_⟩) (by assumption) ?_
                          rotate_left 1
                          · (intro w hSw; (try dsimp only at hSw); go_simp <;> with_reducible rfl)
                          try simp only [Act.put, List.setIfInBounds_toArray, List.set_cons_zero, List.set_cons_succ]
                          refine wpAnyH_take (i := 5) (v := ?_) rfl (by kernel_rfl) (by kernel_rfl) (by kernel_rfl) (fun _ _ _ h => h) (Or.inl ⟨by rfl, ?_⟩) (by assumption) ?_
                          rotate_left 1
                          · (intro w hSw; (try dsimp only at hSw); go_simp <;> with_reducible rfl)
                          try simp only [Act.put, List.setIfInBounds_toArray, List.set_cons_zero, List.set_cons_succ]
                          refine wpAnyH_take (i := 6) (v := ?_) rfl (by kernel_rfl) (by kernel_rfl) (by kernel_rfl) (fun _ _ _ h => h) (Or.inl ⟨by rfl, ?_⟩) (by assumption) ?_
                          rotate_left 1
                          · (intro w hSw; (try dsimp only at hSw); go_simp <;> with_reducible rfl)
                          try simp only [Act.put, List.setIfInBounds_toArray, List.set_cons_zero, List.set_cons_succ]
                          refine wpAnyH_ready (rs := [7]) (by kernel_rfl) (by simp) ?_
                          refine AllReadyH.cons rfl (fun K hK => ?_) AllReadyH.nil
                          go_simp
                          refine (bits_err (h7.drewN 1) (by omega) ht8).mono ?_
                          rintro r wx ⟨rfl, hsx⟩
                          exact ⟨rfl, wrong_post (hst7.trans ((Wf.Step.refl p TS w7).drew.trans hsx)) rfl⟩
                        | ok y =>
                          obtain ⟨k8, s8⟩ := y
                          go_wp2_with fail
                          go_region_held3 (fun w' => w'.cell? ⟨g9, o9 + (row.length - 1), none⟩ = some (.int .i64 VL)) (first | go_keep | exact hstep _ ((Wf.Step.refl p TS w7).drew.trans hsx))
                            (first | (go_at_call 61; refine (bits_ok (w := w7.drew) (h7.drewN 1) (by omega) ht8).mono ?_; rintro r w8 ⟨rfl, h8, hsx⟩))
                          have hk8 : k8 < 4 := by simpa using takeS_lt ht8
                          have hp8 : s7.pos ≤ s8.pos := by
                            unfold takeS at ht8
                            split at ht8
                            · cases ht8; simp
                            · cases ht8
                          have hm8 : 8 * b.length < f + s8.pos := by omega
                          have hsx' := (Wf.Step.refl p TS w7).drew.trans hsx
                          have hst8 := hst7.trans hsx'
                          have hrd8 := hrd7.step hsx'
                          have ho8 := ownsRow_step ho7 hsx' (by decide)
                          have hr := HR.out
                          simp only [repS, if_true, if_neg hrow, ht8] at hr
                          replace HR := Lib.hid (show (if AL < row.length + (3 + k8) then .error 8 else rowS b l (AL) f (row ++ List.replicate (3 + k8) VL) s8).bind (dynEnd b most lit) = R from by rw [HVL.out]; exact hr)
                          clear hr ht8 hsx hsx' hst7 hrd7 ho7 h7 hm7 hp8 hstep hc9 q1 q2 q3 q4 q5
                          obtain ⟨t, htt⟩ : ∃ t, t = 3 + k8 := ⟨_, rfl⟩
                          rw [← htt] at HR
                          have htb : t < 140 := by omega
                          have HTI := Lib.hid (show ((3 : Int) + k8) = (t : Int) by omega)
                          have HT2 := Lib.hid htt
                          clear htt
                          go_wp2_with fail
                          rw [HTI.out]
                          clear HTI HT2 hk8
                          by_cases hov : AL < row.length + t
                          · have hr := HR.out
                            rw [if_pos hov] at hr
                            simp only [Except.bind] at hr
                            subst hr
                            have hdb : decide ((row.length : Int) + t ≤ (AL : Int)) = false := by rw [decide_eq_false_iff_not]; omega
                            rw [hdb]
                            refine (must_bad _).mono ?_
                            rintro r wx ⟨rfl, rfl⟩
                            exact ⟨rfl, wrong_post hst8 rfl⟩
                          · have hr := HR.out
                            rw [if_neg hov] at hr
                            replace HR := Lib.hid hr
                            clear hr
                            have hdb : decide ((row.length : Int) + t ≤ (AL : Int)) = true := by rw [decide_eq_true_iff]; omega
                            rw [hdb]
                            refine (must_ok _).mono ?_
                            rintro r wx ⟨rfl, rfl⟩
                            go_wp2_with fail
                            clear hdb
                            obtain ⟨wo, rfl⟩ : ∃ wo : World, wo = w8 := ⟨_, rfl⟩
                            go_loopw [9, 92] (fun v9 vi wr => ∃ i : Nat, vi = .int .i64 i ∧ i ≤ t ∧ wr.ownsRow w.heap.size 3 1 v9 (row.length + i) (ints .i64 (row ++ List.replicate i VL)) ∧ Str wr p v0 b most s8 ∧ Wf.Step p TS w wr ∧ Rd wr p l tb sb T) (fun _ vi _ => t - (intOf vi).toNat)
                            case atStart => exact ⟨0, rfl, by omega, by simpa using ho8, h8, hst8, hrd8⟩
                            case round =>
                              clear ho8 h8 hst8 hrd8
                              obtain ⟨i, rfl, hit, ho9, h9, hst9, hrd9⟩ := hrel
                              obtain ⟨A8, c8, rfl⟩ := ho9.isSlice
                              have hbase := hst9.size
                              by_cases hlt9 : i < t
                              · have hlt9i : (i : Int) < t := by omega
                                go_wp2_with (at_builtin; refine wpList_push (w := wr) rfl (.tmp 94) (.tmp 96) _ rfl w.heap.size 3 _ 8 Try.underlying35 info3 rfl (.slice A8 (row.length + i) c8) _ _ rfl ho9 (.int .i64 VL) rfl rfl (by omega) (by unfold maxLen; omega) hbase ?_)
                                intro g8 cap8 w8 ho8 hg8
                                have hsoft : Soft w.heap.size p wr w8 := ((Soft.refl w.heap.size p wr).alloc _).trans (Soft.ofGrown (ho9.alloc _) hg8 (Nat.le_refl _) hpl)
                                have HSO := Lib.hid hsoft
                                have e8 : ints .i64 (row ++ List.replicate i VL) ++ [Value.int .i64 VL] = ints .i64 (row ++ List.replicate (i + 1) VL) := by
                                  simp [ints, List.replicate_succ']
                                rw [e8] at ho8
                                have ho88 := Lib.hid ho8
                                clear hg8 ho8 hsoft e8
                                go_wp2_with fail
                                exact ⟨⟨i + 1, by go_num, by omega, ho88.out, h9.soft HSO.out, step_soft hst9 HSO.out, hrd9.soft HSO.out⟩, by simp [intOf]; omega⟩
                              · have hie : i = t := by omega
                                have HIE := Lib.hid hie
                                have hlt9i : ¬ (i : Int) < t := by omega
                                clear hie
                                go_wp2_with fail
                                go_roundg f
                                case measure => omega
                                case rel => exact ⟨_, s8, hm8, by have h0 := ho9; rw [HIE.out] at h0 ⊢; simpa using h0, by simp; omega, h9, hst9, hrd9, HR.out⟩
                    by_cases hx17 : x = 17
                    · subst hx17
                      go_wp2_with fail
                      cases ht8 : takeS b 3 s7 with
                      | error e0 =>
                        have hr := HR.out
                        simp only [repS, if_neg (show ¬ (17 : Nat) = 16 by omega), if_true, ht8, Except.bind] at hr
                        subst hr
                        refine (bits_err h7 (by omega) ht8).mono ?_
                        rintro r wx ⟨rfl, hsx⟩
                        exact ⟨rfl, wrong_post (hst7.trans hsx) rfl⟩
                      | ok y =>
                        obtain ⟨k8, s8⟩ := y
                        have hk8 : k8 < 8 := by simpa using takeS_lt ht8
                        have hp8 : s7.pos ≤ s8.pos := by
                          unfold takeS at ht8
                          split at ht8
                          · cases ht8; simp
                          · cases ht8
                        have hm8 : 8 * b.length < f + s8.pos := by omega
                        refine (bits_ok h7 (by omega) ht8).mono ?_
                        rintro r w8 ⟨rfl, h8, hsx⟩
                        have hst8 := hst7.trans hsx
                        have hrd8 := hrd7.step hsx
                        have ho8 := ownsRow_step ho7 hsx (by decide)
                        have hr := HR.out
                        simp only [repS, if_neg (show ¬ (17 : Nat) = 16 by omega), if_true, ht8] at hr
                        replace HR := Lib.hid (show (if AL < row.length + (3 + k8) then .error 8 else rowS b l (AL) f (row ++ List.replicate (3 + k8) 0) s8).bind (dynEnd b most lit) = R from hr)
                        clear hr ht8 hsx hst7 hrd7 ho7 h7 hm7 hp8
                        obtain ⟨t, htt⟩ : ∃ t, t = 3 + k8 := ⟨_, rfl⟩
                        rw [← htt] at HR
                        have htb : t < 140 := by omega
                        have HTI := Lib.hid (show ((3 : Int) + k8) = (t : Int) by omega)
                        have HT2 := Lib.hid htt
                        clear htt
                        go_wp2_with fail
                        rw [HTI.out]
                        clear HTI HT2 hk8
                        by_cases hov : AL < row.length + t
                        · have hr := HR.out
                          rw [if_pos hov] at hr
                          simp only [Except.bind] at hr
                          subst hr
                          have hdb : decide ((row.length : Int) + t ≤ (AL : Int)) = false := by rw [decide_eq_false_iff_not]; omega
                          rw [hdb]
                          refine (must_bad _).mono ?_
                          rintro r wx ⟨rfl, rfl⟩
                          exact ⟨rfl, wrong_post hst8 rfl⟩
                        · have hr := HR.out
                          rw [if_neg hov] at hr
                          replace HR := Lib.hid hr
                          clear hr
                          have hdb : decide ((row.length : Int) + t ≤ (AL : Int)) = true := by rw [decide_eq_true_iff]; omega
                          rw [hdb]
                          refine (must_ok _).mono ?_
                          rintro r wx ⟨rfl, rfl⟩
                          go_wp2_with fail
                          clear hdb
                          obtain ⟨wo, rfl⟩ : ∃ wo : World, wo = w8 := ⟨_, rfl⟩
                          go_loopw [9, 92] (fun v9 vi wr => ∃ i : Nat, vi = .int .i64 i ∧ i ≤ t ∧ wr.ownsRow w.heap.size 3 1 v9 (row.length + i) (ints .i64 (row ++ List.replicate i 0)) ∧ Str wr p v0 b most s8 ∧ Wf.Step p TS w wr ∧ Rd wr p l tb sb T) (fun _ vi _ => t - (intOf vi).toNat)
                          case atStart => exact ⟨0, rfl, by omega, by simpa using ho8, h8, hst8, hrd8⟩
                          case round =>
                            clear ho8 h8 hst8 hrd8 wo
                            obtain ⟨i, rfl, hit, ho9, h9, hst9, hrd9⟩ := hrel
                            obtain ⟨A8, c8, rfl⟩ := ho9.isSlice
                            have hbase := hst9.size
                            by_cases hlt9 : i < t
                            · have hlt9i : (i : Int) < t := by omega
                              go_wp2_with (at_builtin; refine wpList_push (w := wr) rfl (.tmp 94) (.tmp 96) _ rfl w.heap.size 3 _ 8 Try.underlying35 info3 rfl (.slice A8 (row.length + i) c8) _ _ rfl ho9 (.int .i64 0) rfl rfl (by omega) (by unfold maxLen; omega) hbase ?_)
                              intro g8 cap8 w8 ho8 hg8
                              have hsoft : Soft w.heap.size p wr w8 := ((Soft.refl w.heap.size p wr).alloc _).trans (Soft.ofGrown (ho9.alloc _) hg8 (Nat.le_refl _) hpl)
                              have HSO := Lib.hid hsoft
                              have e8 : ints .i64 (row ++ List.replicate i 0) ++ [Value.int .i64 0] = ints .i64 (row ++ List.replicate (i + 1) 0) := by
                                simp [ints, List.replicate_succ']
                              rw [e8] at ho8
                              have ho88 := Lib.hid ho8
                              clear hg8 ho8 hsoft e8
                              go_wp2_with fail
                              exact ⟨⟨i + 1, by go_num, by omega, ho88.out, h9.soft HSO.out, step_soft hst9 HSO.out, hrd9.soft HSO.out⟩, by simp [intOf]; omega⟩
                            · have hie : i = t := by omega
                              have HIE := Lib.hid hie
                              have hlt9i : ¬ (i : Int) < t := by omega
                              clear hie
                              go_wp2_with fail
                              go_roundg f
                              case measure => omega
                              case rel => exact ⟨_, s8, hm8, by have h0 := ho9; rw [HIE.out] at h0 ⊢; simpa using h0, by simp; omega, h9, hst9, hrd9, HR.out⟩
                    by_cases hx18 : x = 18
                    · subst hx18
                      go_wp2_with fail
                      cases ht8 : takeS b 7 s7 with
                      | error e0 =>
                        have hr := HR.out
                        simp only [repS, if_neg (show ¬ (18 : Nat) = 16 by omega), if_neg (show ¬ (18 : Nat) = 17 by omega), if_true, ht8, Except.bind] at hr
                        subst hr
                        refine (bits_err h7 (by omega) ht8).mono ?_
                        rintro r wx ⟨rfl, hsx⟩
                        exact ⟨rfl, wrong_post (hst7.trans hsx) rfl⟩
                      | ok y =>
                        obtain ⟨k8, s8⟩ := y
                        have hk8 : k8 < 128 := by simpa using takeS_lt ht8
                        have hp8 : s7.pos ≤ s8.pos := by
                          unfold takeS at ht8
                          split at ht8
                          · cases ht8; simp
                          · cases ht8
                        have hm8 : 8 * b.length < f + s8.pos := by omega
                        refine (bits_ok h7 (by omega) ht8).mono ?_
                        rintro r w8 ⟨rfl, h8, hsx⟩
                        have hst8 := hst7.trans hsx
                        have hrd8 := hrd7.step hsx
                        have ho8 := ownsRow_step ho7 hsx (by decide)
                        have hr := HR.out
                        simp only [repS, if_neg (show ¬ (18 : Nat) = 16 by omega), if_neg (show ¬ (18 : Nat) = 17 by omega), if_true, ht8] at hr
                        replace HR := Lib.hid (show (if AL < row.length + (11 + k8) then .error 8 else rowS b l (AL) f (row ++ List.replicate (11 + k8) 0) s8).bind (dynEnd b most lit) = R from hr)
                        clear hr ht8 hsx hst7 hrd7 ho7 h7 hm7 hp8
                        obtain ⟨t, htt⟩ : ∃ t, t = 11 + k8 := ⟨_, rfl⟩
                        rw [← htt] at HR
                        have htb : t < 140 := by omega
                        have HTI := Lib.hid (show ((11 : Int) + k8) = (t : Int) by omega)
                        have HT2 := Lib.hid htt
                        clear htt
                        go_wp2_with fail
                        rw [HTI.out]
                        clear HTI HT2 hk8
                        by_cases hov : AL < row.length + t
                        · have hr := HR.out
                          rw [if_pos hov] at hr
                          simp only [Except.bind] at hr
                          subst hr
                          have hdb : decide ((row.length : Int) + t ≤ (AL : Int)) = false := by rw [decide_eq_false_iff_not]; omega
                          rw [hdb]
                          refine (must_bad _).mono ?_
                          rintro r wx ⟨rfl, rfl⟩
                          exact ⟨rfl, wrong_post hst8 rfl⟩
                        · have hr := HR.out
                          rw [if_neg hov] at hr
                          replace HR := Lib.hid hr
                          clear hr
                          have hdb : decide ((row.length : Int) + t ≤ (AL : Int)) = true := by rw [decide_eq_true_iff]; omega
                          rw [hdb]
                          refine (must_ok _).mono ?_
                          rintro r wx ⟨rfl, rfl⟩
                          go_wp2_with fail
                          clear hdb
                          obtain ⟨wo, rfl⟩ : ∃ wo : World, wo = w8 := ⟨_, rfl⟩
                          go_loopw [9, 92] (fun v9 vi wr => ∃ i : Nat, vi = .int .i64 i ∧ i ≤ t ∧ wr.ownsRow w.heap.size 3 1 v9 (row.length + i) (ints .i64 (row ++ List.replicate i 0)) ∧ Str wr p v0 b most s8 ∧ Wf.Step p TS w wr ∧ Rd wr p l tb sb T) (fun _ vi _ => t - (intOf vi).toNat)
                          case atStart => exact ⟨0, rfl, by omega, by simpa using ho8, h8, hst8, hrd8⟩
                          case round =>
                            clear ho8 h8 hst8 hrd8 wo
                            obtain ⟨i, rfl, hit, ho9, h9, hst9, hrd9⟩ := hrel
                            obtain ⟨A8, c8, rfl⟩ := ho9.isSlice
                            have hbase := hst9.size
                            by_cases hlt9 : i < t
                            · have hlt9i : (i : Int) < t := by omega
                              go_wp2_with (at_builtin; refine wpList_push (w := wr) rfl (.tmp 94) (.tmp 96) _ rfl w.heap.size 3 _ 8 Try.underlying35 info3 rfl (.slice A8 (row.length + i) c8) _ _ rfl ho9 (.int .i64 0) rfl rfl (by omega) (by unfold maxLen; omega) hbase ?_)
                              intro g8 cap8 w8 ho8 hg8
                              have hsoft : Soft w.heap.size p wr w8 := ((Soft.refl w.heap.size p wr).alloc _).trans (Soft.ofGrown (ho9.alloc _) hg8 (Nat.le_refl _) hpl)
                              have HSO := Lib.hid hsoft
                              have e8 : ints .i64 (row ++ List.replicate i 0) ++ [Value.int .i64 0] = ints .i64 (row ++ List.replicate (i + 1) 0) := by
                                simp [ints, List.replicate_succ']
                              rw [e8] at ho8
                              have ho88 := Lib.hid ho8
                              clear hg8 ho8 hsoft e8
                              go_wp2_with fail
                              exact ⟨⟨i + 1, by go_num, by omega, ho88.out, h9.soft HSO.out, step_soft hst9 HSO.out, hrd9.soft HSO.out⟩, by simp [intOf]; omega⟩
                            · have hie : i = t := by omega
                              have HIE := Lib.hid hie
                              have hlt9i : ¬ (i : Int) < t := by omega
                              clear hie
                              go_wp2_with fail
                              go_roundg f
                              case measure => omega
                              case rel => exact ⟨_, s8, hm8, by have h0 := ho9; rw [HIE.out] at h0 ⊢; simpa using h0, by simp; omega, h9, hst9, hrd9, HR.out⟩
                    have hxa : ((x : Int) == 16) = false := by rw [beq_eq_false_iff_ne]; omega
                    have hxb : ((x : Int) == 17) = false := by rw [beq_eq_false_iff_ne]; omega
                    have hxc : ((x : Int) == 18) = false := by rw [beq_eq_false_iff_ne]; omega
                    have hr := HR.out
                    simp only [repS, if_neg hx16, if_neg hx17, if_neg hx18] at hr
                    replace HR := Lib.hid (show (if AL < row.length + 1 then .error 8 else rowS b l (AL) f (row ++ List.replicate 1 (x : Int)) s7).bind (dynEnd b most lit) = R from hr)
                    clear hr
                    go_wp2_with fail
                    by_cases hov : AL < row.length + 1
                    · have hr := HR.out
                      rw [if_pos hov] at hr
                      simp only [Except.bind] at hr
                      subst hr
                      have hdb : decide ((row.length : Int) + (1 : Int) ≤ (AL : Int)) = false := by rw [decide_eq_false_iff_not]; omega
                      rw [hdb]
                      refine (must_bad _).mono ?_
                      rintro r wx ⟨rfl, rfl⟩
                      exact ⟨rfl, wrong_post hst7 rfl⟩
                    · have hr := HR.out
                      rw [if_neg hov] at hr
                      replace HR := Lib.hid hr
                      clear hr
                      have hdb : decide ((row.length : Int) + (1 : Int) ≤ (AL : Int)) = true := by rw [decide_eq_true_iff]; omega
                      rw [hdb]
                      refine (must_ok _).mono ?_
                      rintro r wx ⟨rfl, rfl⟩
                      go_wp2_with fail
                      clear hdb
                      obtain ⟨wo, rfl⟩ : ∃ wo : World, wo = w7 := ⟨_, rfl⟩
                      go_loopw [9, 92] (fun v9 vi wr => ∃ i : Nat, vi = .int .i64 i ∧ i ≤ 1 ∧ wr.ownsRow w.heap.size 3 1 v9 (row.length + i) (ints .i64 (row ++ List.replicate i (x : Int))) ∧ Str wr p v0 b most s7 ∧ Wf.Step p TS w wr ∧ Rd wr p l tb sb T) (fun _ vi _ => 1 - (intOf vi).toNat)
                      case atStart => exact ⟨0, rfl, by omega, by simpa using ho7, h7, hst7, hrd7⟩
                      case round =>
                        clear ho7 h7 hst7 hrd7 wo
                        obtain ⟨i, rfl, hit, ho9, h9, hst9, hrd9⟩ := hrel
                        obtain ⟨A8, c8, rfl⟩ := ho9.isSlice
                        have hbase := hst9.size
                        by_cases hlt9 : i < 1
                        · have hlt9i : (i : Int) < (1 : Int) := by omega
                          go_wp2_with (at_builtin; refine wpList_push (w := wr) rfl (.tmp 94) (.tmp 96) _ rfl w.heap.size 3 _ 8 Try.underlying35 info3 rfl (.slice A8 (row.length + i) c8) _ _ rfl ho9 (.int .i64 (x : Int)) rfl rfl (by omega) (by unfold maxLen; omega) hbase ?_)
                          intro g8 cap8 w8 ho8 hg8
                          have hsoft : Soft w.heap.size p wr w8 := ((Soft.refl w.heap.size p wr).alloc _).trans (Soft.ofGrown (ho9.alloc _) hg8 (Nat.le_refl _) hpl)
                          have HSO := Lib.hid hsoft
                          have e8 : ints .i64 (row ++ List.replicate i (x : Int)) ++ [Value.int .i64 (x : Int)] = ints .i64 (row ++ List.replicate (i + 1) (x : Int)) := by
                            simp [ints, List.replicate_succ']
                          rw [e8] at ho8
                          have ho78 := Lib.hid ho8
                          clear hg8 ho8 hsoft e8
                          go_wp2_with fail
                          exact ⟨⟨i + 1, by go_num, by omega, ho78.out, h9.soft HSO.out, step_soft hst9 HSO.out, hrd9.soft HSO.out⟩, by simp [intOf]; omega⟩
                        · have hie : i = 1 := by omega
                          have HIE := Lib.hid hie
                          have hlt9i : ¬ (i : Int) < (1 : Int) := by omega
                          clear hie
                          go_wp2_with fail
                          go_roundg f
                          case measure => omega
                          case rel => exact ⟨_, s7, hm7, by have h0 := ho9; rw [HIE.out] at h0 ⊢; simpa using h0, by simp; omega, h9, hst9, hrd9, HR.out⟩
                · have hr := HR.out
                  rw [if_pos (by omega)] at hr
                  have hre : row.length = AL := by omega
                  replace HR := Lib.hid (show dynEnd b most lit (row, s6) = R from hr)
                  clear hr
                  have hlti : ¬ (row.length : Int) < (AL : Int) := by omega
                  obtain ⟨g9, hA9, hcap9, hg9b⟩ : ∃ g9, A9 = some ⟨g9, 0, none⟩ ∧ row.length ≤ c9 ∧ w.heap.size ≤ g9 := by
                    rcases ho.2 with ⟨hv, h0⟩ | ⟨g9, cap, cur, hv, hb9, _, hcc, _⟩
                    · omega
                    · injection hv with e1 e2 e3
                      subst e1 e3
                      exact ⟨g9, rfl, hcc, hb9⟩
                  subst hA9
                  have hcp0 : 0 ≤ (lit : Int) + 257 := by omega
                  have hcp1 : (lit : Int) + 257 ≤ c9 := by omega
                  have hcp2 : ¬ c9 = lit + 257 := by omega
                  go_wp2_with fail
                  obtain ⟨zs, hzs⟩ : ∃ zs, zs = row.take (lit + 257) := ⟨_, rfl⟩
                  have hzl : zs.length = lit + 257 := by rw [hzs, List.length_take]; have := HAL.out; omega
                  have hsee := Sees.ofOwns ho
                  have hs1 : Sees wr (some ⟨g9, 0, none⟩) (ints .i64 zs) := by rw [hzs, ints_take]; exact hsee.take _
                  have hs2 : Sees wr (some ⟨g9, 0 + (lit + 257), none⟩) (ints .i64 (row.drop (lit + 257))) := by rw [ints_drop]; exact hsee.drop _
                  have hw0 : row.getD 256 0 = nth zs 256 := by rw [hzs]; unfold nth; simp only [List.getD, List.getElem?_take]; rw [if_pos (by omega)]
                  have hr := HR.out
                  unfold dynEnd at hr
                  rw [hw0, ← hzs] at hr
                  replace HR := Lib.hid hr
                  clear hr hw0
                  have hcw := hWeight_calls wr (some ⟨g9, 0, none⟩) c9 zs hs1 (by omega)
                  rw [hzl] at hcw
                  refine hcw.mono ?_
                  clear hcw
                  rintro r w7 ⟨rfl, hbw⟩
                  have h7 := h6.keep hbw
                  have hst7 : Wf.Step p TS w w7 := hst6.trans (Step.ofBelow hbw)
                  have hs1' := hs1.below hbw
                  have hs2' := hs2.below hbw
                  obtain ⟨V, hV⟩ : ∃ v, v = nth zs 256 := ⟨_, rfl⟩
                  obtain ⟨g9', o9, hA9, _, hcel⟩ := hs1'.int (j := 256) (by omega)
                  have hc9 := hcel 256 (by omega)
                  injection hA9 with hA9
                  injection hA9 with e1 e2
                  subst e1
                  subst e2
                  rw [← hV] at hc9 HR
                  replace hc9 : w7.cell? ⟨g9, 256, none⟩ = some (.int .i64 V) := by simpa using hc9
                  obtain ⟨E, hE⟩ : ∃ e, e = weightErr zs := ⟨_, rfl⟩
                  obtain ⟨W, hW⟩ : ∃ e, e = weightVal zs := ⟨_, rfl⟩
                  rw [← hE, ← hW]
                  have hok : okLens zs ↔ E = 0 ∧ W ≤ 32768 := by
                    rw [hE, hW]
                    unfold okLens weightErr weightVal
                    by_cases h1 : lensIn zs <;> by_cases h2 : zs.length ≤ 512 <;> simp [h1, h2]
                  have HOK := Lib.hid hok
                  have HZL := Lib.hid hzl
                  have HS2 := Lib.hid hs2'
                  have HS1 := Lib.hid hs1'
                  have hlit1 : (256 : Int) < (lit : Int) + 257 := by omega
                  have hlit2 : 256 < lit + 257 := by omega
                  clear hcel hs1 hs2 hs1' hs2' hsee hok hzl hzs hV hE hW h6 hst6 hrd ho hbw
                  by_cases hE0 : E = 0
                  · subst hE0
                    by_cases hW0 : W ≤ 32768
                    · have hWi : (W : Int) ≤ 32768 := by omega
                      by_cases hV0 : 0 < V
                      · have hbt : decide (0 < V) = true := by rw [decide_eq_true_iff]; exact hV0
                        go_wp2_with (go_at_call 65; (try rw [hbt]); refine (must_ok _).mono ?_; rintro r wx ⟨rfl, rfl⟩)
                        have hr := HR.out
                        rw [if_pos hV0] at hr
                        have hcf := coded_calls w7 p v0 b most s6 (some ⟨g9, 0, none⟩) (some ⟨g9, lit + 257, none⟩) c9 (c9 - (lit + 257)) zs (row.drop (lit + 257)) h7 HS1.out (by simpa using HS2.out) (by have := HZL.out; omega) (by rw [List.length_drop]; omega)
                        rw [HZL.out, List.length_drop, hre, hr] at hcf
                        refine hcf.mono ?_
                        clear hcf hr
                        rintro r w8 hpo
                        cases R with
                        | error e0 =>
                          obtain ⟨hs8, hwr⟩ := hpo
                          unfold Wrong at hwr
                          subst hwr
                          exact ⟨rfl, wrong_post (hst7.trans hs8) rfl⟩
                        | ok s9 =>
                          obtain ⟨hs8, rfl, h8⟩ := hpo
                          go_wp2_with fail
                          go_end0
                          exact ok_post (hst7.trans hs8) h8
                      · have hbt : decide (0 < V) = false := by rw [decide_eq_false_iff_not]; exact hV0
                        go_wp2_with fail
                        try rw [hbt]
                        refine (must_bad _).mono ?_
                        rintro r wx ⟨rfl, rfl⟩
                        have hr := HR.out
                        rw [if_neg (show ¬ 0 < V by omega)] at hr
                        subst hr
                        exact ⟨rfl, wrong_post hst7 rfl⟩
                    · have hWi : ¬ (W : Int) ≤ 32768 := by omega
                      go_wp2_with fail
                      refine (must_bad _).mono ?_
                      rintro r wx ⟨rfl, rfl⟩
                      have hr := HR.out
                      simp only [codedP, if_neg (show ¬ (okLens zs ∧ okLens (row.drop (lit + 257))) from fun h => hW0 (HOK.out.1 h.1).2), ite_self] at hr
                      subst hr
                      exact ⟨rfl, wrong_post hst7 rfl⟩
                  · have hEb : (E == 0) = false := by rw [beq_eq_false_iff_ne]; exact hE0
                    go_wp2_with fail
                    refine (must_bad _).mono ?_
                    rintro r wx ⟨rfl, rfl⟩
                    have hr := HR.out
                    simp only [codedP, if_neg (show ¬ (okLens zs ∧ okLens (row.drop (lit + 257))) from fun h => hE0 (HOK.out.1 h.1).1), ite_self] at hr
                    subst hr
                    exact ⟨rfl, wrong_post hst7 rfl⟩
            · have hr := HR.out
              unfold dynRow at hr
              rw [if_neg hz] at hr
              subst hr
              refine (reader_bad _ p (some ⟨g, 0, none⟩) l.length l hsl (by omega) hz).mono ?_
              rintro r w6 ⟨rfl, hb⟩
              exact ⟨rfl, wrong_post (hst4.trans (Step.ofBelow hb)) rfl⟩
end Go.Proofs.Ytkdjljnplfempaa
