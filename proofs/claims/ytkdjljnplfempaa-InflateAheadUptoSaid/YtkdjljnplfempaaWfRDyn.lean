/- Package ref05: a dynamic block. -/
import Derived.Test.YtkdjljnplfempaaWfRStored
import Derived.Test.YtkdjljnplfempaaWfRefSym
import Derived.Test.YtkdjljnplfempaaWfRefLen
import Derived.Test.YtkdjljnplfempaaWfRefFixed
import Derived.WalkKit
import Derived.WalkLawsBesides
import Derived.Lib.Hide
import Derived.Deep.QuietTactic
import Derived.BigQuiet
import Derived.Deep.LoopGhost
import Derived.StillTailTactics
import Derived.Deep.RegionHeld3
import Derived.Deep.RegionWith
import Derived.Handy
import Derived.Test.YtkdjljnplfempaaWfRCoded
import Derived.Deep.DeepCutAuto
import Derived.Test.YtkdjljnplfempaaWfDynA
import Derived.Test.YtkdjljnplfempaaWfRDynA
import Derived.Test.YtkdjljnplfempaaWfOrd2
import Derived.Deep.CutBlock
set_option linter.unusedVariables false
set_option linter.unusedSimpArgs false
set_option linter.unusedSectionVars false
namespace Go.Proofs.Ytkdjljnplfempaa
open Go.RowKit Wf

def isOk (X : Except Int St) : Bool := match X with | .ok _ => true | .error _ => false

set_option maxHeartbeats 6400000 in
set_option maxRecDepth 100000 in
theorem rdynamic_calls (w : World) (p : Nat) (v0 : Value) (b : List Int) (most : Nat) (s : St) (h : RStr w p v0 b most (.ok s)) :
    Calls Try.prog 38 #[.pointer (some ⟨p, 0, none⟩)] w (RPost0 w p v0 b most (dynS b most s)) := by
  generalize hR : dynS b most s = R
  rw [rdynS_eq] at hR
  have HR := Lib.hid hR
  clear hR
  have hpl : p < w.heap.size := by obtain ⟨vo, hb, _⟩ := h.live; exact hb.lt
  have hst : Wf.Step p RTS w w := Wf.Step.refl p RTS w
  go_enter Try.func38, Try.ntmps38
  go_wp2_with fail
  refine (take_val _ p v0 b most (.ok s) 5 h (by omega)).mono ?_
  rintro r w1 ⟨rfl, h1, hs1⟩
  have hst1 := hst.trans hs1
  have hr := (split_bind _ fun n s1 => if 29 < n then .error 8 else rF1 b most n s1).symm.trans HR.out
  rw [show takeS b 5 s = (Except.ok s : Except Int St).bind (takeS b 5) from rfl] at hr
  have hV : valOf ((Except.ok s : Except Int St).bind (takeS b 5)) < 32 := valOf_lt (n := 5)
  generalize (Except.ok s : Except Int St).bind (takeS b 5) = R1 at h1 hr hV ⊢
  generalize valOf R1 = lit at hr hV ⊢
  generalize stOf R1 = X1 at h1 hr
  replace HR := Lib.hid hr
  clear hr h hs1 hst
  go_upto_region 1 with fail
  go_cut [25] (fun s25 wx => wx = w1 ∧ s25 = .bool (isOk X1 && decide (29 < lit)))
  case first =>
    have c4 := h1.cell4
    cases X1 with
    | error k =>
      replace c4 : w1.cell? ⟨p, 4, none⟩ = some (.int .i64 k) := c4
      have hkb : (k == 0) = false := by rw [beq_eq_false_iff_ne]; exact h1.bad k rfl
      go_wp2_with fail
      go_meet
      exact ⟨rfl, rfl⟩
    | ok sx =>
      replace c4 : w1.cell? ⟨p, 4, none⟩ = some (.int .i64 0) := c4
      go_wp2_with fail
      go_meet
      exact ⟨rfl, by simp [isOk]; omega⟩
  case rest =>
    obtain ⟨rfl, rfl⟩ := hcut
    obtain ⟨B, hB⟩ : ∃ B, B = (isOk X1 && decide (29 < lit)) := ⟨_, rfl⟩
    rw [← hB]
    have HB := Lib.hid hB
    clear hB
    go_upto_if 25 with fail
    go_cut [] (fun wx => ∃ X : Except Int St, RStr wx p v0 b most X ∧ Wf.Step p RTS w wx ∧ X.bind (rF1 b most lit) = R)
    case first =>
      cases B with
      | false =>
        go_wp2_with fail
        go_meet
        refine ⟨_, h1, hst1, ?_⟩
        rw [← HR.out]
        have hb := HB.out
        cases X1 with
        | error k => rfl
        | ok sx =>
          simp [isOk] at hb
          simp only [Except.bind]
          rw [if_neg (by omega)]
      | true =>
        have hb := HB.out
        cases X1 with
        | error k => simp [isOk] at hb
        | ok sx =>
          simp [isOk] at hb
          go_wp2_with fail
          refine (fail_calls _ p _ b most sx 8 h1 (by omega)).mono ?_
          rintro r wy ⟨hsy, rfl, hy⟩
          go_wp2_with fail
          go_meet
          have hr := HR.out
          simp only [Except.bind, if_pos hb] at hr
          exact ⟨_, hy, hst1.trans hsy, hr⟩
    case rest =>
      clear h1 hst1 HR HB
      obtain ⟨X2, h2, hst2, hr⟩ := hcut
      have HR := Lib.hid hr
      clear hr
      obtain ⟨w2, rfl⟩ : ∃ x, x = wc := ⟨_, rfl⟩
      go_wp2_with fail
      refine (take_val _ p v0 b most X2 5 h2 (by omega)).mono ?_
      rintro r w3 ⟨rfl, h3, hs3⟩
      have hst3 := hst2.trans hs3
      have hr : X2.bind (fun s => (takeS b 5 s).bind fun y => if 29 < y.1 then .error 8 else rF2 b most lit y.1 y.2) = R := HR.out
      rw [bind_assoc, split_bind _ fun n s1 => if 29 < n then .error 8 else rF2 b most lit n s1] at hr
      have hV2 : valOf (X2.bind (takeS b 5)) < 32 := valOf_lt (n := 5)
      generalize X2.bind (takeS b 5) = R1 at h3 hr hV2 ⊢
      generalize valOf R1 = dist at hr hV2 ⊢
      generalize stOf R1 = X3 at h3 hr
      replace HR := Lib.hid hr
      clear hr h2 hs3 hst2
      go_upto_region 4 with fail
      go_cut [38] (fun s25 wx => wx = w3 ∧ s25 = .bool (isOk X3 && decide (29 < dist)))
      case first =>
        have c4 := h3.cell4
        cases X3 with
        | error k =>
          replace c4 : w3.cell? ⟨p, 4, none⟩ = some (.int .i64 k) := c4
          have hkb : (k == 0) = false := by rw [beq_eq_false_iff_ne]; exact h3.bad k rfl
          go_wp2_with fail
          go_meet
          exact ⟨rfl, rfl⟩
        | ok sx =>
          replace c4 : w3.cell? ⟨p, 4, none⟩ = some (.int .i64 0) := c4
          go_wp2_with fail
          go_meet
          exact ⟨rfl, by simp [isOk]; omega⟩
      case rest =>
        obtain ⟨rfl, rfl⟩ := hcut
        obtain ⟨B, hB⟩ : ∃ B, B = (isOk X3 && decide (29 < dist)) := ⟨_, rfl⟩
        rw [← hB]
        have HB := Lib.hid hB
        clear hB
        go_upto_if 38 with fail
        go_cut [] (fun wx => ∃ X : Except Int St, RStr wx p v0 b most X ∧ Wf.Step p RTS w wx ∧ X.bind (rF2 b most lit dist) = R)
        case first =>
          cases B with
          | false =>
            go_wp2_with fail
            go_meet
            refine ⟨_, h3, hst3, ?_⟩
            rw [← HR.out]
            have hb := HB.out
            cases X3 with
            | error k => rfl
            | ok sx =>
              simp [isOk] at hb
              simp only [Except.bind]
              rw [if_neg (by omega)]
          | true =>
            have hb := HB.out
            cases X3 with
            | error k => simp [isOk] at hb
            | ok sx =>
              simp [isOk] at hb
              go_wp2_with fail
              refine (fail_calls _ p _ b most sx 8 h3 (by omega)).mono ?_
              rintro r wy ⟨hsy, rfl, hy⟩
              go_wp2_with fail
              go_meet
              have hr := HR.out
              simp only [Except.bind, if_pos hb] at hr
              exact ⟨_, hy, hst3.trans hsy, hr⟩
        case rest =>
          clear h3 hst3 HR HB
          obtain ⟨X4, h4, hst4, hr⟩ := hcut
          have HR := Lib.hid hr
          clear hr
          obtain ⟨w4, rfl⟩ : ∃ x, x = wc := ⟨_, rfl⟩
          go_wp2_with fail
          refine (take_val _ p v0 b most X4 4 h4 (by omega)).mono ?_
          rintro r w5 ⟨rfl, h5, hs5⟩
          have hst5 := hst4.trans hs5
          have hr : X4.bind (fun s => (takeS b 4 s).bind fun z => (firstS b orderL (z.1 + 4) (List.replicate 19 0) z.2).bind (dynRow b most lit dist)) = R := HR.out
          rw [bind_assoc, split_bind _ fun n s1 => (firstS b orderL (n + 4) (List.replicate 19 0) s1).bind (dynRow b most lit dist)] at hr
          have hV3 : valOf (X4.bind (takeS b 4)) < 16 := valOf_lt (n := 4)
          generalize X4.bind (takeS b 4) = R1 at h5 hr hV3 ⊢
          generalize valOf R1 = cl at hr hV3 ⊢
          generalize stOf R1 = X5 at h5 hr
          replace HR := Lib.hid hr
          clear hr h4 hs5 hst4
          have hm19 : ∀ w, (Instr.makeSlice 35 (.int .i64 19) (.int .i64 19)).run Try.prog w = .ok (.slice (some ⟨w.heap.size, 0, none⟩) 19 19) (w.alloc (.cells (zV 19) 3)) := run_make35 19 (by omega)
          go_wp2_with (first | (refine wpList_build_ord rfl rfl ?_) | (refine wpList_alloc_ord rfl rfl ?_) | (refine wpList_storeFresh (w := w5.alloc (.cells (zV 19) 3)) rfl 110 110 (.tmp 6) (.tmp 44) rfl (cs := ordV) ordSize zOrd ordOne rfl rfl ?_))
          have hb6 := (Blk.new w5 3 (zV 19)).alloc (.cells ordV 110)
          have ho6 := Blk.new (w5.alloc (.cells (zV 19) 3)) 110 ordV
          have h6 := h5.soft (((Soft.refl 0 p w5).alloc (.cells (zV 19) 3)).alloc (.cells ordV 110))
          have hst6 := (hst5.alloc (.cells (zV 19) 3)).alloc (.cells ordV 110)
          have hg : w.heap.size ≤ w5.heap.size := hst5.size
          have hpg : p < w5.heap.size := by omega
          simp only [World.size_alloc] at ho6
          generalize hgg : w5.heap.size = g at hb6 ho6 hg hpg ⊢
          generalize (w5.alloc (.cells (zV 19) 3)).alloc (.cells ordV 110) = w6 at hb6 ho6 h6 hst6 ⊢
          clear hgg hst5 h5 hm19
          have hr : X5.bind (fun s => (firstS b (orderL.drop 0) (cl + 4 - 0) (List.replicate 19 0) s).bind (dynRow b most lit dist)) = R := HR.out
          replace HR := Lib.hid hr
          clear hr
          go_loopg [7] (cl + 4) (fun k v7 wr => ∃ (i : Nat) (l : List Int) (X : Except Int St), k + i = cl + 4 ∧ v7 = .int .i64 i ∧ l.length = 19 ∧ Blk wr g 3 (arr 19 fun k => .int .i64 (nth l k)) ∧ Blk wr (g + 1) 110 ordV ∧ RStr wr p v0 b most X ∧ Wf.Step p RTS w wr ∧ X.bind (fun s => (firstS b (orderL.drop i) (cl + 4 - i) l s).bind (dynRow b most lit dist)) = R)
          case atStart =>
            refine ⟨0, List.replicate 19 0, X5, rfl, rfl, rfl, ?_, ho6, h6, hst6, HR.out⟩
            rw [← arr_congr (f := fun _ => .int .i64 0) fun k hk => by rw [nth_zeros]]
            exact hb6
          case round =>
            clear hb6 ho6 h6 hst6 HR w5 w6
            obtain ⟨i, l, X, hk, rfl, hll, hb, ho, h6, hst6, hgo⟩ := hrel
            have HR := Lib.hid hgo
            clear hgo
            by_cases hlt : i < cl + 4
            · skip -- slow
              obtain ⟨k, rfl⟩ : ∃ k, gk = k + 1 := ⟨gk - 1, by omega⟩
              have hlti : (i : Int) < (cl : Int) + 4 := by omega
              have hi19 : i < 19 := by omega
              have hol := orderL_lt hi19
              have hr := HR.out
              rw [orderL_drop hi19, show cl + 4 - i = (cl + 4 - (i + 1)) + 1 by omega] at hr
              have hr : X.bind (fun s => (takeS b 3 s).bind fun x => (firstS b (orderL.drop (i + 1)) (cl + 4 - (i + 1)) (l.set (ordAt i) (x.1 : Int)) x.2).bind (dynRow b most lit dist)) = R := by
                rw [← hr]
                cases X with
                | error k => rfl
                | ok s =>
                  show (takeS b 3 s).bind _ = ((takeS b 3 s).bind _).bind _
                  rw [← bind_assoc]
              rw [bind_assoc, split_bind _ fun n s1 => (firstS b (orderL.drop (i + 1)) (cl + 4 - (i + 1)) (l.set (ordAt i) (n : Int)) s1).bind (dynRow b most lit dist)] at hr
              replace HR := Lib.hid hr
              clear hr
              have c7 := (ho.cell i).trans (ordV_get i hi19)
              generalize ordAt i = q at hol HR c7
              have d1 := (hb.cell q).trans (arr_get hol)
              have f1 := hb.frozen q
              have hq1 : (q : Int) < 19 := by omega
              have hq0 : 0 ≤ (q : Int) := by omega
              have hi19i : (i : Int) < 19 := by omega
              have hS : ∀ w', Wf.Step p RTS wr.drew w' → w'.cell? ⟨g + 1, i, none⟩ = some (.int .i64 q) ∧ w'.cell? ⟨g, q, none⟩ = some (.int .i64 (nth l q)) ∧ w'.frozen? ⟨g, q, none⟩ = false := fun w' hs =>
                ⟨((ho.drew.step hs (.inr (by decide))).cell i).trans (by have := ho.cell i; rw [← this]; exact c7), ((hb.drew.step hs (.inr (by decide))).cell q).trans (arr_get hol), (hb.drew.step hs (.inr (by decide))).frozen q⟩
              go_wp2_with fail
              go_region_held3 (fun w' => w'.cell? ⟨g + 1, i, none⟩ = some (.int .i64 q))
                (first | go_keep | exact (hS _ hsx).1)
                (first | (go_at_call 35; refine (take_val wr.drew p v0 b most X 3 (h6.drewN 1) (by omega)).mono ?_; rintro e w7 ⟨rfl, h7, hsx⟩; have e1 := (hS _ hsx).2.1; have e2 := (hS _ hsx).2.2))
              have h8 := h7
              have hb7 := hb.drew.step hsx (.inr (by decide))
              have ho7 := ho.drew.step hsx (.inr (by decide))
              have hst7 := hst6.drew.trans hsx
              generalize X.bind (takeS b 3) = R2 at h7 HR ⊢
              generalize valOf R2 = V at HR ⊢
              generalize stOf R2 = X7 at h7 HR
              have HS8 := Lib.hid (Soft.ofSet (n := w.heap.size) (p := p) hb7 hg hpg q (.int .i64 V))
              have hb8 := hb7.set_ q (.int .i64 V)
              rw [arr_set] at hb8
              have HB8 := Lib.hid hb8
              have HO8 := Lib.hid (Blk.far ho7 (p := ⟨g, q, none⟩) (by show g + 1 ≠ g; omega) (.int .i64 V))
              have HH := Lib.hid h7
              have HT := Lib.hid hst7
              clear h8 hb7 ho7 hb8 hS hb ho h6 hst6 hsx e1 e2 h7 hst7 c7 d1 f1
              go_wp2_with fail
              go_roundg k
              case measure => omega
              case rel =>
                refine ⟨i + 1, l.set q V, X7, by omega, by go_num, by simpa using hll, ?_, HO8.out, HH.out.soft HS8.out, rstep_soft HT.out HS8.out, HR.out⟩
                rw [← arr_congr fun k hk => ?_]
                · exact HB8.out
                · show _ = Value.int .i64 (nth (l.set q V) k)
                  rw [nth_set (by omega)]
                  by_cases e : k = q <;> simp [e]
            · have hie : i = cl + 4 := by omega
              have hlti : ¬ (i : Int) < (cl : Int) + 4 := by omega
              have hr : X.bind (fun s => dynRow b most lit dist (l, s)) = R := by
                have hr := HR.out
                rw [hie, Nat.sub_self] at hr
                rw [← hr]
                cases X with
                | error k => rfl
                | ok s => show _ = (firstS b _ 0 l s).bind _; rw [firstS_zero]; rfl
              replace HR := Lib.hid hr
              clear hr hie hk
              have hfi : Ints wr (some ⟨g, 0, none⟩) l := ⟨g, 0, _, rfl, hb, fun j u hj => by
                rw [← ints_range, hll] at hj
                have hj19 : j < 19 := by have := (List.getElem?_eq_some_iff.1 hj).1; simpa using this
                rw [Nat.zero_add, arr_get hj19]
                simpa [hj19] using hj⟩
              have HLL := Lib.hid hll
              clear hb ho hll
              go_upto_region 13 with fail
              go_cut [67] (fun s67 wx => (∃ n, wx = wr.drewN n) ∧ s67 = .bool (isOk X && !decide (okLens l)))
              case first =>
                have c4 := h6.cell4
                cases X with
                | error k =>
                  replace c4 : wr.cell? ⟨p, 4, none⟩ = some (.int .i64 k) := c4
                  have hkb : (k == 0) = false := by rw [beq_eq_false_iff_ne]; exact h6.bad k rfl
                  go_wp2_with fail
                  go_meet
                  exact ⟨⟨0, rfl⟩, rfl⟩
                | ok sx =>
                  replace c4 : wr.cell? ⟨p, 4, none⟩ = some (.int .i64 0) := c4
                  have hbc := bad_calls wr (some ⟨g, 0, none⟩) 19 l hfi.sees (by have := HLL.out; omega)
                  rw [HLL.out] at hbc
                  by_cases hz : okLens l
                  · rw [mayErr_zero hz] at hbc
                    have HBC := Lib.hid hbc
                    have HZ := Lib.hid hz
                    clear hbc hz
                    go_wp2_with (go_at_call 26; refine HBC.out.mono ?_; rintro e wy ⟨rfl, n, rfl⟩)
                    go_meet
                    exact ⟨⟨n, rfl⟩, by simp [isOk, HZ.out]⟩
                  · have hne : (mayErr l != 0) = true := by rw [bne_iff_ne]; exact fun e => hz (mayErr_ok.1 e)
                    have HBC := Lib.hid hbc
                    have HZ := Lib.hid hz
                    clear hbc hz
                    go_wp2_with (go_at_call 26; refine HBC.out.mono ?_; rintro e wy ⟨rfl, n, rfl⟩)
                    go_meet
                    exact ⟨⟨n, rfl⟩, by simp [isOk, HZ.out]⟩
              case rest =>
                obtain ⟨⟨nd, rfl⟩, rfl⟩ := hcut
                obtain ⟨B, hB⟩ : ∃ B, B = (isOk X && !decide (okLens l)) := ⟨_, rfl⟩
                rw [← hB]
                have HB := Lib.hid hB
                clear hB
                have h7 := h6.drewN nd
                have hst7 := hst6.drewN nd
                have hf7 : Ints (wr.drewN nd) (some ⟨g, 0, none⟩) l := hfi
                clear h6 hst6 hfi
                generalize wr.drewN nd = w7 at h7 hst7 hf7 ⊢
                go_upto_if 67 with fail
                go_cut [] (fun wx => ∃ X : Except Int St, RStr wx p v0 b most X ∧ Wf.Step p RTS w wx ∧ Ints wx (some ⟨g, 0, none⟩) l ∧ (∀ s, X = .ok s → okLens l) ∧ X.bind (rRow b l most lit (lit + dist + 258) (8 * b.length + 1) []) = R)
                case first =>
                  cases B with
                  | false =>
                    go_wp2_with fail
                    go_meet
                    have hb := HB.out
                    cases X with
                    | error k => exact ⟨_, h7, hst7, hf7, fun s e => (by cases e), HR.out⟩
                    | ok sx =>
                      simp [isOk] at hb
                      refine ⟨_, h7, hst7, hf7, fun _ _ => hb, ?_⟩
                      have hr := HR.out
                      simp only [Except.bind] at hr ⊢
                      rw [dynRow_ok hb] at hr
                      exact hr
                  | true =>
                    have hb := HB.out
                    cases X with
                    | error k => simp [isOk] at hb
                    | ok sx =>
                      simp [isOk] at hb
                      have HZ := Lib.hid hb
                      clear hb
                      go_wp2_with fail
                      refine (fail_calls _ p _ b most sx 8 h7 (by omega)).mono ?_
                      rintro r wy ⟨hsy, rfl, hy⟩
                      go_wp2_with fail
                      go_meet
                      have hr := HR.out
                      simp only [Except.bind] at hr
                      rw [dynRow_no HZ.out] at hr
                      exact ⟨_, hy, hst7.trans hsy, hf7.step hsy, fun s e => (by cases e), hr⟩
                case rest =>
                  clear h7 hst7 HR HB hf7
                  obtain ⟨X8, h8, hst8, hf8, hz8, hr⟩ := hcut
                  obtain ⟨w8, rfl⟩ : ∃ x, x = wc := ⟨_, rfl⟩
                  obtain ⟨AL, hAL⟩ : ∃ AL, AL = lit + dist + 258 := ⟨_, rfl⟩
                  rw [← hAL] at hr
                  have HR := Lib.hid hr
                  have hall : (lit : Int) + 257 + dist + 1 = (AL : Int) := by omega
                  have HALL := Lib.hid hall
                  have hALb : AL ≤ 330 := by omega
                  have hALl : lit + 257 < AL := by omega
                  clear hr hall hAL
                  go_wp2_with fail
                  go_loopg [8] (8 * b.length + 1) (fun f v8 wr => ∃ (row : List Int) (X : Except Int St), wr.ownsRow (g + 1) 3 1 v8 row.length (ints .i64 row) ∧ row.length ≤ 600 ∧ RStr wr p v0 b most X ∧ Wf.Step p RTS w wr ∧ Ints wr (some ⟨g, 0, none⟩) l ∧ (∀ s, X = .ok s → okLens l ∧ 8 * b.length < f + s.pos) ∧ X.bind (rRow b l most lit AL f row) = R)
                  case atStart => exact ⟨[], X8, World.ownsRow_nil _ _ _ _, by simp, h8, hst8, hf8, fun s e => ⟨hz8 s e, by omega⟩, HR.out⟩
                  case round =>
                    clear h8 hst8 hf8 hz8 HR w8
                    obtain ⟨row, X, ho, hrl, h8, hst8, hf8, hz8, hgo⟩ := hrel
                    have HR := Lib.hid hgo
                    clear hgo
                    obtain ⟨A8, c8, rfl⟩ := ho.isSlice
                    have c4 := h8.cell4
                    cases X with
                    | error k =>
                      replace c4 : wr.cell? ⟨p, 4, none⟩ = some (.int .i64 k) := c4
                      have hkb : (k == 0) = false := by rw [beq_eq_false_iff_ne]; exact h8.bad k rfl
                      have hkn : (k != 0) = true := by rw [bne_iff_ne]; exact h8.bad k rfl
                      have hr : Except.error k = R := HR.out
                      subst hr
                      by_cases hlt : row.length < AL
                      · have hlti : (row.length : Int) < (lit : Int) + 257 + dist + 1 := by have := HALL.out; omega
                        go_wp2_with fail
                        refine bodyPost_ret (results_none rfl _ _ _) rfl ?_
                        exact ⟨hst8, rfl, h8⟩
                      · have hlti : ¬ (row.length : Int) < (lit : Int) + 257 + dist + 1 := by have := HALL.out; omega
                        go_wp2_with fail
                        refine bodyPost_ret (results_none rfl _ _ _) rfl ?_
                        exact ⟨hst8, rfl, h8⟩
                    | ok s8 =>
                      replace c4 : wr.cell? ⟨p, 4, none⟩ = some (.int .i64 0) := c4
                      obtain ⟨hz, hm8⟩ := hz8 s8 rfl
                      have hp8 := (h8.pos s8 rfl).1
                      obtain ⟨f, rfl⟩ : ∃ f, gk = f + 1 := ⟨gk - 1, by omega⟩
                      have hr : rRow b l most lit AL (f + 1) row s8 = R := HR.out
                      replace HR := Lib.hid hr
                      clear hr hz8
                      by_cases hlt : row.length < AL
                      · skip
                        have hlti : (row.length : Int) < (lit : Int) + 257 + dist + 1 := by have := HALL.out; omega
                        have hr := HR.out
                        rw [rRow_step hlt] at hr
                        replace HR := Lib.hid hr
                        clear hr
                        go_wp2_with fail
                        have hcs := rsym_calls wr p v0 b most (.ok s8) (some ⟨g, 0, none⟩) 19 l h8 hf8.sees hz
                        rw [HLL.out] at hcs
                        rw [show (Except.ok s8 : Except Int St).bind (symS l b) = symS l b s8 from rfl] at hcs
                        refine hcs.mono ?_
                        clear hcs
                        rintro r w9 ⟨hsx, hp⟩
                        have hst9 := hst8.trans hsx
                        have hf9 := hf8.step hsx
                        have ho9 := ownsRow_step ho hsx (by decide)
                        clear hst8 hf8 ho hsx h8 c4
                        cases hs1 : symS l b s8 with
                        | error e0 =>
                          rw [hs1] at hp
                          obtain ⟨rfl, h9⟩ := hp
                          have c4 : w9.cell? ⟨p, 4, none⟩ = some (.int .i64 e0) := h9.cell4
                          have hkb : (e0 != 0) = true := by rw [bne_iff_ne]; exact h9.bad e0 rfl
                          have hr := HR.out
                          rw [hs1] at hr
                          have hr : Except.error e0 = R := hr
                          subst hr
                          go_wp2_with fail
                          refine bodyPost_ret (results_none rfl _ _ _) rfl ?_
                          exact ⟨hst9, rfl, h9⟩
                        | ok y =>
                          obtain ⟨x, s9⟩ := y
                          rw [hs1] at hp
                          obtain ⟨rfl, h9⟩ := hp
                          have c4 : w9.cell? ⟨p, 4, none⟩ = some (.int .i64 0) := h9.cell4
                          have hbd := symS_bound hs1
                          have hx5 : x < 512 := by have := hz.2.2; omega
                          have hm9 : 8 * b.length < f + s9.pos := by omega
                          have hr := HR.out
                          rw [hs1] at hr
                          have hr : (repS b row x s9).bind (fun z => rRow b l most lit AL f (row ++ List.replicate z.1.2 z.1.1) z.2) = R := hr
                          replace HR := Lib.hid hr
                          clear hr hs1 hbd hm8 hp8 hlti
                          go_upto_block 4 with fail
                          go_cut [10, 11] (fun s10 s11 wx => ∃ (m : Nat) (v : Int) (X : Except Int St), s10 = .int .i64 m ∧ s11 = .int .i64 v ∧ m ≤ 140 ∧ RStr wx p v0 b most X ∧ Wf.Step p RTS w9 wx ∧ (∀ s', X = .ok s' → s9.pos ≤ s'.pos) ∧ X.bind (rRow b l most lit AL f (row ++ List.replicate m v)) = R)
                          case first =>
                            by_cases hx16 : x = 16
                            · subst hx16
                              by_cases hrow : row = []
                              · subst hrow
                                have hr := HR.out
                                have hr : Except.error 8 = R := hr
                                subst hr
                                go_wp2_with fail
                                refine (fail_calls _ p _ b most s9 8 h9 (by omega)).mono ?_
                                rintro r w10 ⟨hs10, rfl, h10⟩
                                go_wp2_with fail
                                refine bodyPost_ret (results_none rfl _ _ _) rfl ?_
                                exact ⟨hst9.trans hs10, rfl, h10⟩
                              · have hrow0 : 0 < row.length := List.length_pos_iff.2 hrow
                                have hrowi : ((row.length : Int) == 0) = false := by rw [beq_eq_false_iff_ne]; omega
                                obtain ⟨g9, o9, hA9, hg9l, hcel⟩ := (Sees.ofOwns ho9).int (j := row.length - 1) (by omega)
                                have hc9 := hcel (row.length - 1) (by omega)
                                subst hA9
                                clear hcel
                                have hr := HR.out
                                rw [rep16 hrow, show takeS b 2 s9 = (Except.ok s9 : Except Int St).bind (takeS b 2) from rfl] at hr
                                obtain ⟨VL, hVL⟩ : ∃ v, v = nth row (row.length - 1) := ⟨_, rfl⟩
                                rw [← hVL] at hc9 hr
                                replace HR := Lib.hid hr
                                have q1 : IntKind.i64.wrap ((row.length : Int) - 1) = (row.length : Int) - 1 := IntWalk.i64_in _ (by omega)
                                have q2 : 0 ≤ (row.length : Int) - 1 := by omega
                                have q3 : (row.length : Int) - 1 < row.length := by omega
                                have q5 : (1 : Int) ≤ row.length := by omega
                                have q4 : ((row.length : Int) - 1).toNat = row.length - 1 := by omega
                                have HVL := Lib.hid hVL
                                have HROW := Lib.hid hrow
                                have hstep : ∀ w', Wf.Step p RTS w9.drew w' → w'.cell? ⟨g9, o9 + (row.length - 1), none⟩ = some (.int .i64 VL) := fun w' hs => by
                                  have := (Sees.ofOwns (ownsRow_step (ownsRow_drew ho9) hs (by decide))).int (j := row.length - 1) (by omega)
                                  obtain ⟨g', o', hA', _, hc'⟩ := this
                                  injection hA' with hA'
                                  injection hA' with e1 e2
                                  subst e1
                                  subst e2
                                  rw [hc' _ (by omega), HVL.out]
                                have hVb : valOf ((Except.ok s9 : Except Int St).bind (takeS b 2)) < 4 := valOf_lt (n := 2)
                                have q6 : IntKind.i64.wrap (3 + (valOf ((Except.ok s9 : Except Int St).bind (takeS b 2)) : Int)) = 3 + (valOf ((Except.ok s9 : Except Int St).bind (takeS b 2)) : Int) := IntWalk.i64_in _ (by omega)
                                have HPS : Hid (∀ s', stOf ((Except.ok s9 : Except Int St).bind (takeS b 2)) = .ok s' → s9.pos ≤ s'.pos) := Lib.hid fun s' e => stOf_take_pos e
                                generalize hR3 : (Except.ok s9 : Except Int St).bind (takeS b 2) = R3 at HR hVb q6 HPS
                                have HR3 := Lib.hid hR3
                                clear hr hVL hrow hR3 hm9 hx5
                                go_wp2_with fail
                                go_region_held3 (fun w' => w'.cell? ⟨g9, o9 + (row.length - 1), none⟩ = some (.int .i64 VL))
                                  (first | go_keep | exact hstep _ hsx)
                                  (first | (go_at_call 35; refine (take_val w9.drew p v0 b most (.ok s9) 2 (h9.drewN 1) (by omega)).mono ?_; rintro e w10 ⟨rfl, h10, hsx⟩; rw [HR3.out] at h10; (try rw [HR3.out])))
                                all_goals
                                  go_wp2_with fail
                                  go_meet
                                  exact ⟨3 + valOf R3, VL, stOf R3, by go_num, rfl, by omega, h10, (Wf.Step.refl p RTS w9).drew.trans hsx, HPS.out, HR.out⟩
                            · have hx16b : ((x : Int) == 16) = false := by rw [beq_eq_false_iff_ne]; omega
                              by_cases hx17 : x = 17
                              · subst hx17
                                have hr := HR.out
                                rw [rep17, show takeS b 3 s9 = (Except.ok s9 : Except Int St).bind (takeS b 3) from rfl] at hr
                                replace HR := Lib.hid hr
                                have HPS : Hid (∀ s', stOf ((Except.ok s9 : Except Int St).bind (takeS b 3)) = .ok s' → s9.pos ≤ s'.pos) := Lib.hid fun s' e => stOf_take_pos e
                                clear hr hm9
                                go_wp2_with fail
                                refine (take_val _ p v0 b most (.ok s9) 3 h9 (by omega)).mono ?_
                                rintro r w10 ⟨rfl, h10, hs10⟩
                                have hVb : valOf ((Except.ok s9 : Except Int St).bind (takeS b 3)) < 8 := valOf_lt (n := 3)
                                generalize (Except.ok s9 : Except Int St).bind (takeS b 3) = R3 at h10 HR HPS hVb ⊢
                                go_wp2_with fail
                                go_meet
                                exact ⟨3 + valOf R3, 0, stOf R3, by go_num, rfl, by omega, h10, hs10, HPS.out, HR.out⟩
                              · have hx17b : ((x : Int) == 17) = false := by rw [beq_eq_false_iff_ne]; omega
                                by_cases hx18 : x = 18
                                · subst hx18
                                  have hr := HR.out
                                  rw [rep18, show takeS b 7 s9 = (Except.ok s9 : Except Int St).bind (takeS b 7) from rfl] at hr
                                  replace HR := Lib.hid hr
                                  have HPS : Hid (∀ s', stOf ((Except.ok s9 : Except Int St).bind (takeS b 7)) = .ok s' → s9.pos ≤ s'.pos) := Lib.hid fun s' e => stOf_take_pos e
                                  clear hr hm9
                                  go_wp2_with fail
                                  refine (take_val _ p v0 b most (.ok s9) 7 h9 (by omega)).mono ?_
                                  rintro r w10 ⟨rfl, h10, hs10⟩
                                  have hVb : valOf ((Except.ok s9 : Except Int St).bind (takeS b 7)) < 128 := valOf_lt (n := 7)
                                  generalize (Except.ok s9 : Except Int St).bind (takeS b 7) = R3 at h10 HR HPS hVb ⊢
                                  go_wp2_with fail
                                  go_meet
                                  exact ⟨11 + valOf R3, 0, stOf R3, by go_num, rfl, by omega, h10, hs10, HPS.out, HR.out⟩
                                · have hx18b : ((x : Int) == 18) = false := by rw [beq_eq_false_iff_ne]; omega
                                  have hr := HR.out
                                  rw [repOther hx16 hx17 hx18] at hr
                                  have HRR := Lib.hid hr
                                  clear hr HR hx16 hx17 hx18
                                  go_wp2_with fail
                                  go_meet
                                  exact ⟨1, x, .ok s9, rfl, rfl, by omega, h9, Wf.Step.refl p RTS w9, fun s' e => (by cases e; exact Nat.le_refl _), HRR.out⟩
                          case rest =>
                            obtain ⟨m, v, X, rfl, rfl, hm, h10, hsx, hps, hr⟩ := hcut
                            obtain ⟨w10, rfl⟩ : ∃ y, y = wc := ⟨_, rfl⟩
                            replace HR := Lib.hid hr
                            have hst10 := hst9.trans hsx
                            have hf10 := hf9.step hsx
                            have ho10 := ownsRow_step ho9 hsx (by decide)
                            have HPS : Hid (∀ s', X = .ok s' → okLens l ∧ 8 * b.length < f + s'.pos) := Lib.hid fun s' e => ⟨hz, by have := hps s' e; omega⟩
                            clear hr hst9 hf9 ho9 hsx h9 hps hm9 c4 hx5
                            go_wp2_with fail
                            go_loopw [8, 12] (fun v8 v12 wr => ∃ i : Nat, v12 = .int .i64 i ∧ i ≤ m ∧ wr.ownsRow (g + 1) 3 1 v8 (row.length + i) (ints .i64 (row ++ List.replicate i v)) ∧ RStr wr p v0 b most X ∧ Wf.Step p RTS w wr ∧ Ints wr (some ⟨g, 0, none⟩) l) (fun _ v12 _ => m - (intOf v12).toNat)
                            case atStart => exact ⟨0, rfl, by omega, by simpa using ho10, h10, hst10, hf10⟩
                            case round =>
                              clear ho10 h10 hst10 hf10 w10
                              obtain ⟨i, rfl, him, ho, h11, hst11, hf11⟩ := hrel
                              obtain ⟨A8', c8', rfl⟩ := ho.isSlice
                              have hgl := ints_lt hf11
                              by_cases hlt2 : i < m
                              · have hlt2i : (i : Int) < m := by omega
                                go_wp2_with (at_builtin; refine wpList_push (w := wr) rfl (.tmp 126) (.tmp 128) _ rfl (g + 1) 3 _ 8 Try.underlying35 info3 rfl (.slice A8' (row.length + i) c8') _ _ rfl ho (.int .i64 v) rfl rfl (by omega) (by unfold maxLen; omega) hgl ?_)
                                intro g8 cap8 w12 ho8 hg8
                                have hsoft : Soft (g + 1) p wr w12 := ((Soft.refl (g + 1) p wr).alloc _).trans (Soft.ofGrown (ho.alloc _) hg8 (Nat.le_refl _) (by omega))
                                have HSO := Lib.hid hsoft
                                have e8 : ints .i64 (row ++ List.replicate i v) ++ [Value.int .i64 v] = ints .i64 (row ++ List.replicate (i + 1) v) := by
                                  simp [ints, List.replicate_succ']
                                rw [e8] at ho8
                                have ho88 := Lib.hid ho8
                                clear hg8 ho8 hsoft e8
                                go_wp2_with fail
                                exact ⟨⟨i + 1, by go_num, by omega, ho88.out, h11.soft HSO.out, rstep_soft hst11 (soft_mono HSO.out (by omega)), ints_soft hf11 HSO.out⟩, by simp [intOf]; omega⟩
                              · have hie : i = m := by omega
                                have HIE := Lib.hid hie
                                have hlt2i : ¬ (i : Int) < m := by omega
                                clear hie
                                go_wp2_with fail
                                go_roundg f
                                case measure => omega
                                case rel => exact ⟨row ++ List.replicate m v, X, by have h0 := ho; rw [HIE.out] at h0 ⊢; simpa using h0, by simp; omega, h11, hst11, hf11, HPS.out, HR.out⟩
                      · have hlti : ¬ (row.length : Int) < (lit : Int) + 257 + dist + 1 := by have := HALL.out; omega
                        by_cases hgt : AL < row.length
                        · have hgti : (lit : Int) + 257 + dist + 1 < (row.length : Int) := by have := HALL.out; omega
                          have hr := HR.out
                          rw [rRow_over hgt] at hr
                          subst hr
                          go_wp2_with fail
                          refine (fail_calls _ p _ b most s8 8 h8 (by omega)).mono ?_
                          rintro r w9 ⟨hs9, rfl, h9⟩
                          go_wp2_with fail
                          refine bodyPost_ret (results_none rfl _ _ _) rfl ?_
                          exact ⟨hst8.trans hs9, rfl, h9⟩
                        · have hgti : ¬ (lit : Int) + 257 + dist + 1 < (row.length : Int) := by have := HALL.out; omega
                          have hre : row.length = AL := by omega
                          have hr := HR.out
                          rw [rRow_end hre] at hr
                          replace HR := Lib.hid hr
                          clear hr
                          obtain ⟨g9, cur, rfl, hcap9, hb9, hcur⟩ := owns_blk ho (by omega)
                          have hcp0 : 0 ≤ (lit : Int) + 257 := by omega
                          have hcp1 : (lit : Int) + 257 ≤ c8 := by omega
                          have hcp2 : ¬ c8 = lit + 257 := by omega
                          have hcp3 : (lit : Int) + 257 ≤ (row.length : Int) := by omega
                          have hcp4 : (row.length : Int) ≤ (c8 : Int) := by omega
                          have HRE := Lib.hid hre
                          have HMM := Lib.hid hm8
                          clear hre hlt hgt ho hf8 hm8
                          go_wp2_with fail
                          go_quiet (fail)
                          have h9 := h8.drewN nq
                          have hst9 := hst8.drewN nq
                          have hb10 := hb9.drewN nq
                          generalize wr.drewN nq = w9 at h9 hst9 hb10 ⊢
                          clear h8 hst8 hb9 hcp0 hcp1 hcp2 hcp3 hcp4 c4 wr
                          obtain ⟨zs, hzs⟩ : ∃ zs, zs = row.take (lit + 257) := ⟨_, rfl⟩
                          obtain ⟨dr, hdr⟩ : ∃ dr, dr = row.drop (lit + 257) := ⟨_, rfl⟩
                          have hzl : zs.length = lit + 257 := by rw [hzs, List.length_take]; have := HRE.out; omega
                          have hdl : dr.length = row.length - (lit + 257) := by rw [hdr, List.length_drop]
                          have HI1 : Hid (∀ w', Blk w' g9 3 cur → Ints w' (some ⟨g9, 0, none⟩) zs) := Lib.hid fun w' hb => hzs ▸ ints_of_take hb hcur _
                          have HI2 : Hid (∀ w', Blk w' g9 3 cur → Ints w' (some ⟨g9, lit + 257, none⟩) dr) := Lib.hid fun w' hb => hdr ▸ ints_of_drop hb hcur _
                          have HB1 : Hid (∀ w', Blk w' g9 3 cur → Calls Try.prog 26 #[.slice (some ⟨g9, 0, none⟩) (lit + 257) c8] w' fun e w'' => e = .returned (.int .i64 (mayErr zs)) ∧ ∃ n, w'' = w'.drewN n) := Lib.hid fun w' hb => by
                            have := bad_calls w' (some ⟨g9, 0, none⟩) c8 zs (HI1.out w' hb).sees (by omega)
                            rwa [hzl] at this
                          have HB2 : Hid (∀ w', Blk w' g9 3 cur → Calls Try.prog 26 #[.slice (some ⟨g9, lit + 257, none⟩) (row.length - (lit + 257)) (c8 - (lit + 257))] w' fun e w'' => e = .returned (.int .i64 (mayErr dr)) ∧ ∃ n, w'' = w'.drewN n) := Lib.hid fun w' hb => by
                            have := bad_calls w' (some ⟨g9, lit + 257, none⟩) (c8 - (lit + 257)) dr (HI2.out w' hb).sees (by omega)
                            rwa [hdl] at this
                          obtain ⟨V, hV6⟩ : ∃ v, v = nth zs 256 := ⟨_, rfl⟩
                          have hw0 : row.getD 256 0 = V := by rw [hV6, hzs]; unfold nth; simp only [List.getD, List.getElem?_take]; rw [if_pos (by omega)]
                          have HC : Hid (∀ w', Blk w' g9 3 cur → w'.cell? ⟨g9, 256, none⟩ = some (.int .i64 V)) := Lib.hid fun w' hb => by
                            refine (hb.cell 256).trans (hcur 256 _ ?_)
                            rw [ints_get _ _ (by have := HRE.out; omega), ← hw0]
                            rfl
                          have hr := HR.out
                          unfold dynEnd at hr
                          rw [show ((row, s8) : List Int × St).1.getD 256 0 = V from hw0] at hr
                          simp only at hr
                          rw [← hzs, ← hdr] at hr
                          replace HR := Lib.hid hr
                          have HVN : Hid (okLens zs → 0 ≤ V) := Lib.hid fun h => by
                            rw [hV6]
                            unfold nth
                            rw [List.getD_eq_getElem?_getD, List.getElem?_eq_getElem (by omega)]
                            exact (h.1 _ (List.getElem_mem _)).1
                          have HZL := Lib.hid hzl
                          have HDL := Lib.hid hdl
                          have hl6 : (256 : Int) < (lit : Int) + 257 := by omega
                          have hl7 : 256 < lit + 257 := by omega
                          clear hr hw0 hV6 hzs hdr hzl hdl hcur
                          go_wp2_with fail
                          refine (HB1.out _ hb10).mono ?_
                          rintro r w11 ⟨rfl, n1, rfl⟩
                          have h11 := h9.drewN n1
                          have hst11 := hst9.drewN n1
                          have hb11 := hb10.drewN n1
                          have hc11 := HC.out _ hb11
                          generalize w9.drewN n1 = w11 at h11 hst11 hb11 hc11 ⊢
                          clear h9 hst9 hb10
                          by_cases hz1 : okLens zs
                          · have hV0 := HVN.out hz1
                            rw [mayErr_zero hz1]
                            by_cases hVp : V = 0
                            · have hVb : (V == 0) = true := by rw [hVp]; rfl
                              have hr := HR.out
                              rw [if_neg (by omega)] at hr
                              subst hr
                              have HVP := Lib.hid hVp
                              clear hVp hV0
                              go_wp2_with fail
                              refine (fail_calls _ p _ b most s8 8 h11 (by omega)).mono ?_
                              rintro r w12 ⟨hs12, rfl, h12⟩
                              go_wp2_with fail
                              refine bodyPost_ret (results_none rfl _ _ _) rfl ?_
                              exact ⟨hst11.trans hs12, rfl, h12⟩
                            · have hVb : (V == 0) = false := by rw [beq_eq_false_iff_ne]; exact hVp
                              have hr := HR.out
                              rw [if_pos (by omega)] at hr
                              replace HR := Lib.hid hr
                              clear hr hV0 hVp
                              go_wp2_with fail
                              refine (HB2.out _ hb11).mono ?_
                              rintro r w12 ⟨rfl, n2, rfl⟩
                              have h12 := h11.drewN n2
                              have hst12 := hst11.drewN n2
                              have hb12 := hb11.drewN n2
                              generalize w11.drewN n2 = w12 at h12 hst12 hb12 ⊢
                              clear h11 hst11 hb11 hc11
                              by_cases hz2 : okLens dr
                              · rw [mayErr_zero hz2]
                                have hr := HR.out
                                unfold codedP at hr
                                rw [if_pos ⟨hz1, hz2⟩] at hr
                                have hcf := rcoded_calls w12 p v0 b most (.ok s8) (some ⟨g9, 0, none⟩) (some ⟨g9, lit + 257, none⟩) c8 (c8 - (lit + 257)) zs dr (8 * b.length + 1) h12 (HI1.out _ hb12) (HI2.out _ hb12) hz1 hz2 (fun s' e => by cases e; omega)
                                rw [HZL.out, HDL.out, show (Except.ok s8 : Except Int St).bind (codedS b most zs dr (8 * b.length + 1)) = R from hr] at hcf
                                have HCF := Lib.hid hcf
                                clear hcf hr
                                go_wp2_with fail
                                refine HCF.out.mono ?_
                                rintro r w13 ⟨hs13, rfl, h13⟩
                                go_wp2_with fail
                                go_end0
                                exact ⟨hst12.trans hs13, rfl, h13⟩
                              · have hne : (mayErr dr != 0) = true := by rw [bne_iff_ne]; exact fun e => hz2 (mayErr_ok.1 e)
                                have hr := HR.out
                                unfold codedP at hr
                                rw [if_neg (fun h => hz2 h.2)] at hr
                                subst hr
                                have HZ2 := Lib.hid hz2
                                clear hz2
                                go_wp2_with fail
                                refine (fail_calls _ p _ b most s8 8 h12 (by omega)).mono ?_
                                rintro r w13 ⟨hs13, rfl, h13⟩
                                go_wp2_with fail
                                refine bodyPost_ret (results_none rfl _ _ _) rfl ?_
                                exact ⟨hst12.trans hs13, rfl, h13⟩
                          · have hne : (mayErr zs != 0) = true := by rw [bne_iff_ne]; exact fun e => hz1 (mayErr_ok.1 e)
                            have hr := HR.out
                            simp only [codedP, if_neg (show ¬ (okLens zs ∧ okLens dr) from fun h => hz1 h.1), ite_self] at hr
                            subst hr
                            have HZ1 := Lib.hid hz1
                            clear hz1
                            go_wp2_with fail
                            refine (fail_calls _ p _ b most s8 8 h11 (by omega)).mono ?_
                            rintro r w12 ⟨hs12, rfl, h12⟩
                            go_wp2_with fail
                            refine bodyPost_ret (results_none rfl _ _ _) rfl ?_
                            exact ⟨hst11.trans hs12, rfl, h12⟩
end Go.Proofs.Ytkdjljnplfempaa
