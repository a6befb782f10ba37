/- Package ref05: the whole call. -/
import Derived.Test.YtkdjljnplfempaaWfRStored
import Derived.Test.YtkdjljnplfempaaWfRefSym
import Derived.Test.YtkdjljnplfempaaWfRefLen
import Derived.Test.YtkdjljnplfempaaWfRefFixed
import Derived.WalkKit
import Derived.WalkLawsBesides
import Derived.Lib.Hide
import Derived.Deep.QuietTactic
import Derived.BigQuiet
import Derived.Deep.LoopGhost
import Derived.StillTailTactics
import Derived.Deep.RegionHeld3
import Derived.Deep.RegionWith
import Derived.Handy
import Derived.Test.YtkdjljnplfempaaWfRCoded
import Derived.Deep.DeepCutAuto
import Derived.Test.YtkdjljnplfempaaWfDynA
import Derived.Test.YtkdjljnplfempaaWfRDynA
import Derived.Test.YtkdjljnplfempaaWfOrd2
import Derived.Deep.CutBlock
import Derived.Test.YtkdjljnplfempaaWfRDyn
import Derived.OwnWalk
set_option linter.unusedVariables false
set_option linter.unusedSimpArgs false
set_option linter.unusedSectionVars false
namespace Go.Proofs.Ytkdjljnplfempaa
open Go.RowKit Wf

set_option maxRecDepth 100000 in
theorem okLens_sy : okLens fixedSy := by decide +kernel
set_option maxRecDepth 100000 in
theorem okLens_di : okLens fixedDi := by decide +kernel

theorem ints_ofBlk {w : World} {g n : Nat} {l : List Int} (hb : Blk w g 3 (arr n fun k => .int .i64 (nth l k))) (hl : l.length = n) : Ints w (some ⟨g, 0, none⟩) l :=
  ⟨g, 0, _, rfl, hb, fun j u hj => by
    have hj19 : j < n := by have := (List.getElem?_eq_some_iff.1 hj).1; rw [ints_length] at this; omega
    rw [Nat.zero_add, arr_get hj19]
    rw [ints_get _ _ (by omega)] at hj
    exact hj⟩
set_option maxRecDepth 100000 in
theorem arr_sy : (arr 288 fun k => Value.int .i64 (fsV k)) = arr 288 fun k => .int .i64 (nth fixedSy k) := arr_congr fun k hk => by
  have h : ∀ k, k < 288 → fsV k = nth fixedSy k := by decide +kernel
  rw [h k hk]
theorem arr_di : (arr 30 fun _ => Value.int .i64 5) = arr 30 fun k => .int .i64 (nth fixedDi k) := arr_congr fun k hk => by
  have h : ∀ k, k < 30 → (5 : Int) = nth fixedDi k := by decide
  rw [← h k hk]

/-- The kept block of a call's own. -/
def rAll (b : List Int) (most f l : Nat) (s : St) : Except Int St := if l = 1 then .ok s else allS b most f s
theorem allS_eq (b : List Int) (most f : Nat) (s : St) : allS b most (f + 1) s =
    (takeS b 1 s).bind fun x => (takeS b 2 x.2).bind fun y => (blockS b most y.1 y.2).bind (rAll b most f x.1) := rfl
theorem rAll_end {b : List Int} {most f l : Nat} {X T : Except Int St} (h : X.bind (rAll b most f l) = T) (hl : l = 0 ∨ l = 1) : (l = 0 ∧ X.bind (allS b most f) = T) ∨ (l = 1 ∧ X = T) := by
  rcases hl with rfl | rfl
  · exact .inl ⟨rfl, by rw [← h]; cases X <;> rfl⟩
  · exact .inr ⟨rfl, by rw [← h]; cases X <;> rfl⟩
theorem valOf_err {X : Except Int (Nat × St)} {k : Int} (h : X = .error k) : valOf X = 0 := by rw [h]; rfl

set_option maxHeartbeats 3200000 in
set_option maxRecDepth 100000 in
theorem rinflate_calls (w : World) (A : Option Addr) (c : Nat) (b : List Int) (most : Int) (hs : Sees w A (ints .u8 b)) (hb : Bytes b) (hlen : b.length ≤ 140737488351232) :
    Calls Try.prog 11 #[.slice A b.length c, .int .i64 most] w (InfPost w (.slice A b.length c) (inflateS b most)) := by
  generalize hR : inflateS b most = R
  have HR := Lib.hid hR
  clear hR
  by_cases hm0 : most < 0
  · have hr := HR.out
    rw [inflateS, if_pos (.inl hm0)] at hr
    subst hr
    go_enter Try.func11, Try.ntmps11
    go_wp2_with fail
    go_ret3
    exact ⟨Below.refl _ w, rfl⟩
  · by_cases hm1 : 65536 < most
    · have hr := HR.out
      rw [inflateS, if_pos (.inr hm1)] at hr
      subst hr
      go_enter Try.func11, Try.ntmps11
      go_wp2_with fail
      go_ret3
      exact ⟨Below.refl _ w, rfl⟩
    · obtain ⟨m, rfl⟩ : ∃ m : Nat, most = m := ⟨most.toNat, by omega⟩
      have hr := HR.out
      rw [inflateS, if_neg (by omega), Int.toNat_natCast] at hr
      replace HR := Lib.hid hr
      clear hr
      go_enter Try.func11, Try.ntmps11
      go_wp2_with fail
      have b3 := Blk.new w 69 #[.slice A b.length c, .int .i64 0, .slice none 0 0, .int .i64 (m : Int), .int .i64 0]
      have hbl : Below w.heap.size w (w.alloc (.cells #[.slice A b.length c, .int .i64 0, .slice none 0 0, .int .i64 (m : Int), .int .i64 0] 69)) := (Below.refl _ w).alloc (by omega) _
      obtain ⟨g, hg⟩ : ∃ g, g = w.heap.size := ⟨_, rfl⟩
      rw [← hg] at b3 hbl ⊢
      generalize (w.alloc (.cells #[.slice A b.length c, .int .i64 0, .slice none 0 0, .int .i64 (m : Int), .int .i64 0] 69)) = w1 at b3 hbl ⊢
      obtain ⟨v0, hv0⟩ : ∃ v, v = Value.slice A b.length c := ⟨_, rfl⟩
      have hin : In w1 g v0 b := by
        refine ⟨⟨A, c, hv0, hs.below (hg ▸ hbl), fun hne k hk => by have := sees_lt hs hne k hk; omega⟩, hb, hlen⟩
      rw [← hv0] at b3
      have h1 : RStr w1 g v0 b m (.ok ⟨0, []⟩) := RStr.ofLive (s := ⟨0, []⟩) hin b3 (World.ownsRow_nil _ _ _ _) (by simp) (by simp) (by omega)
      have hst1 : Wf.Step g RTS w1 w1 := Wf.Step.refl _ _ _
      have HG := Lib.hid hg
      have HBL := Lib.hid hbl
      have hgl : g < w1.heap.size := b3.lt
      clear hg hbl b3 hin hs
      generalize hT : allS b m (8 * b.length + 1) ⟨0, []⟩ = T at HR
      obtain ⟨wo, rfl⟩ : ∃ x, x = w1 := ⟨_, rfl⟩
      go_loopg [8] (8 * b.length + 2) (fun k v8 wr => ∃ X : Except Int St, RStr wr g v0 b m X ∧ Wf.Step g RTS wo wr ∧ ((v8 = .int .i64 0 ∧ ∃ f, k = f + 1 ∧ (∀ s, X = .ok s → 8 * b.length < f + s.pos) ∧ X.bind (allS b m f) = T) ∨ (v8 = .int .i64 1 ∧ X = T)))
      case atStart => exact ⟨_, h1, hst1, .inl ⟨rfl, _, rfl, fun s e => by cases e; simp, hT⟩⟩
      case round =>
        clear h1 hst1 hT
        obtain ⟨X, h1, hst1, hcase⟩ := hrel
        by_cases hend : (∃ k, X = .error k) ∨ X = T ∧ u8 = .int .i64 1
        · -- the way out
          have hXT : X = T := by
            rcases hend with ⟨k, rfl⟩ | ⟨e, _⟩
            · rcases hcase with ⟨_, f, _, _, e⟩ | ⟨_, e⟩
              · exact e
              · exact e
            · exact e
          have hu : u8 = .int .i64 0 ∧ (∃ k, X = .error k) ∨ u8 = .int .i64 1 := by
            rcases hcase with ⟨e, _⟩ | ⟨e, _⟩
            · rcases hend with h | ⟨_, h⟩
              · exact .inl ⟨e, h⟩
              · exact .inr h
            · exact .inr e
          subst hXT
          clear hcase hend
          have c4 := h1.cell4
          cases X with
          | error k =>
            replace c4 : wr.cell? ⟨g, 4, none⟩ = some (.int .i64 k) := c4
            have hkb : (k == 0) = false := by rw [beq_eq_false_iff_ne]; exact h1.bad k rfl
            have hkn : (k != 0) = true := by rw [bne_iff_ne]; exact h1.bad k rfl
            have hr := HR.out
            have hr : Except.error k = R := hr
            subst hr
            rcases hu with ⟨rfl, _⟩ | rfl
            all_goals
              go_wp2_with fail
              go_quiet (fail)
              go_wp2_with fail
              go_ret3
              refine ⟨?_, rfl⟩
              rw [← HG.out]
              exact HBL.out.trans ((hst1.drewN _).below (by omega))
          | ok s =>
            replace c4 : wr.cell? ⟨g, 4, none⟩ = some (.int .i64 0) := c4
            obtain ⟨vo, hb5, ho5⟩ := h1.live
            obtain ⟨Ao, co, rfl⟩ := ho5.isSlice
            have hpos := (h1.pos s rfl).1
            have c1 : wr.cell? ⟨g, 1, none⟩ = some (.int .i64 s.pos) := hb5.cell 1
            have c2 : wr.cell? ⟨g, 2, none⟩ = some (.slice Ao s.out.length co) := hb5.cell 2
            have q1 : IntKind.i64.wrap ((s.pos : Int) + 7) = (s.pos : Int) + 7 := IntWalk.i64_in _ (by omega)
            have q2 : ((s.pos : Int) + 7).tdiv 8 = (((s.pos + 7) / 8 : Nat) : Int) := by rw [Int.tdiv_eq_ediv_of_nonneg (by omega)]; omega
            have q3 : IntKind.i64.wrap (((s.pos + 7) / 8 : Nat) : Int) = (((s.pos + 7) / 8 : Nat) : Int) := IntWalk.i64_in _ (by omega)
            have hr : Except.ok (s.out, (s.pos + 7) / 8) = R := HR.out
            subst hr
            rcases hu with ⟨_, k, e⟩ | rfl
            · cases e
            · go_wp2_with fail
              go_quiet (fail)
              go_wp2_with fail
              go_ret3
              refine ⟨?_, _, by first | rfl | (congr 3), ?_⟩
              · rw [← HG.out]
                exact HBL.out.trans ((hst1.drewN _).below (by omega))
              · rw [← HG.out]
                have := ownsRow_drewN ho5 nq
                exact ⟨this.1, this.2.imp id fun ⟨gg, cap, cur, h1, h2, h3⟩ => ⟨gg, cap, cur, h1, by omega, h3⟩⟩
        · obtain ⟨s, rfl⟩ : ∃ s, X = .ok s := by
            cases X with
            | ok s => exact ⟨s, rfl⟩
            | error k => exact absurd (.inl ⟨k, rfl⟩) hend
          obtain ⟨rfl, f, rfl, hf, hx⟩ : u8 = .int .i64 0 ∧ ∃ f, gk = f + 1 ∧ (∀ s', Except.ok s = .ok s' → 8 * b.length < f + s'.pos) ∧ (Except.ok s : Except Int St).bind (allS b m f) = T := by
            rcases hcase with h | ⟨e1, e2⟩
            · exact h
            · exact absurd (.inr ⟨e2, e1⟩) hend
          have hm := hf s rfl
          have hpl := (h1.pos s rfl).1
          obtain ⟨f, rfl⟩ : ∃ f', f = f' + 1 := ⟨f - 1, by omega⟩
          have c4 : wr.cell? ⟨g, 4, none⟩ = some (.int .i64 0) := h1.cell4
          have hr : allS b m (f + 1) s = T := hx
          rw [allS_eq, split_bind _ fun l s1 => (takeS b 2 s1).bind fun y => (blockS b m y.1 y.2).bind (rAll b m f l), show takeS b 1 s = (Except.ok s : Except Int St).bind (takeS b 1) from rfl] at hr
          clear hcase hend hf hx
          go_wp2_with fail
          refine (take_val _ g v0 b m (.ok s) 1 h1 (by omega)).mono ?_
          rintro r w2 ⟨rfl, h2, hs2⟩
          have hst2 := hst1.trans hs2
          have hVl : valOf ((Except.ok s : Except Int St).bind (takeS b 1)) < 2 := valOf_lt (n := 1)
          have hP1 : ∀ s', stOf ((Except.ok s : Except Int St).bind (takeS b 1)) = .ok s' → s.pos + 1 ≤ s'.pos := fun s' e => by
            have e2 : stOf (takeS b 1 s) = .ok s' := e
            unfold takeS at e2
            split at e2
            · cases e2; simp
            · cases e2
          generalize (Except.ok s : Except Int St).bind (takeS b 1) = R1 at h2 hr hVl hP1 ⊢
          generalize valOf R1 = l at hr hVl ⊢
          generalize stOf R1 = X1 at h2 hr hP1
          rw [bind_assoc, split_bind _ fun k s2 => (blockS b m k s2).bind (rAll b m f l)] at hr
          have HT := Lib.hid hr
          have HP1 := Lib.hid hP1
          clear hr h1 hst1 hs2 c4 hP1
          go_wp2_with fail
          refine (take_val _ g v0 b m X1 2 h2 (by omega)).mono ?_
          rintro r w3 ⟨rfl, h3, hs3⟩
          have hst3 := hst2.trans hs3
          have hVk : valOf (X1.bind (takeS b 2)) < 4 := valOf_lt (n := 2)
          have hr := HT.out
          have hP2 : ∀ y, X1.bind (takeS b 2) = .ok y → s.pos + 1 ≤ y.2.pos := fun y e => by
            obtain ⟨s1, e1, e2⟩ := bind_ok e
            have := HP1.out s1 e1
            have := takeS_pos (k := y.1) (s' := y.2) e2
            omega
          generalize X1.bind (takeS b 2) = R2 at h3 hr hVk hP2 ⊢
          replace HT := Lib.hid hr
          clear hr h2 hst2 hs3 HP1
          have hl01 : l = 0 ∨ l = 1 := by omega
          clear hVl
          cases R2 with
          | error k =>
            have h3 : RStr w3 g v0 b m (.error k) := h3
            have c4 : w3.cell? ⟨g, 4, none⟩ = some (.int .i64 k) := h3.cell4
            have hkb : (k == 0) = false := by rw [beq_eq_false_iff_ne]; exact h3.bad k rfl
            have hr : Except.error k = T := HT.out
            rw [show valOf (Except.error k : Except Int (Nat × St)) = 0 from rfl]
            have HL := Lib.hid hl01
            clear hl01 hP2 hVk hm hpl
            go_wp2_with fail
            go_roundg (f + 1)
            case measure => omega
            case rel =>
              rcases rAll_end (X := .error k) (show _ = T from HT.out) HL.out with ⟨e, ht⟩ | ⟨e, ht⟩
              · exact ⟨.error k, h3, hst3, .inl ⟨by rw [e]; rfl, f, rfl, fun s' e => (by cases e), ht⟩⟩
              · exact ⟨.error k, h3, hst3, .inr ⟨by rw [e]; rfl, ht⟩⟩
          | ok y =>
            obtain ⟨k2, s2⟩ := y
            have h3 : RStr w3 g v0 b m (.ok s2) := h3
            have hVk : k2 < 4 := hVk
            have c4 : w3.cell? ⟨g, 4, none⟩ = some (.int .i64 0) := h3.cell4
            have hr : (blockS b m k2 s2).bind (rAll b m f l) = T := HT.out
            have hps : s.pos + 1 ≤ s2.pos := hP2 _ rfl
            have hms : 8 * b.length < f + s2.pos := by omega
            have HPP : Hid (∀ s', blockS b m k2 s2 = .ok s' → 8 * b.length < f + s'.pos) := Lib.hid fun s' e => by have := blockS_pos e; omega
            replace HT := Lib.hid hr
            rw [show valOf (Except.ok (k2, s2) : Except Int (Nat × St)) = k2 from rfl]
            have HL := Lib.hid hl01
            clear hr hl01 hP2 hm hpl hps hms
            obtain rfl | rfl | rfl | rfl : k2 = 0 ∨ k2 = 1 ∨ k2 = 2 ∨ k2 = 3 := by omega
            · rw [blockS_0] at HT HPP
              clear hVk
              go_wp2_with fail
              refine (rstored_calls _ g v0 b m s2 h3).mono ?_
              rintro r w4 ⟨hs4, rfl, h4⟩
              have hst4 := hst3.trans hs4
              clear hs4 hst3 h3 c4
              go_wp2_with fail
              go_roundg (f + 1)
              case measure => omega
              case rel =>
                rcases rAll_end HT.out HL.out with ⟨e, ht⟩ | ⟨e, ht⟩
                · exact ⟨_, h4, hst4, .inl ⟨by rw [e]; rfl, f, rfl, HPP.out, ht⟩⟩
                · exact ⟨_, h4, hst4, .inr ⟨by rw [e]; rfl, ht⟩⟩
            · rw [blockS_1] at HT HPP
              clear hVk
              go_wp2_with fail
              refine (refFixed_calls _).mono ?_
              rintro r w4 ⟨g1, g2, rfl, hg1, hg2, _, hb1, hb2, hbl⟩
              have h4 := h3.keep hbl
              have hst4 : Wf.Step g RTS wo w4 := hst3.trans (Step.ofBelow hbl)
              rw [arr_sy] at hb1
              rw [arr_di] at hb2
              have hi1 := ints_ofBlk hb1 fixed_len1
              have hi2 := ints_ofBlk hb2 fixed_len2
              have hcf := rcoded_calls w4 g v0 b m (.ok s2) (some ⟨g1, 0, none⟩) (some ⟨g2, 0, none⟩) 288 30 fixedSy fixedDi (8 * b.length + 1) h4 hi1 hi2 okLens_sy okLens_di (fun s' e => by cases e; omega)
              rw [fixed_len1, fixed_len2, show (Except.ok s2 : Except Int St).bind (codedS b m fixedSy fixedDi (8 * b.length + 1)) = codedP b m fixedSy fixedDi s2 from by unfold codedP; rw [if_pos ⟨okLens_sy, okLens_di⟩]; rfl] at hcf
              have HCF := Lib.hid hcf
              clear hcf hi1 hi2 hb1 hb2 hbl hst3 h3 hg1 hg2 c4
              go_wp2_with fail
              refine HCF.out.mono ?_
              rintro r w5 ⟨hs5, rfl, h5⟩
              have hst5 := hst4.trans hs5
              clear hs5 hst4 h4 HCF
              go_wp2_with fail
              go_roundg (f + 1)
              case measure => omega
              case rel =>
                rcases rAll_end HT.out HL.out with ⟨e, ht⟩ | ⟨e, ht⟩
                · exact ⟨_, h5, hst5, .inl ⟨by rw [e]; rfl, f, rfl, HPP.out, ht⟩⟩
                · exact ⟨_, h5, hst5, .inr ⟨by rw [e]; rfl, ht⟩⟩
            · rw [blockS_2] at HT HPP
              clear hVk
              go_wp2_with fail
              refine (rdynamic_calls _ g v0 b m s2 h3).mono ?_
              rintro r w4 ⟨hs4, rfl, h4⟩
              have hst4 := hst3.trans hs4
              clear hs4 hst3 h3 c4
              go_wp2_with fail
              go_roundg (f + 1)
              case measure => omega
              case rel =>
                rcases rAll_end HT.out HL.out with ⟨e, ht⟩ | ⟨e, ht⟩
                · exact ⟨_, h4, hst4, .inl ⟨by rw [e]; rfl, f, rfl, HPP.out, ht⟩⟩
                · exact ⟨_, h4, hst4, .inr ⟨by rw [e]; rfl, ht⟩⟩
            · rw [blockS_3] at HT HPP
              clear hVk
              go_wp2_with fail
              refine (fail_calls _ g v0 b m s2 8 h3 (by omega)).mono ?_
              rintro r w4 ⟨hs4, rfl, h4⟩
              have hst4 := hst3.trans hs4
              clear hs4 hst3 h3 c4
              go_wp2_with fail
              go_roundg (f + 1)
              case measure => omega
              case rel =>
                rcases rAll_end HT.out HL.out with ⟨e, ht⟩ | ⟨e, ht⟩
                · exact ⟨_, h4, hst4, .inl ⟨by rw [e]; rfl, f, rfl, HPP.out, ht⟩⟩
                · exact ⟨_, h4, hst4, .inr ⟨by rw [e]; rfl, ht⟩⟩
end Go.Proofs.Ytkdjljnplfempaa
