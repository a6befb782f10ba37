/- A symbol is read by the reference. -/
import Derived.Test.YtkdjljnplfempaaWfRead
import Derived.Test.YtkdjljnplfempaaWfInf
import Derived.Test.YtkdjljnplfempaaWfSym
import Derived.Test.YtkdjljnplfempaaWfTile
import Derived.Deep.LoopGhost
import Derived.StillTailTactics
import Derived.Test.YtkdjljnplfempaaWfHuffP
import Derived.WalkKit
import Derived.WalkLawsBesides
import Derived.Lib.Hide
import Derived.Deep.QuietTactic
import Derived.BigQuiet
import Derived.Handy
set_option linter.unusedVariables false
set_option linter.unusedSimpArgs false
set_option linter.unusedSectionVars false
namespace Go.Proofs.Ytkdjljnplfempaa
open Go.RowKit Wf

theorem mayErr_zero {zs : List Int} (h : okLens zs) : mayErr zs = 0 := mayErr_ok.2 h

set_option maxHeartbeats 3200000 in
set_option maxRecDepth 100000 in
theorem refSymbol_calls (w : World) (A : Option Addr) (c : Nat) (zs : List Int) (B : Option Addr) (d : Nat) (b : List Int) (p : Nat) (hA : Sees w A (ints .i64 zs)) (hz : okLens zs)
    (hB : Sees w B (ints .u8 b)) (hb : Bytes b) (hlen : b.length ≤ 140737488351232) (hp : p ≤ 8 * b.length) :
    Calls Try.prog 90 #[.slice A zs.length c, .slice B b.length d, .int .i64 p] w fun e w' => e = symRet (symGo zs b p 16 0 0) ∧ Below w.heap.size w w' := by
  have hn : zs.length ≤ 512 := hz.2.2
  have hwt : wt zs ≤ 32768 := hz.2.1
  have hlz := hz.1
  have hme := Lib.hid (mayErr_zero hz)
  have HM := Lib.hid (fun w hA => hme.out ▸ bad_calls w A c zs hA (by omega))
  generalize hR : symGo zs b p 16 0 0 = R
  have HR := Lib.hid hR
  clear hR
  go_enter Try.func90, Try.ntmps90
  go_wp2_with (first | (go_at_call 26; refine (HM.out _ hA).mono ?_; rintro e w1 ⟨rfl, nd, rfl⟩) | (go_at_call 96; refine (high_calls _ A c zs (hA.drewN nd) hn hlz hwt).mono ?_; rintro e w2 ⟨g, rfl, hg, hbg, hbel⟩))
  clear HM hme
  have hbel2 : Below w.heap.size w w2 := (below_drewN (Below.refl _ _) nd).trans hbel
  have hg2 : w.heap.size ≤ g := hg
  clear hg hbel
  go_loopw [11, 12] (fun vc vn wr => ∃ n co : Nat, vn = .int .i64 n ∧ vc = .int .i64 co ∧ n ≤ 15 ∧ co < 2 ^ n ∧ (0 < n → Missed zs (n - 1) (co / 2)) ∧ symAt zs b p n co = R ∧ Blk wr g 3 (arr zs.length fun k => .int .i64 (hiOf zs k : Nat)) ∧ Below w.heap.size w wr) (fun _ vn _ => 16 - (intOf vn).toNat)
  case atStart => exact ⟨0, 0, rfl, rfl, by omega, by omega, fun h => absurd h (by omega), HR.out, hbg, hbel2⟩
  case round =>
    clear hbg hbel2 HR w2
    obtain ⟨n, co, rfl, rfl, hn15, hco, hmiss, hgo, hbg, hbel⟩ := hrel
    have HMI := Lib.hid hmiss
    have HGO := Lib.hid hgo
    clear hmiss hgo
    go_wp2
    obtain ⟨wo, rfl⟩ : ∃ wo : World, wo = wr := ⟨_, rfl⟩
    go_loopw [13, 14] (fun vl vi wr => ∃ (i : Nat) (lv : Bool), vi = .int .i64 i ∧ i ≤ zs.length ∧ vl = .bool lv ∧ NoneAt zs n co i ∧ (lv = true ↔ ∃ k, k < i ∧ liveAt zs n co k) ∧ Blk wr g 3 (arr zs.length fun k => .int .i64 (hiOf zs k : Nat)) ∧ Below w.heap.size w wr) (fun _ vi _ => zs.length - (intOf vi).toNat)
    case atStart => exact ⟨0, false, rfl, by omega, rfl, fun k h => absurd h (by omega), by simp, hbg, hbel⟩
    case round =>
      clear hbg hbel wo
      obtain ⟨i, lv, rfl, hi, rfl, hno, hlive, hbg, hbel⟩ := hrel
      have HNO := Lib.hid hno
      have HLI := Lib.hid hlive
      clear hno hlive
      by_cases hlt : i < zs.length
      · obtain ⟨bb, o, rfl, hbl, hc⟩ := (hA.below hbel).int hlt
        have hc1 := hc i hlt
        clear hc
        have hg1 := (hbg.cell i).trans (arr_get hlt)
        have hzi := lensIn_nth hlz i
        obtain ⟨l, hl⟩ : ∃ l : Nat, nth zs i = (l : Int) := ⟨(nth zs i).toNat, by omega⟩
        rw [hl] at hc1 hzi
        have HL := Lib.hid hl
        clear hl
        by_cases h0 : l = 0
        · subst h0
          go_wp2
          go_quiet (fail)
          go_wp2
          exact ⟨⟨i + 1, lv, by go_num, by omega, rfl, HNO.out.succ fun h => by have := HL.out; omega, live_succ HLI.out fun h => by have := HL.out; have := h.1; omega, hbg.drewN _, below_drewN hbel _⟩, by simp [intOf]; omega⟩
        · have h0b : ((l : Int) == 0) = false := by simp; omega
          by_cases h1 : l < n
          · go_wp2
            go_quiet (fail)
            go_wp2
            exact ⟨⟨i + 1, lv, by go_num, by omega, rfl, HNO.out.succ fun h => by have := HL.out; omega, live_succ HLI.out fun h => by have := HL.out; have := h.1; omega, hbg.drewN _, below_drewN hbel _⟩, by simp [intOf]; omega⟩
          · obtain ⟨sf, hsf⟩ : ∃ sf, sf = l - n := ⟨_, rfl⟩
            have q1 : IntKind.i64.wrap ((l : Int) - n) = (sf : Int) := by rw [show (l : Int) - n = (sf : Int) by omega]; exact IntWalk.i64_in _ (by omega)
            have q2 : IntKind.u64.wrap (sf : Int) = (sf : Int) := wrap_u64_small (by omega)
            have q3 : ((hiOf zs i : Nat) : Int) / 2 ^ sf = ((hiOf zs i / 2 ^ sf : Nat) : Int) := by simp
            have q4 : min sf 64 = sf := by omega
            have h1b : decide ((l : Int) < n) = false := by simp; omega
            have HSF := Lib.hid hsf
            clear hsf
            by_cases h2 : hiOf zs i / 2 ^ sf = co
            · have h2b : (((hiOf zs i : Nat) : Int) / 2 ^ sf != (co : Int)) = false := by rw [q3, h2]; simp
              have H2 := Lib.hid h2
              clear h2 q3
              by_cases h3 : l = n
              · have h3b : ((l : Int) == (n : Int)) = true := by rw [h3]; simp
                have H3 := Lib.hid h3
                clear h3
                go_wp2
                go_quiet (fail)
                go_wp2
                go_ret3
                have hl2 := HL.out
                have hs2 := HSF.out
                have hc2 := H2.out
                rw [show sf = 0 by have := H3.out; omega, Nat.pow_zero, Nat.div_one] at hc2
                have hr := (symAt_hit (b := b) (p := p) hlt (by have := H3.out; omega) (by rw [hl2, H3.out]) hc2 HNO.out).symm.trans HGO.out
                subst hr
                exact ⟨rfl, below_drewN hbel _⟩
              · have h3b : ((l : Int) == (n : Int)) = false := by simp; omega
                have H3 := Lib.hid h3
                clear h3
                go_wp2
                go_quiet (fail)
                go_wp2
                refine ⟨⟨i + 1, true, by go_num, by omega, rfl, HNO.out.succ fun h => by have := HL.out; have := H3.out; omega, ?_, hbg.drewN _, below_drewN hbel _⟩, by simp [intOf]; omega⟩
                simp only [true_iff]
                refine ⟨i, by omega, ?_, ?_⟩
                · rw [HL.out]; have := H3.out; omega
                · rw [HL.out, Int.toNat_natCast, ← HSF.out, H2.out]
            · have h2b : (((hiOf zs i : Nat) : Int) / 2 ^ sf != (co : Int)) = true := by rw [q3, bne_iff_ne]; omega
              have H2 := Lib.hid h2
              clear h2 q3
              go_wp2
              go_quiet (fail)
              go_wp2
              refine ⟨⟨i + 1, lv, by go_num, by omega, rfl, HNO.out.succ ?_, live_succ HLI.out ?_, hbg.drewN _, below_drewN hbel _⟩, by simp [intOf]; omega⟩
              · rintro ⟨a1, a2, a3⟩
                have hl2 := HL.out
                refine H2.out ?_
                rw [show sf = 0 by have := HSF.out; omega, Nat.pow_zero, Nat.div_one, ← a3]
                unfold hiOf
                rw [if_pos (by omega), a2, Int.toNat_natCast]
              · rintro ⟨a1, a2⟩
                rw [HL.out, Int.toNat_natCast, ← HSF.out] at a2
                exact H2.out a2
      · obtain rfl : i = zs.length := by omega
        have hgo := HGO.out
        have hno := HNO.out
        rw [symAt_none hno] at hgo
        have hm := missed_of hno HMI.out
        have hli := HLI.out
        cases lv with
        | false =>
          rw [symGo_dead hn15 (not_live_of hlz hn15 hm (by simpa using hli))] at hgo
          subst hgo
          clear hno hm hli
          go_wp2
          go_ret3
          exact ⟨rfl, hbel⟩
        | true =>
          have hlw := live_lt' hlz (hli.1 rfl)
          by_cases hs : 8 * b.length ≤ p + n
          · rw [symGo_short hn15 hlw hs] at hgo
            subst hgo
            clear hno hm hli hlw
            go_wp2_with (go_at_call 66; refine (refRead_short B _ d (p + n) 1 _ (by omega) hlen (by omega)).mono ?_; rintro e w' ⟨rfl, rfl⟩)
            go_ret3
            exact ⟨rfl, hbel⟩
          · rw [symGo_next hn15 hlw hs] at hgo
            have HG2 := Lib.hid hgo
            have HM2 := Lib.hid hm
            have hn14 : n < 15 := by
              by_cases e : n = 15
              · subst e
                exact absurd (missed_15 hlz hm) (by simpa using hlw)
              · omega
            clear hgo hno hm hli hlw
            go_wp2_with (go_at_call 66; refine (refRead_ok B d (p + n) 1 b _ (hB.below hbel) hb (by omega) hlen (by omega)).mono ?_; rintro e w' ⟨rfl, n3, rfl⟩)
            obtain ⟨he1, he2, he3⟩ := refcode_step (b := b) (q := p + n) hn15 hco
            exact ⟨⟨n + 1, 2 * co + bitAt b (p + n), by go_num, congrArg _ he1, hn14, he2, fun _ => he3.symm ▸ HM2.out, HG2.out, hbg.drewN _, below_drewN hbel _⟩, Nat.sub_lt_sub_left (Nat.lt_succ_of_le hn15) (Nat.lt_succ_self n)⟩
end Go.Proofs.Ytkdjljnplfempaa
