/- The laws InflateReads and InflateTables: what each call comes to. -/
import Derived.Test.YtkdjljnplfempaaWfRStored
import Derived.Test.YtkdjljnplfempaaWfRefSym
import Derived.Test.YtkdjljnplfempaaWfRefLen
import Derived.Test.YtkdjljnplfempaaWfRefFixed
import Derived.WalkKit
import Derived.WalkLawsBesides
import Derived.Lib.Hide
import Derived.Deep.QuietTactic
import Derived.BigQuiet
import Derived.Deep.LoopGhost
import Derived.StillTailTactics
import Derived.Deep.RegionHeld3
import Derived.Deep.RegionWith
import Derived.Handy
import Derived.Test.YtkdjljnplfempaaWfRCoded
import Derived.Deep.DeepCutAuto
import Derived.Test.YtkdjljnplfempaaWfDynA
import Derived.Test.YtkdjljnplfempaaWfRDynA
import Derived.Test.YtkdjljnplfempaaWfOrd2
import Derived.Deep.CutBlock
import Derived.Test.YtkdjljnplfempaaWfRDyn
import Derived.OwnWalk
import Derived.Test.YtkdjljnplfempaaWfRInf
import Derived.Laws.BytesArg
import Derived.KernelRfl
import Derived.Test.YtkdjljnplfempaaWfSame
set_option linter.unusedVariables false
set_option linter.unusedSimpArgs false
set_option linter.unusedSectionVars false
namespace Go.Proofs.Ytkdjljnplfempaa
open Go.RowKit Wf

set_option maxHeartbeats 800000 in
theorem inflateReads_calls (w : World) (A : Option Addr) (c : Nat) (b : List Int) (most : Int) (hs : Sees w A (ints .u8 b)) (hb : Bytes b) (hlen : b.length ≤ 140737488351232) :
    Calls Try.prog 3 #[.slice A b.length c, .int .i64 most] w fun e w' => e = .returned (.bool true) ∧ Below w.heap.size w w' := by
  cases hr : inflateS b most with
  | error k =>
    have HR := Lib.hid hr
    clear hr
    go_enter Try.func3, Try.ntmps3
    go_wp2_with fail
    refine (inflate_err hs hb hlen HR.out).mono ?_
    rintro e w1 ⟨rfl, hb1⟩
    go_wp2_with fail
    refine (rinflate_err (hs.below hb1) hb hlen HR.out).mono ?_
    rintro e w2 ⟨rfl, hb2⟩
    have k2 := hb1.trans (hb2.mono hb1.size)
    go_wp2_with fail
    refine (same_yes w2 none none 0 0 [] (.nil _ _) (.nil _ _)).mono ?_
    rintro e w3 ⟨rfl, rfl⟩
    go_wp2_with fail
    refine (anchored_calls _).mono ?_
    rintro e w3 ⟨rfl, hb3⟩
    have K := Lib.hid (k2.trans (hb3.mono k2.size))
    clear hb1 hb2 hb3 k2
    go_wp2_with fail
    go_ret
    exact ⟨rfl, K.out⟩
  | ok y =>
    obtain ⟨out, used⟩ := y
    have HR := Lib.hid hr
    clear hr
    go_enter Try.func3, Try.ntmps3
    go_wp2_with fail
    refine (inflate_ok hs hb hlen HR.out).mono ?_
    rintro e w1 ⟨A1, d1, rfl, ho1, hb1⟩
    go_wp2_with fail
    refine (rinflate_ok (hs.below hb1) hb hlen HR.out).mono ?_
    rintro e w2 ⟨A2, d2, rfl, ho2, hb2⟩
    have k2 := hb1.trans (hb2.mono hb1.size)
    have hs1 := (Sees.ofOwns ho1).below hb2
    have hs2 := Sees.ofOwns ho2
    clear ho1 ho2 hb1 hb2
    go_wp2_with fail
    refine (same_yes w2 A1 A2 d1 d2 out hs1 hs2).mono ?_
    rintro e w3 ⟨rfl, rfl⟩
    go_wp2_with fail
    refine (anchored_calls _).mono ?_
    rintro e w3 ⟨rfl, hb3⟩
    have K := Lib.hid (k2.trans (hb3.mono k2.size))
    clear hb3 k2
    go_wp2_with fail
    go_ret
    exact ⟨rfl, K.out⟩

set_option maxRecDepth 100000 in
set_option maxHeartbeats 1600000 in
theorem inflateTables_calls (w : World) (x : Int) :
    Calls Try.prog 4 #[.int .i64 x] w fun e w' => e = .returned (.bool true) ∧ Below w.heap.size w w' := by
  obtain ⟨a1, a2, a3, ha⟩ : ∃ a1 a2 a3 : Int, trip (lenA x) = .returned (.tuple #[.int .i64 a1, .int .i64 a2, .int .i64 a3]) := ⟨_, _, _, rfl⟩
  obtain ⟨d1, d2, d3, hd⟩ : ∃ a1 a2 a3 : Int, trip (distA x) = .returned (.tuple #[.int .i64 a1, .int .i64 a2, .int .i64 a3]) := ⟨_, _, _, rfl⟩
  have c14 := length_calls w x
  have c15 := refLength_calls w x
  have c16 := distance_calls w x
  have c17 := refDistance_calls w x
  rw [ha] at c14 c15
  rw [hd] at c16 c17
  have C14 := Lib.hid c14
  have C15 := Lib.hid c15
  have C16 := Lib.hid c16
  have C17 := Lib.hid c17
  clear c14 c15 c16 c17 ha hd
  go_enter Try.func4, Try.ntmps4
  go_wp2_with fail
  refine C14.out.mono ?_
  rintro e w1 ⟨rfl, rfl⟩
  go_wp2_with fail
  refine C15.out.mono ?_
  rintro e w1 ⟨rfl, rfl⟩
  go_wp2_with fail
  refine C16.out.mono ?_
  rintro e w1 ⟨rfl, rfl⟩
  go_wp2_with fail
  refine C17.out.mono ?_
  rintro e w1 ⟨rfl, rfl⟩
  clear C14 C15 C16 C17
  go_wp2_with fail
  refine (fixed_calls _).mono ?_
  rintro e w1 ⟨g1, g2, rfl, _, _, _, hb1, hb2, hk1⟩
  go_wp2_with fail
  refine (refFixed_calls _).mono ?_
  rintro e w2 ⟨g3, g4, rfl, _, _, _, hb3, hb4, hk2⟩
  replace hb1 := hb1.below hk2
  replace hb2 := hb2.below hk2
  have hk := hk1.trans (hk2.mono hk1.size)
  clear hk1 hk2
  go_wp2_with fail
  go_loopw [19] (fun v wr => ∃ k : Nat, v = .int .i64 k ∧ k ≤ 288 ∧ Blk wr g1 3 (arr 288 fun k => .int .i64 (fsV k)) ∧ Blk wr g2 3 (arr 30 fun _ => .int .i64 5) ∧ Blk wr g3 3 (arr 288 fun k => .int .i64 (fsV k)) ∧ Blk wr g4 3 (arr 30 fun _ => .int .i64 5) ∧ Below w.heap.size w wr) (fun v _ => 288 - (intOf v).toNat)
  case atStart => exact ⟨0, rfl, by omega, hb1, hb2, hb3, hb4, hk⟩
  case round =>
    clear hb1 hb2 hb3 hb4 hk
    obtain ⟨k, rfl, hkl, hb1, hb2, hb3, hb4, hk⟩ := hrel
    by_cases hlt : k < 288
    · have hlti : (k : Int) < 288 := by omega
      have c1 := (hb1.cell k).trans (arr_get hlt)
      have c3 := (hb3.cell k).trans (arr_get hlt)
      generalize fsV k = V at c1 c3
      have H1 := Lib.hid hb1
      have H2 := Lib.hid hb2
      have H3 := Lib.hid hb3
      have H4 := Lib.hid hb4
      have HK := Lib.hid hk
      by_cases h30 : k < 30
      · have h30i : (k : Int) < 30 := by omega
        have c2 := (hb2.cell k).trans (arr_get h30)
        have c4 := (hb4.cell k).trans (arr_get h30)
        clear hb1 hb2 hb3 hb4 hk
        go_wp2_with fail
        go_quiet (fail)
        go_wp2_with fail
        exact ⟨⟨k + 1, by go_num, by omega, H1.out.drewN _, H2.out.drewN _, H3.out.drewN _, H4.out.drewN _, ⟨HK.out.os, HK.out.tape, HK.out.output, HK.out.size, HK.out.block⟩⟩, by simp [intOf]; omega⟩
      · have h30i : decide ((k : Int) < 30) = false := by rw [decide_eq_false_iff_not]; omega
        clear hb1 hb2 hb3 hb4 hk
        go_wp2_with fail
        go_quiet (fail)
        go_wp2_with fail
        exact ⟨⟨k + 1, by go_num, by omega, H1.out.drewN _, H2.out.drewN _, H3.out.drewN _, H4.out.drewN _, ⟨HK.out.os, HK.out.tape, HK.out.output, HK.out.size, HK.out.block⟩⟩, by simp [intOf]; omega⟩
    · have hlti : ¬ (k : Int) < 288 := by omega
      have HK := Lib.hid hk
      clear hb1 hb2 hb3 hb4 hk
      go_wp2_with fail
      refine (anchored_calls _).mono ?_
      rintro e w3 ⟨rfl, hb5⟩
      have K := Lib.hid (HK.out.trans (hb5.mono HK.out.size))
      clear hb5
      go_wp2_with fail
      go_ret
      exact ⟨rfl, K.out⟩
end Go.Proofs.Ytkdjljnplfempaa
