/- Package ref02: Same, of two slices that read alike. Package law05: anchored. -/
import Derived.Test.YtkdjljnplfempaaWfRStored
import Derived.Test.YtkdjljnplfempaaWfRefSym
import Derived.Test.YtkdjljnplfempaaWfRefLen
import Derived.Test.YtkdjljnplfempaaWfRefFixed
import Derived.WalkKit
import Derived.WalkLawsBesides
import Derived.Lib.Hide
import Derived.Deep.QuietTactic
import Derived.BigQuiet
import Derived.Deep.LoopGhost
import Derived.StillTailTactics
import Derived.Deep.RegionHeld3
import Derived.Deep.RegionWith
import Derived.Handy
import Derived.Test.YtkdjljnplfempaaWfRCoded
import Derived.Deep.DeepCutAuto
import Derived.Test.YtkdjljnplfempaaWfDynA
import Derived.Test.YtkdjljnplfempaaWfRDynA
import Derived.Test.YtkdjljnplfempaaWfOrd2
import Derived.Deep.CutBlock
import Derived.Test.YtkdjljnplfempaaWfRDyn
import Derived.OwnWalk
import Derived.Test.YtkdjljnplfempaaWfRInf
import Derived.Laws.BytesArg
import Derived.KernelRfl
set_option linter.unusedVariables false
set_option linter.unusedSimpArgs false
set_option linter.unusedSectionVars false
namespace Go.Proofs.Ytkdjljnplfempaa
open Go.RowKit Wf

theorem conv_bytes (w : World) (A : Option Addr) (c : Nat) (b : List Int) (hs : Sees w A (ints .u8 b)) : (convert 22 9 (.slice A b.length c)).run Try.prog w = .ok (.string (strOfNums b)) w := by
  by_cases h0 : b = []
  · subst h0
    rw [run_convert_bytes_string w 22 9 5 _ _ c Try.underlying22 Try.underlying5 Try.underlying9]
    cases A <;> simp [Conv.bytesToString, loadCells]
    all_goals rfl
  · obtain ⟨g, o, rfl, _, hc⟩ := hs.int (j := 0) (List.length_pos_iff.2 h0)
    exact run_convert_bytes_arg w 22 5 Try.underlying22 Try.underlying5 g o b.length c b rfl (fun i hi => by have := hc i hi; unfold nth at this; exact this) 9 Try.underlying9

set_option maxHeartbeats 400000 in
theorem same_yes (w : World) (A B : Option Addr) (c d : Nat) (b : List Int) (hA : Sees w A (ints .u8 b)) (hB : Sees w B (ints .u8 b)) :
    Calls Try.prog 12 #[.slice A b.length c, .slice B b.length d] w fun e w' => e = .returned (.bool true) ∧ w = w' := by
  have h1 := conv_bytes w A c b hA
  have h2 := conv_bytes w B d b hB
  go_enter Try.func12, Try.ntmps12
  go_wp2
  go_ret
  exact ⟨rfl, rfl⟩

theorem ev1 : inflateS [75, 4, 0] 9 = .ok ([97], 3) := by kernel_rfl
theorem ev2 : inflateS [1, 2, 0, 253, 255, 97, 98, 99] 9 = .ok ([97, 98], 7) := by kernel_rfl
theorem ev3 : inflateS [7] 9 = .error 8 := by kernel_rfl

theorem inflate_ok {w : World} {A : Option Addr} {c used : Nat} {b out : List Int} {most : Int} (hs : Sees w A (ints .u8 b)) (hb : Bytes b) (hlen : b.length ≤ 140737488351232)
    (hr : inflateS b most = .ok (out, used)) :
    Calls Try.prog 10 #[.slice A b.length c, .int .i64 most] w fun e w' => ∃ Ao co, e = .returned (.tuple #[.slice Ao out.length co, .int .i64 used, .int .i64 0]) ∧ w'.ownsRow w.heap.size 5 1 (.slice Ao out.length co) out.length (ints .u8 out) ∧ Below w.heap.size w w' :=
  (inflate_calls w A c b most hs hb hlen).mono fun e w' h => by
    obtain ⟨h1, h2⟩ := h
    rw [hr] at h2
    obtain ⟨vo, rfl, ho⟩ := h2
    obtain ⟨Ao, co, rfl⟩ := ho.isSlice
    exact ⟨Ao, co, rfl, ho, h1⟩
theorem inflate_err {w : World} {A : Option Addr} {c : Nat} {b : List Int} {most k : Int} (hs : Sees w A (ints .u8 b)) (hb : Bytes b) (hlen : b.length ≤ 140737488351232)
    (hr : inflateS b most = .error k) :
    Calls Try.prog 10 #[.slice A b.length c, .int .i64 most] w fun e w' => e = .returned (.tuple #[.slice none 0 0, .int .i64 0, .int .i64 k]) ∧ Below w.heap.size w w' :=
  (inflate_calls w A c b most hs hb hlen).mono fun e w' h => by
    obtain ⟨h1, h2⟩ := h
    rw [hr] at h2
    exact ⟨h2, h1⟩
theorem rinflate_ok {w : World} {A : Option Addr} {c used : Nat} {b out : List Int} {most : Int} (hs : Sees w A (ints .u8 b)) (hb : Bytes b) (hlen : b.length ≤ 140737488351232)
    (hr : inflateS b most = .ok (out, used)) :
    Calls Try.prog 11 #[.slice A b.length c, .int .i64 most] w fun e w' => ∃ Ao co, e = .returned (.tuple #[.slice Ao out.length co, .int .i64 used, .int .i64 0]) ∧ w'.ownsRow w.heap.size 5 1 (.slice Ao out.length co) out.length (ints .u8 out) ∧ Below w.heap.size w w' :=
  (rinflate_calls w A c b most hs hb hlen).mono fun e w' h => by
    obtain ⟨h1, h2⟩ := h
    rw [hr] at h2
    obtain ⟨vo, rfl, ho⟩ := h2
    obtain ⟨Ao, co, rfl⟩ := ho.isSlice
    exact ⟨Ao, co, rfl, ho, h1⟩
theorem rinflate_err {w : World} {A : Option Addr} {c : Nat} {b : List Int} {most k : Int} (hs : Sees w A (ints .u8 b)) (hb : Bytes b) (hlen : b.length ≤ 140737488351232)
    (hr : inflateS b most = .error k) :
    Calls Try.prog 11 #[.slice A b.length c, .int .i64 most] w fun e w' => e = .returned (.tuple #[.slice none 0 0, .int .i64 0, .int .i64 k]) ∧ Below w.heap.size w w' :=
  (rinflate_calls w A c b most hs hb hlen).mono fun e w' h => by
    obtain ⟨h1, h2⟩ := h
    rw [hr] at h2
    exact ⟨h2, h1⟩

theorem sees_new (w : World) (xs : List Int) : Sees (w.alloc (.cells (ints .u8 xs).toArray 5)) (some ⟨w.heap.size, 0, none⟩) (ints .u8 xs) := Sees.ofBlk (Blk.new w 5 _)
theorem new_below (w : World) (o : Obj) : Below w.heap.size w (w.alloc o) := (Below.refl _ w).alloc (Nat.le_refl _) _

theorem byt1 : Bytes [75, 4, 0] := by unfold Bytes; decide
theorem byt2 : Bytes [1, 2, 0, 253, 255, 97, 98, 99] := by unfold Bytes; decide
theorem byt3 : Bytes [7] := by unfold Bytes; decide
theorem below_alloc2 {w w3 : World} {o1 o2 : Obj} (h : Below w.heap.size w w3) : Below w.heap.size w ((w3.alloc o1).alloc o2) :=
  (h.alloc h.size _).alloc (Nat.le_trans h.size (by simp)) _

set_option maxHeartbeats 1600000 in
set_option maxRecDepth 100000 in
theorem anchored_calls (w : World) : Calls Try.prog 13 #[] w fun e w' => e = .returned (.bool true) ∧ Below w.heap.size w w' := by
  go_enter Try.func13, Try.ntmps13
  go_wp2_with fail
  have b1 := new_below w (.cells #[.int .u8 75, .int .u8 4, .int .u8 0] 5)
  have hz1 : w.heap.size < (w.alloc (.cells #[.int .u8 75, .int .u8 4, .int .u8 0] 5)).heap.size := by simp
  refine (inflate_ok (b := [75, 4, 0]) (most := 9) (sees_new w [75, 4, 0]) byt1 (by decide) ev1).mono ?_
  rintro e w1 ⟨A1, d1, rfl, ho1, hb1⟩
  have hs1 := Sees.ofOwns ho1
  have k1 := b1.trans (hb1.mono (Nat.le_of_lt hz1))
  clear ho1 hb1 b1 hz1
  go_wp2_with fail
  have b2 := new_below w1 (.cells #[.int .u8 1, .int .u8 2, .int .u8 0, .int .u8 253, .int .u8 255, .int .u8 97, .int .u8 98, .int .u8 99] 5)
  have hz2 : w1.heap.size < (w1.alloc (.cells #[.int .u8 1, .int .u8 2, .int .u8 0, .int .u8 253, .int .u8 255, .int .u8 97, .int .u8 98, .int .u8 99] 5)).heap.size := by simp
  refine (inflate_ok (b := [1, 2, 0, 253, 255, 97, 98, 99]) (most := 9) (sees_new w1 [1, 2, 0, 253, 255, 97, 98, 99]) byt2 (by decide) ev2).mono ?_
  rintro e w2 ⟨A2, d2, rfl, ho2, hb2⟩
  have hs2 := Sees.ofOwns ho2
  have k2 := b2.trans (hb2.mono (Nat.le_of_lt hz2))
  have hs1' := hs1.below k2
  have k3 := k1.trans (k2.mono k1.size)
  clear ho2 hb2 b2 hz2 hs1 k1 k2
  go_wp2_with fail
  have b3 := new_below w2 (.cells #[.int .u8 7] 5)
  have hz3 : w2.heap.size < (w2.alloc (.cells #[.int .u8 7] 5)).heap.size := by simp
  refine (inflate_err (b := [7]) (most := 9) (sees_new w2 [7]) byt3 (by decide) ev3).mono ?_
  rintro e w3 ⟨rfl, hb3⟩
  have k4 := b3.trans (hb3.mono (Nat.le_of_lt hz3))
  have hs1 := hs1'.below k4
  have hs2' := hs2.below k4
  have k5 := k3.trans (k4.mono k3.size)
  clear hb3 b3 hz3 hs1' hs2 k3 k4
  have hs1b := hs1.below (new_below w3 (.cells #[.int .u8 97] 5))
  have hs2b := (hs2'.below (new_below w3 (.cells #[.int .u8 97] 5))).below (new_below _ (.cells #[.int .u8 97, .int .u8 98] 5))
  have y1 : Calls Try.prog 12 #[.slice A1 1 d1, .slice (some ⟨w3.heap.size, 0, none⟩) 1 1] (w3.alloc (.cells #[.int .u8 97] 5)) fun e w' => e = .returned (.bool true) ∧ (w3.alloc (.cells #[.int .u8 97] 5)) = w' := same_yes _ _ _ d1 1 [97] hs1b (sees_new w3 [97])
  have y2 : Calls Try.prog 12 #[.slice A2 2 d2, .slice (some ⟨w3.heap.size + 1, 0, none⟩) 2 2] ((w3.alloc (.cells #[.int .u8 97] 5)).alloc (.cells #[.int .u8 97, .int .u8 98] 5)) fun e w' => e = .returned (.bool true) ∧ ((w3.alloc (.cells #[.int .u8 97] 5)).alloc (.cells #[.int .u8 97, .int .u8 98] 5)) = w' := by
    have h := same_yes _ _ _ d2 2 [97, 98] hs2b (sees_new (w3.alloc (.cells #[.int .u8 97] 5)) [97, 98])
    rwa [World.size_alloc] at h
  have Y1 := Lib.hid y1
  have Y2 := Lib.hid y2
  have K5 := Lib.hid k5
  clear y1 y2 hs1b hs2b hs1 hs2' k5
  go_wp2_with fail
  refine Y1.out.mono ?_
  rintro e w4 ⟨rfl, rfl⟩
  go_wp2_with fail
  refine Y2.out.mono ?_
  rintro e w4 ⟨rfl, rfl⟩
  go_wp2_with fail
  go_ret
  refine ⟨rfl, ?_⟩
  exact below_alloc2 K5.out
end Go.Proofs.Ytkdjljnplfempaa
