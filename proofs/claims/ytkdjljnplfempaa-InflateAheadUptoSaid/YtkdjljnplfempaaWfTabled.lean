/- Package huff's table of lengths is made. -/
import Derived.Test.YtkdjljnplfempaaWfRead
import Derived.Test.YtkdjljnplfempaaWfInf
import Derived.Test.YtkdjljnplfempaaWfTab
import Derived.StillTailTactics
import Derived.Test.YtkdjljnplfempaaWfHuffP
import Derived.WalkKit
import Derived.WalkLawsBesides
import Derived.Lib.Hide
import Derived.Deep.QuietTactic
import Derived.BigQuiet
import Derived.Handy
set_option linter.unusedVariables false
set_option linter.unusedSimpArgs false
set_option linter.unusedSectionVars false
namespace Go.Proofs.Ytkdjljnplfempaa
open Go.RowKit Wf

/-- Block T is the table of these lengths. -/
def Table (w : World) (T : Nat) (zs : List Int) : Prop := ∃ m, Blk w T 146 #[.map (some m), .int .u64 (wt zs : Nat)] ∧ MapIs w m (tabL zs zs.length)

def cdE (zs : List Int) (c : Nat) : Value := if c % 2 = 0 then .int .i64 (nth zs (c / 2)) else .int .u64 (hiOf zs (c / 2) : Nat)

set_option maxHeartbeats 400000 in
theorem tabled_bad (w : World) (A : Option Addr) (c : Nat) (zs : List Int) (hA : Sees w A (ints .i64 zs)) (hn : zs.length ≤ 17592186044416) (hz : (mayErr zs != 0) = true) :
    Calls Try.prog 76 #[.slice A zs.length c] w fun e w' => e = .returned (.tuple #[.pointer none, .int .i64 (mayErr zs)]) ∧ Below w.heap.size w w' := by
  go_enter Try.func76, Try.ntmps76
  go_wp2_with (go_at_call 73; refine (may_calls _ A c zs hA hn).mono ?_; rintro e w' ⟨rfl, hb⟩)
  go_ret2
  exact ⟨rfl, hb⟩

set_option maxHeartbeats 1600000 in
set_option maxRecDepth 100000 in
theorem tabled_ok (w : World) (A : Option Addr) (c : Nat) (zs : List Int) (hA : Sees w A (ints .i64 zs)) (hz : okLens zs) :
    Calls Try.prog 76 #[.slice A zs.length c] w fun e w' => ∃ T, e = .returned (.tuple #[.pointer (some ⟨T, 0, none⟩), .int .i64 0]) ∧ Table w' T zs ∧ w.heap.size ≤ T ∧ Below w.heap.size w w' := by
  have hn : zs.length ≤ 512 := hz.2.2
  have hwt : wt zs ≤ 32768 := hz.2.1
  have hme := Lib.hid (mayErr_ok.2 hz)
  have HM := Lib.hid (fun w hA => hme.out ▸ may_calls w A c zs hA (by omega))
  have hmm := @run_makeMap Try.prog
  go_enter Try.func76, Try.ntmps76
  go_wp2_with (go_at_call 73; refine (HM.out _ hA).mono ?_; rintro e w1 ⟨rfl, hb⟩)
  have hA1 := keepA (hA.below hb) (.map #[] 0)
  go_wp2_with (go_at_call 50; refine (weight_calls _ A c zs hA1 (by omega) hz.1).mono ?_; rintro e w2 ⟨rfl, rfl⟩)
  go_wp2_with fail
  have hA2 := keepA hA1 (.cells #[.map (some w1.heap.size), .int .u64 (wt zs : Nat)] 146)
  refine (codes_calls _ A c zs hA2 hn hz.1 hwt).mono ?_
  rintro e w3 ⟨g, rfl, hg, hbg, hb3⟩
  have hT : Blk w3 (w1.heap.size + 1) 146 #[.map (some w1.heap.size), .int .u64 (wt zs : Nat)] := by
    have := (Blk.new (w1.alloc (.map #[] 0)) 146 #[.map (some w1.heap.size), .int .u64 (wt zs : Nat)]).below hb3
    simpa using this
  have hM : MapIs w3 w1.heap.size (tabL zs 0) := by
    refine ⟨#[], 0, ?_, by simp [tabL]⟩
    rw [hb3.block _ (by simp; omega), Below.heap_alloc _ _ _ (by simp), heap_alloc_new]
  have hbel : Below w.heap.size w w3 := (((hb.alloc hb.size _).alloc (by have := hb.size; simp; omega) _)).trans (hb3.mono (by have := hb.size; simp; omega))
  have hsz := hb.size
  have hg2 : w1.heap.size + 2 ≤ g := by simpa using hg
  clear hg hb3 hA2 hA1 hmm HM
  go_wp2
  go_loopw [22] (fun k wr => ∃ j : Nat, j ≤ zs.length ∧ k = .int .i64 j ∧ MapIs wr w1.heap.size (tabL zs j) ∧ Blk wr (w1.heap.size + 1) 146 #[.map (some w1.heap.size), .int .u64 (wt zs : Nat)] ∧ Blk wr g 118 (arr (zs.length * 2) (cdE zs)) ∧ Below w.heap.size w wr) (fun k _ => zs.length - (intOf k).toNat)
  case atStart => exact ⟨0, by omega, rfl, hM, hT, hbg, hbel⟩
  case round =>
    clear hbg hbel hM hT w3
    obtain ⟨j, hj, rfl, hM, hT, hbg, hbel⟩ := hrel
    by_cases hlt : j < zs.length
    · have c0 := (hbg.cell (j * 2)).trans (arr_get (by omega))
      have c1 := (hbg.cell (j * 2 + 1)).trans (arr_get (by omega))
      rw [cdE, if_pos (by omega), show j * 2 / 2 = j by omega] at c0
      rw [cdE, if_neg (by omega), show (j * 2 + 1) / 2 = j by omega] at c1
      have t0 := hT.cell 0
      simp at t0
      by_cases hp : 0 < nth zs j
      · go_wp2
        obtain ⟨w5, hw5⟩ : ∃ w5, w5 = wr.alloc (Obj.cells #[.int .i64 (nth zs j), .int .u64 (hiOf zs j : Nat)] 118) := ⟨_, rfl⟩
        have d := Blk.new wr 118 #[.int .i64 (nth zs j), .int .u64 (hiOf zs j : Nat)]
        have hM5 := hM.keep (M := fun _ => False) (Keep.alloc (Keep.refl _ wr) (Obj.cells #[.int .i64 (nth zs j), .int .u64 (hiOf zs j : Nat)] 118)) fun h => h
        have hT5 := hT.alloc (Obj.cells #[.int .i64 (nth zs j), .int .u64 (hiOf zs j : Nat)] 118)
        have hbg5 := hbg.alloc (Obj.cells #[.int .i64 (nth zs j), .int .u64 (hiOf zs j : Nat)] 118)
        have hbel5 := hbel.alloc hbel.size (Obj.cells #[.int .i64 (nth zs j), .int .u64 (hiOf zs j : Nat)] 118)
        rw [← hw5] at d hM5 hT5 hbg5 hbel5 ⊢
        have HW := Lib.hid hw5
        clear hw5
        have t5 := hT5.cell 0
        have d0 := d.cell 0
        have d1 := d.cell 1
        simp at t5 d0 d1
        go_still_tail 6, (by kernel_rfl)
        change wpList _ _ _ _ _ w5.drew
        have hx : keyV (nth zs j) (hiOf zs j : Nat) = keyV ((nth zs j).toNat : Nat) (hiOf zs j : Nat) := by rw [Int.toNat_of_nonneg (by omega)]
        refine wpList_newEntry rfl (.tmp 33) (.tmp 34) (.tmp 35) rfl (w := w5.drew) (m := w1.heap.size) (L := tabL zs j) hM5 (nth zs j).toNat (hiOf zs j) j (tabL_new hlt hp) rfl hx rfl ?_
        intro w7 hM7 hk7
        rw [← tabL_hit hp] at hM7
        have hm := hM.lt
        have hT7 := Blk.keep hT5.drew hk7 (by omega)
        have hbg7 := Blk.keep hbg5.drew hk7 (by omega)
        have hbel7 : Below w.heap.size w w7 := hbel5.drew.trans (hk7.below (fun k e => by subst e; exact hsz) (by have := hbel5.size; exact this))
        go_wp2
        exact ⟨⟨j + 1, by omega, by go_num, hM7, hT7, hbg7, hbel7⟩, by simp [intOf]; omega⟩
      · go_wp2
        exact ⟨⟨j + 1, by omega, by go_num, by rw [tabL_miss hp]; exact hM.keep (M := fun _ => False) (Keep.alloc (Keep.refl _ wr) _) fun h => h, hT.alloc _, hbg.alloc _, hbel.alloc hbel.size _⟩, by simp [intOf]; omega⟩
    · obtain rfl : j = zs.length := by omega
      go_wp2
      go_ret2
      exact ⟨_, rfl, ⟨_, hT, hM⟩, by omega, hbel⟩
end Go.Proofs.Ytkdjljnplfempaa
