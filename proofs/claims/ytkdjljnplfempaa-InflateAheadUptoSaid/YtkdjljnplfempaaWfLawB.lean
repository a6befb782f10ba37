/- The law InflateAhead: what the call comes to. -/
import Derived.Test.YtkdjljnplfempaaWfRStored
import Derived.Test.YtkdjljnplfempaaWfRefSym
import Derived.Test.YtkdjljnplfempaaWfRefLen
import Derived.Test.YtkdjljnplfempaaWfRefFixed
import Derived.WalkKit
import Derived.WalkLawsBesides
import Derived.Lib.Hide
import Derived.Deep.QuietTactic
import Derived.BigQuiet
import Derived.Deep.LoopGhost
import Derived.StillTailTactics
import Derived.Deep.RegionHeld3
import Derived.Deep.RegionWith
import Derived.Handy
import Derived.Test.YtkdjljnplfempaaWfRCoded
import Derived.Deep.DeepCutAuto
import Derived.Test.YtkdjljnplfempaaWfDynA
import Derived.Test.YtkdjljnplfempaaWfRDynA
import Derived.Test.YtkdjljnplfempaaWfOrd2
import Derived.Deep.CutBlock
import Derived.Test.YtkdjljnplfempaaWfRDyn
import Derived.OwnWalk
import Derived.Test.YtkdjljnplfempaaWfRInf
import Derived.Laws.BytesArg
import Derived.KernelRfl
import Derived.Test.YtkdjljnplfempaaWfSame
import Derived.Laws.AppendOwnNone
import Derived.Laws.OwnMore
import Derived.Test.YtkdjljnplfempaaWfCopy
import Derived.Test.YtkdjljnplfempaaWfLawA
import Derived.Test.YtkdjljnplfempaaWfAhead
set_option linter.unusedVariables false
set_option linter.unusedSimpArgs false
set_option linter.unusedSectionVars false
namespace Go.Proofs.Ytkdjljnplfempaa
open Go.RowKit Wf

theorem sees_block {w w' : World} {A : Option Addr} {b : List Int} (h : Sees w A (ints .u8 b)) {v : Value} (hK : Keep (OwnM v) w w') (hv : ∀ g, inBlock A = some g → b ≠ [] → v.ownBlock ≠ some g) : Sees w' A (ints .u8 b) := by
  by_cases hb : b = []
  · subst hb; exact .inl rfl
  · exact h.keep hK fun g hg hM => hv g hg hb hM
theorem owns_ge {w : World} {base n : Nat} {v : Value} {xs : List Value} (h : w.ownsRow base 5 1 v n xs) : ∀ g, v.ownBlock = some g → base ≤ g ∧ g < w.heap.size := fun g hg => by
  rcases h.2 with ⟨rfl, _⟩ | ⟨g', cap, cur, rfl, hb, hh, _⟩
  · simp [Value.ownBlock] at hg
  · have : g' = g := by simpa [Value.ownBlock] using hg
    subst this
    exact ⟨hb, lt_of_heap hh⟩
theorem own_inBlock {A : Option Addr} {n c g : Nat} {w : World} {base : Nat} {xs : List Value} (h : w.ownsRow base 5 1 (.slice A n c) n xs) (hg : inBlock A = some g) : (Value.slice A n c).ownBlock = some g := by
  rcases h.2 with ⟨hv, _⟩ | ⟨g', cap, cur, hv, _⟩
  · injection hv with e; subst e; cases hg
  · injection hv with e; subst e; exact hg

set_option maxRecDepth 100000 in
/-- 'append(s, x...)' onto a row of the call's own, from whatever slice of bytes. -/
theorem wpList_onto {ops : Array Oper} {rest : List Oper} {o : Oper} {a : Act} {Q : Exit → Act → World → Prop} {w : World} (hgd : o.guard = none) (s x : Operand)
    (ho : o.op = .call { callee := .builtin .append, args := #[s, x], argTypes := #[22, 22] })
    (base : Nat) (A : Option Addr) (c n : Nat) (b : List Int) (hs : a.eval s = .slice A n c) (hown : w.ownsRow base 5 1 (.slice A n c) n (ints .u8 b))
    (B : Option Addr) (d : Nat) (z : List Int) (hx : a.eval x = .slice B z.length d) (hz : Sees w B (ints .u8 z)) (hB : Fit B z.length d) (hbytes : n + z.length ≤ 140737488355328) (hbase : base ≤ w.heap.size)
    (h : ∀ A' c' w', w'.ownsRow base 5 1 (.slice A' (n + z.length) c') (n + z.length) (ints .u8 (b ++ z)) → w.grownBy w' (Value.slice A n c).ownBlock →
      wpList Try.prog ops Q rest (a.put o.dst (.slice A' (n + z.length) c')) w') : wpList Try.prog ops Q (o :: rest) a w := by
  obtain ⟨i0, hi, hz0, hz1, hz2⟩ := info_parts info5
  cases B with
  | none =>
    obtain ⟨h0, rfl⟩ := hB rfl
    have he : z = [] := List.eq_nil_of_length_eq_zero h0
    subst he
    refine wpList_append_own_none hgd s x 22 ho base 5 i0 1 Try.underlying22 hi _ n _ hs hown hx ?_
    have := h A c w (by simpa using hown) (World.grownBy.refl _ _)
    simpa using this
  | some ad =>
    obtain ⟨blk, off, spot⟩ := ad
    have hc : ∀ j u, (ints .u8 z)[j]? = some u → w.cell? ((⟨blk, off, spot⟩ : Addr).add j) = some u := fun j u hj => by
      have hjb : j < z.length := by have := (List.getElem?_eq_some_iff.1 hj).1; rwa [ints_length] at this
      obtain ⟨b', o', hA, hl, hcel⟩ := hz.at_ (k := j) (by rw [ints_length]; exact hjb)
      injection hA with hA
      injection hA with e1 e2 e3
      subst e1 e2 e3
      rw [addr_add]
      exact hcel j u hj
    refine wpList_append_own _ hgd s x 22 ho base 5 i0 (.int .u8 0) 1 1 Try.underlying22 hi hz0 hz1 hz2 rfl (by decide) _ n _ hs hown ⟨blk, off, spot⟩ z.length d (ints .u8 z) hx (by rw [ints_length, Nat.mul_one]) hc int_one (by unfold maxLen; omega) (by omega) hbase ?_
    intro v' w1 ho1 hg1 _
    have e1 : ints .u8 b ++ ints .u8 z = ints .u8 (b ++ z) := by unfold ints; rw [List.map_append]
    rw [e1] at ho1
    obtain ⟨Ao, co, rfl⟩ := ho1.isSlice
    exact h _ _ _ ho1 hg1

set_option maxHeartbeats 3200000 in
set_option maxRecDepth 100000 in
theorem ahead_calls (w : World) (A B : Option Addr) (c d : Nat) (b z : List Int) (M : Nat) (hs : Sees w A (ints .u8 b)) (hz : Sees w B (ints .u8 z)) (hA : Fit A b.length c) (hB : Fit B z.length d) (hb : Bytes b) (hzb : Bytes z)
    (hlen : b.length + z.length ≤ 4294967296) (hM : M ≤ 65535) :
    Calls Try.prog 5 #[.slice A b.length c, .slice B z.length d, .int .u16 M] w fun e w' => e = .returned (.bool true) ∧ Below w.heap.size w w' := by
  have q1 : IntKind.i64.wrap (M : Int) = (M : Int) := IntWalk.i64_in _ (by omega)
  go_enter Try.func5, Try.ntmps5
  go_wp2_with fail
  refine (copy_calls w A c b hs hA (by omega)).mono ?_
  rintro e w1 ⟨A1, d1, rfl, ho1, hb1⟩
  have hs1 := Sees.ofOwns ho1
  have hg1 := owns_ge ho1
  have hi1 : ∀ g, inBlock A1 = some g → g < w1.heap.size := fun g hg => (hg1 g (own_inBlock ho1 hg)).2
  have HI1 := Lib.hid hi1
  clear ho1 hg1 hi1
  go_wp2_with fail
  cases hr : inflateS b (M : Int) with
  | error k =>
    have hk : (k != 0) = true := by rw [bne_iff_ne]; exact inflateS_bad _ k hr
    refine (inflate_err hs1 hb (by omega) hr).mono ?_
    rintro e w2 ⟨rfl, hb2⟩
    have k2 := hb1.trans (hb2.mono hb1.size)
    have hs2 := hs1.below hb2
    have HR := Lib.hid hr
    clear hr hb1 hb2 hs1
    go_wp2_with fail
    refine (anchored_calls _).mono ?_
    rintro e w3 ⟨rfl, hb3⟩
    have k3 := k2.trans (hb3.mono k2.size)
    have hs3 := hs2.below hb3
    have hsb := hs.below k3
    have HY := Lib.hid (same_yes w3 A A1 c d1 b hsb hs3)
    have HK := Lib.hid k3
    clear hb3 k2 k3 hs2 hs3 hsb
    go_wp2_with fail
    refine HY.out.mono ?_
    rintro e w4 ⟨rfl, rfl⟩
    go_wp2_with fail
    go_ret
    exact ⟨rfl, HK.out⟩
  | ok y =>
    obtain ⟨out, n⟩ := y
    have hinv := inflateS_inv hr
    have hry : inflateS (b ++ z) (M : Int) = .ok (out, n) := inflateS_le (Nat.le_refl _) (by omega) _ hr
    have hrz : inflateS b ((65536 : Nat) : Int) = .ok (out, n) := by
      have := inflateS_le (z := []) (b := b) (m := M) (m' := 65536) (by omega) (Nat.le_refl _) _ hr
      rwa [List.append_nil] at this
    have HR := Lib.hid hr
    have HRY := Lib.hid hry
    have HRZ := Lib.hid hrz
    refine (inflate_ok hs1 hb (by omega) hr).mono ?_
    clear hr hry hrz
    rintro e w2 ⟨A2, d2, rfl, ho2, hb2⟩
    have k2 := hb1.trans (hb2.mono hb1.size)
    have hs2 := hs1.below hb2
    have HXO : Hid (w2.ownsRow w1.heap.size 5 1 (.slice A2 out.length d2) out.length (ints .u8 out)) := Lib.hid ho2
    have hn1 := hb1.size
    have hn2 := hb2.size
    clear hb1 hb2 hs1
    go_wp2_with fail
    refine (copy_calls w2 A c b (hs.below k2) hA (by omega)).mono ?_
    rintro e w3 ⟨A3, d3, rfl, ho3, hb3⟩
    have hzs := (hz.below k2).below hb3
    have HZ := Lib.hid hzs
    have hbel : Below w2.heap.size w2 w3 := hb3
    clear hzs hz
    go_wp2_with (at_builtin; go_loud (refine wpList_onto rfl _ _ rfl w2.heap.size A3 d3 b.length b rfl ho3 B d z rfl HZ.out hB (by omega) hbel.size ?_))
    intro A4 d4 w4 ho4 hg4
    have hb4 : Below w2.heap.size w2 w4 := (Keep.grown (M := fun _ => False) (Keep.of_below hbel) hg4 (fun k hk => .inr (owns_ge ho3 k hk).1)).toBelow
    have hs4 := Sees.ofOwns ho4
    have k4 := k2.trans (hb4.mono k2.size)
    have hs4b := hs2.below hb4
    have ho4b := ownsRow_step ho2 (Step.ofBelow (p := 0) (ts := []) hb4) (by simp)
    have hn4 := hb4.size
    have hz4 : Bytes (b ++ z) := fun x hx => by
      rcases List.mem_append.1 hx with h | h
      · exact hb x h
      · exact hzb x h
    have HBZ := Lib.hid hz4
    have HX := Lib.hid hs4
    have HX2 := Lib.hid ho4b
    have HX3 := Lib.hid hs4b
    have HX4 := Lib.hid k4
    have e4 : b.length + z.length = (b ++ z).length := by rw [List.length_append]
    have HE4 := Lib.hid e4
    clear ho3 hbel hg4 hb3 HZ hb4 hs2 ho2 k2 hs4 ho4b hs4b k4 hz4 e4 w3
    go_wp2_with fail
    rw [HE4.out]
    refine (inflate_ok (by have := HX.out; exact this) HBZ.out (by rw [← HE4.out]; omega) HRY.out).mono ?_
    rintro e w5 ⟨A5, d5, rfl, ho5, hb5⟩
    have k5 := HX4.out.trans (hb5.mono HX4.out.size)
    have hs5 := HX3.out.below hb5
    have hx5 := ownsRow_step HX2.out (Step.ofBelow (p := 0) (ts := []) hb5) (by simp)
    have hn5 := hb5.size
    clear HX HX2 HX3 HX4 hb5
    go_wp2_with fail
    refine (inflate_ok hs5 hb (by omega) HRZ.out).mono ?_
    rintro e w6 ⟨A6, d6, rfl, ho6, hb6⟩
    have k6 := k5.trans (hb6.mono k5.size)
    have hs6 := hs5.below hb6
    have hx6 := ownsRow_step hx5 (Step.ofBelow (p := 0) (ts := []) hb6) (by simp)
    have hy6 := ownsRow_step ho5 (Step.ofBelow (p := 0) (ts := []) hb6) (by simp)
    have hxg := owns_ge HXO.out
    have hn6 := hb6.size
    clear hb6 hs5 hx5 ho5 k5
    go_wp2_with fail
    refine (spoil_calls w6 w1.heap.size A2 out.length d2 out 7 hx6 (by omega) (by omega)).mono ?_
    rintro e w7 ⟨rfl, hK⟩
    have hs7 := sees_block hs6 hK (fun g hg _ e => by have := HI1.out g hg; have := (hxg g e).1; omega)
    have hy7 := sees_block (Sees.ofOwns hy6) hK (fun g hg _ e => by have := (owns_ge hy6 g (own_inBlock hy6 hg)).1; have := (hxg g e).2; omega)
    have hz7 := sees_block (Sees.ofOwns ho6) hK (fun g hg _ e => by have := (owns_ge ho6 g (own_inBlock ho6 hg)).1; have := (hxg g e).2; omega)
    have hsb6 := hs.below k6
    have hsb7 := sees_block hsb6 hK (fun g hg hne e => by have := sees_lt hs hne g hg; have := (hxg g e).1; omega)
    have k7 : Below w.heap.size w w7 := (Keep.trans' (Keep.of_below (M := fun k => w.heap.size ≤ k) k6) (hK.mono fun k _ hk => by have := (hxg k hk).1; omega)).below (fun _ h => h) (Nat.le_refl _)
    clear hK hs6 hx6 hy6 ho6 hsb6 k6 hs
    go_wp2_with fail
    refine (inflate_ok hs7 hb (by omega) HR.out).mono ?_
    rintro e w8 ⟨A8, d8, rfl, ho8, hb8⟩
    have hs8 := hs7.below hb8
    have hy8 := hy7.below hb8
    have hz8 := hz7.below hb8
    have hsb8 := hsb7.below hb8
    have hw8 := Sees.ofOwns ho8
    have k8 := k7.trans (hb8.mono k7.size)
    clear hs7 hy7 hz7 hsb7 ho8 hb8 k7
    go_wp2_with fail
    refine (anchored_calls _).mono ?_
    rintro e w9 ⟨rfl, hb9⟩
    have k9 := k8.trans (hb9.mono k8.size)
    have HY1 := Lib.hid (same_yes w9 A5 A6 d5 d6 out (hy8.below hb9) (hz8.below hb9))
    have HY2 := Lib.hid (same_yes w9 A5 A8 d5 d8 out (hy8.below hb9) (hw8.below hb9))
    have HY3 := Lib.hid (same_yes w9 A A1 c d1 b (hsb8.below hb9) (hs8.below hb9))
    have HK := Lib.hid k9
    obtain ⟨hi1, hi2⟩ := hinv
    have hj1 : (n : Int) ≤ (b.length : Int) := by omega
    have hj2 : (out.length : Int) ≤ (M : Int) := by omega
    clear hs8 hy8 hz8 hsb8 hw8 k8 hb9 k9
    go_wp2_with fail
    refine HY1.out.mono ?_
    rintro e wx ⟨rfl, rfl⟩
    go_wp2_with fail
    refine HY2.out.mono ?_
    rintro e wx ⟨rfl, rfl⟩
    go_wp2_with fail
    refine HY3.out.mono ?_
    rintro e wx ⟨rfl, rfl⟩
    go_wp2_with fail
    go_ret
    exact ⟨rfl, HK.out⟩
end Go.Proofs.Ytkdjljnplfempaa
