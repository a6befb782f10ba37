/- Package ref02: Copy and Spoil. -/
import Derived.Test.YtkdjljnplfempaaWfRStored
import Derived.Test.YtkdjljnplfempaaWfRefSym
import Derived.Test.YtkdjljnplfempaaWfRefLen
import Derived.Test.YtkdjljnplfempaaWfRefFixed
import Derived.WalkKit
import Derived.WalkLawsBesides
import Derived.Lib.Hide
import Derived.Deep.QuietTactic
import Derived.BigQuiet
import Derived.Deep.LoopGhost
import Derived.StillTailTactics
import Derived.Deep.RegionHeld3
import Derived.Deep.RegionWith
import Derived.Handy
import Derived.Test.YtkdjljnplfempaaWfRCoded
import Derived.Deep.DeepCutAuto
import Derived.Test.YtkdjljnplfempaaWfDynA
import Derived.Test.YtkdjljnplfempaaWfRDynA
import Derived.Test.YtkdjljnplfempaaWfOrd2
import Derived.Deep.CutBlock
import Derived.Test.YtkdjljnplfempaaWfRDyn
import Derived.OwnWalk
import Derived.Test.YtkdjljnplfempaaWfRInf
import Derived.Laws.BytesArg
import Derived.KernelRfl
import Derived.Test.YtkdjljnplfempaaWfSame
import Derived.Laws.AppendOwnNone
import Derived.Laws.OwnMore
set_option linter.unusedVariables false
set_option linter.unusedSimpArgs false
set_option linter.unusedSectionVars false
namespace Go.Proofs.Ytkdjljnplfempaa
open Go.RowKit Wf

/-- A row of no cell in a new block. -/
theorem owns_empty {w : World} {e : TypeId} {g base : Nat} (h : Blk w g e #[]) (hb : base ≤ g) : w.ownsRow base e 1 (.slice (some ⟨g, 0, none⟩) 0 0) 0 [] :=
  ⟨rfl, .inr ⟨g, 0, #[], rfl, hb, h, Nat.le_refl _, Nat.zero_le _, rfl, rfl⟩⟩
theorem int_one {k : IntKind} {zs : List Int} : ∀ u ∈ ints k zs, u.oneCell' = true := fun u hu => by
  unfold ints at hu
  obtain ⟨n, _, rfl⟩ := List.mem_map.1 hu
  rfl

/-- A slice is some row, or nil. -/
def Fit (A : Option Addr) (n c : Nat) : Prop := A = none → n = 0 ∧ c = 0

set_option maxHeartbeats 800000 in
set_option maxRecDepth 100000 in
theorem copy_calls (w : World) (A : Option Addr) (c : Nat) (b : List Int) (hs : Sees w A (ints .u8 b)) (hn : Fit A b.length c) (hlen : b.length ≤ 140737488351232) :
    Calls Try.prog 20 #[.slice A b.length c] w fun e w' => ∃ Ao co, e = .returned (.slice Ao b.length co) ∧ w'.ownsRow w.heap.size 5 1 (.slice Ao b.length co) b.length (ints .u8 b) ∧ Below w.heap.size w w' := by
  obtain ⟨i0, hi, hz0, hz1, hz2⟩ := info_parts info5
  have ho := owns_empty (Blk.new w 5 #[]) (Nat.le_refl _)
  cases A with
  | none =>
    obtain ⟨h0, rfl⟩ := hn rfl
    have hb : b = [] := List.eq_nil_of_length_eq_zero h0
    subst hb
    go_enter Try.func20, Try.ntmps20
    go_wp2_with (at_builtin; refine wpList_append_own_none rfl _ _ 22 rfl w.heap.size 5 i0 1 Try.underlying22 hi _ 0 [] rfl ho rfl ?_)
    go_ret
    exact ⟨_, _, rfl, ho, new_below w _⟩
  | some ad =>
    obtain ⟨blk, off, spot⟩ := ad
    have hc : ∀ j u, (ints .u8 b)[j]? = some u → (w.alloc (.cells #[] 5)).cell? ((⟨blk, off, spot⟩ : Addr).add j) = some u := fun j u hj => by
      have hjb : j < b.length := by have := (List.getElem?_eq_some_iff.1 hj).1; rwa [ints_length] at this
      obtain ⟨b', o', hA, hl, hcel⟩ := (hs.below (new_below w (.cells #[] 5))).at_ (k := j) (by rw [ints_length]; exact hjb)
      injection hA with hA
      injection hA with e1 e2 e3
      subst e1 e2 e3
      rw [addr_add]
      exact hcel j u hj
    have HC := Lib.hid hc
    clear hc
    go_enter Try.func20, Try.ntmps20
    go_wp2_with (at_builtin; go_loud (refine wpList_append_own _ rfl _ _ 22 rfl w.heap.size 5 i0 (.int .u8 0) 1 1 Try.underlying22 hi hz0 hz1 hz2 rfl (by decide) _ 0 [] rfl ho ⟨blk, off, spot⟩ b.length c (ints .u8 b) rfl (by rw [ints_length, Nat.mul_one]) HC.out int_one (by unfold maxLen; omega) (by omega) (by simp) ?_))
    intro v' w1 ho1 hg1 _
    replace ho1 : w1.ownsRow w.heap.size 5 1 v' b.length (ints .u8 b) := by simpa using ho1
    obtain ⟨Ao, co, rfl⟩ := ho1.isSlice
    have HO := Lib.hid ho1
    have hbel : Below w.heap.size w w1 := (Keep.grown (M := fun _ => False) ((Keep.refl _ w).alloc _) hg1 (fun k hk => by
      simp [Value.ownBlock] at hk
      exact .inr (by omega))).toBelow
    have HB := Lib.hid hbel
    clear hg1 ho1 hbel
    go_wp2_with fail
    go_ret
    exact ⟨_, _, rfl, HO.out, HB.out⟩

/-- What Spoil may turn: the slice's own block. -/
def OwnM (v : Value) (k : Nat) : Prop := v.ownBlock = some k

set_option maxHeartbeats 1600000 in
set_option maxRecDepth 100000 in
theorem spoil_calls (w : World) (base : Nat) (A : Option Addr) (n c : Nat) (zs : List Int) (m : Int) (ho : w.ownsRow base 5 1 (.slice A n c) n (ints .u8 zs)) (hb : base ≤ w.heap.size) (hn : n ≤ 65536) :
    Calls Try.prog 21 #[.slice A n c, .int .u8 m] w fun e w' => e = .returned (.tuple #[]) ∧ Keep (OwnM (.slice A n c)) w w' := by
  obtain ⟨i0, hi, hz0, hz1, hz2⟩ := info_parts info5
  have hlen : zs.length = n := by have := ho.1; rw [ints_length] at this; omega
  go_enter Try.func21, Try.ntmps21
  go_wp2_with fail
  go_loopw [4] (fun v wr => ∃ (k : Nat) (zs : List Int), v = .int .i64 k ∧ k ≤ n ∧ zs.length = n ∧ wr.ownsRow base 5 1 (.slice A n c) n (ints .u8 zs) ∧ Keep (OwnM (.slice A n c)) w wr) (fun v _ => n - (intOf v).toNat)
  case atStart => exact ⟨0, zs, rfl, by omega, hlen, ho, Keep.refl _ _⟩
  case round =>
    clear ho hlen zs
    obtain ⟨k, zs, rfl, hk, hlen, ho, hK⟩ := hrel
    by_cases hlt : k < n
    · have hlti : (k : Int) < n := by omega
      obtain ⟨g, rfl⟩ : ∃ g, A = some ⟨g, 0, none⟩ := by
        rcases ho.2 with ⟨hv, h0⟩ | ⟨g, cap, cur, hv, _⟩
        · omega
        · injection hv with e; exact ⟨g, e⟩
      have c1 := (ho.cellAt k (by omega)).trans (ints_get .u8 zs (by omega))
      have f1 := ho.frozenAt k
      have HO := Lib.hid ho
      have HK := Lib.hid hK
      have HL := Lib.hid hlen
      clear ho hK hlen
      go_wp2_with fail
      refine ⟨⟨k + 1, zs.set k (bits .xor .u8 m (IntKind.u8.wrap (k : Int))), by go_num, by omega, by rw [List.length_set]; exact HL.out, ?_, ?_⟩, by simp [intOf]; omega⟩
      · have h := (HO.out.stored k (.int .u8 (bits .xor .u8 m (IntKind.u8.wrap (k : Int))))).1
        unfold ints at h ⊢
        rw [List.map_set]
        exact h
      · exact HK.out.grown (HO.out.stored k _).2 (fun j hj => .inl (by cases hj; rfl))
    · have hlti : ¬ (k : Int) < n := by omega
      have hke : k = n := by omega
      by_cases hcap : n + 3 ≤ c
      · obtain ⟨g, rfl⟩ : ∃ g, A = some ⟨g, 0, none⟩ := by
          rcases ho.2 with ⟨hv, h0⟩ | ⟨g, cap, cur, hv, _⟩
          · injection hv; omega
          · injection hv with e; exact ⟨g, e⟩
        have hnew : ∀ j u, (ints .u8 [m, m, m])[j]? = some u → (wr.alloc (.cells #[.int .u8 m, .int .u8 m, .int .u8 m] 5)).cell? ((⟨wr.heap.size, 0, none⟩ : Addr).add j) = some u := fun j u hj => by
          rw [addr_add, Nat.zero_add, (Blk.new wr 5 _).cell j]
          simpa [ints] using hj
        have HN := Lib.hid hnew
        have HL := Lib.hid hlen
        clear hnew hlen
        go_wp2_with (at_builtin; go_loud (refine wpList_append_fits _ rfl _ _ 22 rfl base 5 i0 1 Try.underlying22 hi hz1 g n c (ints .u8 zs) rfl (ho.alloc _) ⟨wr.heap.size, 0, none⟩ 3 3 (ints .u8 [m, m, m]) rfl rfl HN.out int_one hcap ?_))
        intro w1 ho2 hg1
        have hK2 : Keep (OwnM (.slice (some ⟨g, 0, none⟩) n c)) w w1 := (hK.alloc _).grown hg1 (fun j hj => .inl (by cases hj; rfl))
        obtain ⟨zs2, hzs2⟩ : ∃ z, z = zs ++ [m, m, m] := ⟨_, rfl⟩
        replace ho2 : w1.ownsRow base 5 1 (.slice (some ⟨g, 0, none⟩) (n + 3) c) (n + 3) (ints .u8 zs2) := by rw [hzs2]; unfold ints at ho2 ⊢; rw [List.map_append]; exact ho2
        have hl2 : zs2.length = n + 3 := by rw [hzs2]; simp; exact HL.out
        obtain ⟨A2, hAe⟩ : ∃ A2 : Option Addr, A2 = some ⟨g, 0, none⟩ := ⟨_, rfl⟩
        rw [← hAe] at ho2 ⊢
        have hA2 : ∀ g2, A2 = some ⟨g2, 0, none⟩ → OwnM (.slice (some ⟨g, 0, none⟩) n c) g2 ∨ w.heap.size ≤ g2 := fun g2 e => .inl (by rw [hAe] at e; injection e with e; injection e with e; subst e; rfl)
        obtain ⟨base2, hb2⟩ : ∃ x, x = base := ⟨_, rfl⟩
        obtain ⟨c2, hc2⟩ : ∃ x, x = c := ⟨_, rfl⟩
        have e1 : Value.slice A2 (n + 3) c = .slice A2 (n + 3) c2 := by rw [hc2]
        rw [← hb2] at ho2
        rw [e1] at ho2 ⊢
        clear hg1 hzs2 hAe hb2 hc2 e1 ho hK HN HL
        have HA2 := Lib.hid hA2
        have HO2 := Lib.hid ho2
        have HK2 := Lib.hid hK2
        have HL2 := Lib.hid hl2
        clear hA2 ho2 hK2 hl2
        go_wp2_with fail
        go_loopw [5] (fun v wr => ∃ (k : Nat) (zs : List Int), v = .int .i64 k ∧ k ≤ n + 3 ∧ zs.length = n + 3 ∧ wr.ownsRow base2 5 1 (.slice A2 (n + 3) c2) (n + 3) (ints .u8 zs) ∧ Keep (OwnM (.slice (some ⟨g, 0, none⟩) n c)) w wr) (fun v _ => n + 3 - (intOf v).toNat)
        case atStart => exact ⟨0, zs2, rfl, by omega, HL2.out, HO2.out, HK2.out⟩
        case round =>
          clear HO2 HK2 HL2 w1
          obtain ⟨k, zs, rfl, hk, hlen, ho, hK⟩ := hrel
          by_cases hlt : k < n + 3
          · have hlti : (k : Int) < (n : Int) + 3 := by omega
            obtain ⟨gg, rfl⟩ : ∃ gg, A2 = some ⟨gg, 0, none⟩ := by
              rcases ho.2 with ⟨hv, h0⟩ | ⟨g, cap, cur, hv, _⟩
              · omega
              · injection hv with e; exact ⟨g, e⟩
            have hg2 := HA2.out gg rfl
            have c1 := (ho.cellAt k (by omega)).trans (ints_get .u8 zs (by omega))
            have f1 := ho.frozenAt k
            have HO := Lib.hid ho
            have HK := Lib.hid hK
            have HL := Lib.hid hlen
            have HG := Lib.hid hg2
            clear ho hK hlen hg2
            go_wp2_with fail
            refine ⟨⟨k + 1, zs.set k m, by go_num, by omega, by rw [List.length_set]; exact HL.out, ?_, ?_⟩, by simp [intOf]; omega⟩
            · have h := (HO.out.stored k (.int .u8 m)).1
              unfold ints at h ⊢
              rw [List.map_set]
              exact h
            · exact HK.out.grown (HO.out.stored k _).2 (fun j hj => by cases hj; exact HG.out)
          · have hlti : ¬ (k : Int) < (n : Int) + 3 := by omega
            have HK := Lib.hid hK
            clear hK
            go_wp2_with fail
            go_end0
            exact ⟨rfl, HK.out⟩
      · have hnew : ∀ j u, (ints .u8 [m, m, m])[j]? = some u → (wr.alloc (.cells #[.int .u8 m, .int .u8 m, .int .u8 m] 5)).cell? ((⟨wr.heap.size, 0, none⟩ : Addr).add j) = some u := fun j u hj => by
          rw [addr_add, Nat.zero_add, (Blk.new wr 5 _).cell j]
          simpa [ints] using hj
        have hnone : A = none → n = 0 ∧ c = 0 := fun e => by
          rcases ho.2 with ⟨hv, h0⟩ | ⟨g, cap, cur, hv, _⟩
          · injection hv; omega
          · injection hv with e2; rw [e] at e2; cases e2
        have hold : ∀ b, A = some b → ∀ j u, (ints .u8 zs)[j]? = some u → (wr.alloc (.cells #[.int .u8 m, .int .u8 m, .int .u8 m] 5)).cell? (b.add j) = some u := fun b e j u hj => by
          obtain ⟨g, o, hA, _, hc⟩ := (Sees.ofOwns (ho.alloc (.cells #[.int .u8 m, .int .u8 m, .int .u8 m] 5))).at_ (k := j) (List.getElem?_eq_some_iff.1 hj).1
          rw [e] at hA
          cases hA
          rw [addr_add]
          exact hc j u hj
        have HN := Lib.hid hnew
        have HE := Lib.hid hnone
        have HD := Lib.hid hold
        have HL := Lib.hid hlen
        have hz3 : (ints .u8 zs).length = n * 1 := by rw [ints_length]; omega
        have HZ := Lib.hid hz3
        clear hnew hlen hnone hold hz3
        go_wp2_with (at_builtin; go_loud (refine wpList_append_grows _ rfl _ _ 22 rfl 5 i0 (.int .u8 0) 1 1 Try.underlying22 hi hz0 hz1 hz2 rfl (by decide) A n c (ints .u8 zs) rfl HE.out HZ.out HD.out ⟨wr.heap.size, 0, none⟩ 3 3 (ints .u8 [m, m, m]) rfl rfl HN.out int_one (by omega) (by unfold maxLen; omega) (by omega) ?_))
        intro v2 w1 ho2 hg1
        have hK2 : Keep (OwnM (.slice A n c)) w w1 := (hK.alloc _).grown hg1 (fun j hj => by cases hj)
        obtain ⟨zs2, hzs2⟩ : ∃ z, z = zs ++ [m, m, m] := ⟨_, rfl⟩
        obtain ⟨base2, hb2⟩ : ∃ x, x = wr.heap.size + 1 := ⟨_, rfl⟩
        have hsz : w.heap.size ≤ base2 := by have := hK.size; omega
        replace ho2 : w1.ownsRow base2 5 1 v2 (n + 3) (ints .u8 zs2) := by rw [hzs2, hb2]; unfold ints at ho2 ⊢; rw [List.map_append]; exact ho2
        have hl2 : zs2.length = n + 3 := by rw [hzs2]; simp; exact HL.out
        obtain ⟨A2, c2, rfl⟩ := ho2.isSlice
        have hA2 : ∀ g2, A2 = some ⟨g2, 0, none⟩ → OwnM (.slice A n c) g2 ∨ w.heap.size ≤ g2 := fun g2 e => by
          rcases ho2.2 with ⟨hv, h0⟩ | ⟨g, cap, cur, hv, hbg, _⟩
          · omega
          · injection hv with e2; rw [e] at e2; injection e2 with e2; injection e2 with e2; subst e2; exact .inr (by omega)
        clear hg1 hzs2 hb2 hsz ho hK HN HE HD HL HZ
        have HA2 := Lib.hid hA2
        have HO2 := Lib.hid ho2
        have HK2 := Lib.hid hK2
        have HL2 := Lib.hid hl2
        clear hA2 ho2 hK2 hl2
        go_wp2_with fail
        go_loopw [5] (fun v wr => ∃ (k : Nat) (zs : List Int), v = .int .i64 k ∧ k ≤ n + 3 ∧ zs.length = n + 3 ∧ wr.ownsRow base2 5 1 (.slice A2 (n + 3) c2) (n + 3) (ints .u8 zs) ∧ Keep (OwnM (.slice A n c)) w wr) (fun v _ => n + 3 - (intOf v).toNat)
        case atStart => exact ⟨0, zs2, rfl, by omega, HL2.out, HO2.out, HK2.out⟩
        case round =>
          clear HO2 HK2 HL2 w1
          obtain ⟨k, zs, rfl, hk, hlen, ho, hK⟩ := hrel
          by_cases hlt : k < n + 3
          · have hlti : (k : Int) < (n : Int) + 3 := by omega
            obtain ⟨g, rfl⟩ : ∃ g, A2 = some ⟨g, 0, none⟩ := by
              rcases ho.2 with ⟨hv, h0⟩ | ⟨g, cap, cur, hv, _⟩
              · omega
              · injection hv with e; exact ⟨g, e⟩
            have hg2 := HA2.out g rfl
            have c1 := (ho.cellAt k (by omega)).trans (ints_get .u8 zs (by omega))
            have f1 := ho.frozenAt k
            have HO := Lib.hid ho
            have HK := Lib.hid hK
            have HL := Lib.hid hlen
            have HG := Lib.hid hg2
            clear ho hK hlen hg2
            go_wp2_with fail
            refine ⟨⟨k + 1, zs.set k m, by go_num, by omega, by rw [List.length_set]; exact HL.out, ?_, ?_⟩, by simp [intOf]; omega⟩
            · have h := (HO.out.stored k (.int .u8 m)).1
              unfold ints at h ⊢
              rw [List.map_set]
              exact h
            · exact HK.out.grown (HO.out.stored k _).2 (fun j hj => by cases hj; exact HG.out)
          · have hlti : ¬ (k : Int) < (n : Int) + 3 := by omega
            have HK := Lib.hid hK
            clear hK
            go_wp2_with fail
            go_end0
            exact ⟨rfl, HK.out⟩
end Go.Proofs.Ytkdjljnplfempaa
