/- Package huff: what lengths may be. -/
import Derived.Test.YtkdjljnplfempaaWfRead
import Derived.Test.YtkdjljnplfempaaWfInf
import Derived.Test.YtkdjljnplfempaaWfHuffP
import Derived.WalkKit
import Derived.WalkLawsBesides
import Derived.Lib.Hide
import Derived.Deep.QuietTactic
import Derived.BigQuiet
import Derived.Handy
set_option linter.unusedVariables false
set_option linter.unusedSimpArgs false
set_option linter.unusedSectionVars false
namespace Go.Proofs.Ytkdjljnplfempaa
open Go.RowKit Wf

/-- Is a number not from 0 to m? -/
def outB (m n : Int) : Bool := decide (n < 0) || decide (m < n)

set_option maxHeartbeats 400000 in
theorem in1_calls (w : World) (g : Nat) (m n : Int) (hg : w.cell? ⟨g, 0, none⟩ = some (.int .i64 m)) :
    Calls Try.prog 70 #[.int .i64 n, .pointer (some ⟨g, 0, none⟩)] w fun e w' => e = .returned (.bool (outB m n)) ∧ w = w' := by
  by_cases h : n < 0
  · have hr : outB m n = true := by simp [outB, h]
    have H := Lib.hid hr
    clear hr
    go_enter Try.func70, Try.ntmps70
    go_wp2
    go_ret
    exact ⟨by rw [H.out]; rfl, rfl⟩
  · by_cases h2 : m < n
    · have hr : outB m n = true := by simp [outB, h2]
      have H := Lib.hid hr
      clear hr
      go_enter Try.func70, Try.ntmps70
      go_wp2
      go_ret
      exact ⟨by rw [H.out]; rfl, rfl⟩
    · have hr : outB m n = false := by simp [outB, h, h2]
      have H := Lib.hid hr
      clear hr
      go_enter Try.func70, Try.ntmps70
      go_wp2
      go_ret
      exact ⟨by rw [H.out]; rfl, rfl⟩

theorem in1_calls' (w : World) (g : Nat) (m n : Int) (r : Bool) (hg : w.cell? ⟨g, 0, none⟩ = some (.int .i64 m)) (h : outB m n = r) :
    Calls Try.prog 70 #[.int .i64 n, .pointer (some ⟨g, 0, none⟩)] w fun e w' => e = .returned (.bool r) ∧ w = w' := h ▸ in1_calls w g m n hg

/-- Which is the first that is not from 0 to m? -/
def firstOut (m : Int) (zs : List Int) : Int := match zs.findIdx? (outB m) with | some i => i | none => -1

theorem firstOut_hit {m : Int} {zs : List Int} {k : Nat} (hk : k < zs.length) (h : ∀ j, j < k → outB m (nth zs j) = false) (ho : outB m (nth zs k) = true) : firstOut m zs = k := by
  have e : zs.findIdx? (outB m) = some k := by
    rw [List.findIdx?_eq_some_iff_getElem]
    refine ⟨hk, by rw [nth_get zs hk] at ho; exact ho, fun j hj => ?_⟩
    have := h j hj
    rw [nth_get zs (by omega)] at this
    simpa using this
  simp [firstOut, e]
theorem firstOut_none {m : Int} {zs : List Int} (h : ∀ j, j < zs.length → outB m (nth zs j) = false) : firstOut m zs = -1 := by
  have e : zs.findIdx? (outB m) = none := by
    rw [List.findIdx?_eq_none_iff]
    intro x hx
    obtain ⟨j, hj, rfl⟩ := List.getElem_of_mem hx
    have := h j hj
    rw [nth_get zs hj] at this
    exact this
  simp [firstOut, e]

set_option maxHeartbeats 400000 in
theorem indexFunc_calls (w : World) (A : Option Addr) (c g : Nat) (m : Int) (zs : List Int) (hA : Sees w A (ints .i64 zs)) (hg : w.cell? ⟨g, 0, none⟩ = some (.int .i64 m)) (hn : zs.length ≤ 17592186044416) :
    Calls Try.prog 91 #[.slice A zs.length c, .func (.func 70) #[] #[.pointer (some ⟨g, 0, none⟩)]] w fun e w' => e = .returned (.int .i64 (firstOut m zs)) ∧ w = w' := by
  go_enter Try.func91, Try.ntmps91
  go_wp2
  go_loop [8] (fun k => ∃ j : Nat, j ≤ zs.length ∧ k = .int .i64 j ∧ ∀ i, i < j → outB m (nth zs i) = false) (fun k => zs.length - (intOf k).toNat)
  case atStart => exact ⟨0, by omega, rfl, fun _ h => absurd h (by omega)⟩
  case round =>
    obtain ⟨j, hj, rfl, hall⟩ := hrel
    have HALL := Lib.hid hall
    clear hall
    by_cases hlt : j < zs.length
    · obtain ⟨b, o, rfl, hbl, hc⟩ := hA.int hlt
      have hc1 := hc j hlt
      clear hc
      cases hout : outB m (nth zs j) with
      | true =>
        have HO := Lib.hid hout
        clear hout
        go_wp2_with (go_at_call 70; refine (in1_calls' _ g m _ _ hg HO.out).mono ?_; rintro e w' ⟨rfl, rfl⟩)
        go_ret
        exact ⟨by rw [firstOut_hit hlt HALL.out HO.out]; rfl, rfl⟩
      | false =>
        have HO := Lib.hid hout
        clear hout
        go_wp2_with (go_at_call 70; refine (in1_calls' _ g m _ _ hg HO.out).mono ?_; rintro e w' ⟨rfl, rfl⟩)
        refine ⟨⟨j + 1, by omega, by go_num, fun i hi => ?_⟩, by simp [intOf]; omega⟩
        by_cases e : i = j
        · rw [e]; exact HO.out
        · exact HALL.out i (by omega)
    · obtain rfl : j = zs.length := by omega
      go_wp2
      go_ret
      exact ⟨by rw [firstOut_none HALL.out]; rfl, rfl⟩

set_option maxHeartbeats 400000 in
theorem containsFunc_calls (w : World) (A : Option Addr) (c g : Nat) (m : Int) (zs : List Int) (hA : Sees w A (ints .i64 zs)) (hg : w.cell? ⟨g, 0, none⟩ = some (.int .i64 m)) (hn : zs.length ≤ 17592186044416) :
    Calls Try.prog 69 #[.slice A zs.length c, .func (.func 70) #[] #[.pointer (some ⟨g, 0, none⟩)]] w fun e w' => e = .returned (.bool (decide (0 ≤ firstOut m zs))) ∧ w = w' := by
  go_enter Try.func69, Try.ntmps69
  go_wp2_with (go_at_call 91; refine (indexFunc_calls _ A c g m zs hA hg hn).mono ?_; rintro e w' ⟨rfl, rfl⟩)
  go_ret
  exact ⟨rfl, rfl⟩

theorem firstOut_in (m : Int) (zs : List Int) : (!decide (0 ≤ firstOut m zs)) = decide (∀ z ∈ zs, 0 ≤ z ∧ z ≤ m) := by
  rw [Bool.eq_iff_iff]
  simp only [Bool.not_eq_true', decide_eq_false_iff_not, decide_eq_true_eq]
  unfold firstOut
  cases h : zs.findIdx? (outB m) with
  | none =>
    rw [List.findIdx?_eq_none_iff] at h
    simp only [show ¬ (0 : Int) ≤ -1 by omega, not_false_eq_true, true_iff]
    intro z hz
    have := h z hz
    simp only [outB, Bool.or_eq_false_iff, decide_eq_false_iff_not] at this
    omega
  | some i =>
    rw [List.findIdx?_eq_some_iff_getElem] at h
    obtain ⟨hi, ho, _⟩ := h
    simp only [show (0 : Int) ≤ i by omega, not_true_eq_false, false_iff]
    · intro h
      have := h zs[i] (List.getElem_mem hi)
      simp only [outB, Bool.or_eq_true, decide_eq_true_eq] at ho
      omega

set_option maxHeartbeats 400000 in
theorem in_calls (w : World) (A : Option Addr) (c : Nat) (m : Int) (zs : List Int) (hA : Sees w A (ints .i64 zs)) (hn : zs.length ≤ 17592186044416) :
    Calls Try.prog 41 #[.slice A zs.length c, .int .i64 m] w fun e w' => e = .returned (.bool (!decide (0 ≤ firstOut m zs))) ∧ w.alloc (.cells #[.int .i64 m] 3) = w' := by
  have hA2 := hA.keep (M := fun _ => False) (Keep.alloc (Keep.refl _ w) (.cells #[.int .i64 m] 3)) fun _ _ h => h
  go_enter Try.func41, Try.ntmps41
  go_wp2_with (go_at_call 69; refine (containsFunc_calls _ A c _ m zs hA2 ((Blk.new w 3 #[.int .i64 m]).cell 0) hn).mono ?_; rintro e w' ⟨rfl, rfl⟩)
  go_ret
  exact ⟨rfl, rfl⟩

theorem in_calls' (w : World) (A : Option Addr) (c : Nat) (m : Int) (zs : List Int) (r : Bool) (hA : Sees w A (ints .i64 zs)) (hn : zs.length ≤ 17592186044416) (hr : decide (∀ z ∈ zs, 0 ≤ z ∧ z ≤ m) = r) :
    Calls Try.prog 41 #[.slice A zs.length c, .int .i64 m] w fun e w' => e = .returned (.bool r) ∧ w.alloc (.cells #[.int .i64 m] 3) = w' := by
  have := in_calls w A c m zs hA hn
  rw [firstOut_in, hr] at this
  exact this

set_option maxHeartbeats 400000 in
theorem weight_calls (w : World) (A : Option Addr) (c : Nat) (zs : List Int) (hA : Sees w A (ints .i64 zs)) (hn : zs.length ≤ 17592186044416) (hz : lensIn zs) :
    Calls Try.prog 50 #[.slice A zs.length c] w fun e w' => e = .returned (.int .i64 (wt zs : Nat)) ∧ w = w' := by
  go_enter Try.func50, Try.ntmps50
  go_wp2
  go_loop [3, 8] (fun v k => ∃ j : Nat, j ≤ zs.length ∧ k = .int .i64 j ∧ v = .int .i64 (wt (zs.take j) : Nat)) (fun _ k => zs.length - (intOf k).toNat)
  case atStart => exact ⟨0, by omega, rfl, rfl⟩
  case round =>
    obtain ⟨j, hj, rfl, rfl⟩ := hrel
    by_cases hlt : j < zs.length
    · obtain ⟨b, o, rfl, hbl, hc⟩ := hA.int hlt
      have hc1 := hc j hlt
      clear hc
      by_cases hp : 0 < nth zs j
      · have hz2 := (lensIn_nth hz j).2
        go_wp2
        exact ⟨⟨j + 1, by omega, by go_num, congrArg _ (weight_step hlt hn hp hz2)⟩, by simp [intOf]; omega⟩
      · go_wp2
        exact ⟨⟨j + 1, by omega, by go_num, congrArg _ (weight_skip hlt hp)⟩, by simp [intOf]; omega⟩
    · obtain rfl : j = zs.length := by omega
      go_wp2
      go_ret
      exact ⟨rfl, rfl⟩

theorem keepA {w : World} {A : Option Addr} {xs : List Value} (h : Sees w A xs) (o : Obj) : Sees (w.alloc o) A xs := h.keep (M := fun _ => False) (Keep.alloc (Keep.refl _ w) o) fun _ _ h => h

set_option maxHeartbeats 400000 in
theorem may_calls (w : World) (A : Option Addr) (c : Nat) (zs : List Int) (hA : Sees w A (ints .i64 zs)) (hn : zs.length ≤ 17592186044416) :
    Calls Try.prog 73 #[.slice A zs.length c] w fun e w' => e = .returned (.int .i64 (mayErr zs)) ∧ Below w.heap.size w w' := by
  by_cases hz : lensIn zs
  · by_cases hw : wt zs ≤ 32768
    · by_cases hl : zs.length ≤ 512
      · have HM := Lib.hid (show mayErr zs = 0 by simp [mayErr, hz, hw, hl])
        go_enter Try.func73, Try.ntmps73
        go_wp2_with (first | (go_at_call 41; refine (in_calls' _ A c 15 zs true hA hn (decide_eq_true hz)).mono ?_; rintro e w' ⟨rfl, rfl⟩) | (go_at_call 50; refine (weight_calls _ A c zs (keepA hA _) hn hz).mono ?_; rintro e w' ⟨rfl, rfl⟩))
        go_ret
        exact ⟨by rw [HM.out]; rfl, (Below.refl _ _).alloc (Nat.le_refl _) _⟩
      · have HM := Lib.hid (show mayErr zs = 4 by simp [mayErr, hz, hw, hl])
        go_enter Try.func73, Try.ntmps73
        go_wp2_with (first | (go_at_call 41; refine (in_calls' _ A c 15 zs true hA hn (decide_eq_true hz)).mono ?_; rintro e w' ⟨rfl, rfl⟩) | (go_at_call 50; refine (weight_calls _ A c zs (keepA hA _) hn hz).mono ?_; rintro e w' ⟨rfl, rfl⟩))
        go_ret
        exact ⟨by rw [HM.out]; rfl, (Below.refl _ _).alloc (Nat.le_refl _) _⟩
    · have HM := Lib.hid (show mayErr zs = 2 by simp [mayErr, hw])
      go_enter Try.func73, Try.ntmps73
      go_wp2_with (first | (go_at_call 41; refine (in_calls' _ A c 15 zs true hA hn (decide_eq_true hz)).mono ?_; rintro e w' ⟨rfl, rfl⟩) | (go_at_call 50; refine (weight_calls _ A c zs (keepA hA _) hn hz).mono ?_; rintro e w' ⟨rfl, rfl⟩))
      go_ret
      exact ⟨by rw [HM.out]; rfl, (Below.refl _ _).alloc (Nat.le_refl _) _⟩
  · have HM := Lib.hid (show mayErr zs = 2 by simp [mayErr, hz])
    go_enter Try.func73, Try.ntmps73
    go_wp2_with (first | (go_at_call 41; refine (in_calls' _ A c 15 zs false hA hn (decide_eq_false hz)).mono ?_; rintro e w' ⟨rfl, rfl⟩))
    go_ret
    exact ⟨by rw [HM.out]; rfl, (Below.refl _ _).alloc (Nat.le_refl _) _⟩

set_option maxHeartbeats 400000 in
theorem hWeight_calls (w : World) (A : Option Addr) (c : Nat) (zs : List Int) (hA : Sees w A (ints .i64 zs)) (hn : zs.length ≤ 17592186044416) :
    Calls Try.prog 89 #[.slice A zs.length c] w fun e w' => e = .returned (.tuple #[.int .i64 (weightVal zs : Nat), .int .i64 (weightErr zs)]) ∧ Below w.heap.size w w' := by
  by_cases hz : lensIn zs
  · by_cases hl : zs.length ≤ 512
    · have HM := Lib.hid (show weightVal zs = wt zs ∧ weightErr zs = 0 by simp [weightVal, weightErr, hz, hl])
      go_enter Try.func89, Try.ntmps89
      go_wp2_with (first | (go_at_call 41; refine (in_calls' _ A c 15 zs true hA hn (decide_eq_true hz)).mono ?_; rintro e w' ⟨rfl, rfl⟩) | (go_at_call 50; refine (weight_calls _ A c zs (keepA hA _) hn hz).mono ?_; rintro e w' ⟨rfl, rfl⟩))
      go_ret2
      exact ⟨by rw [HM.out.1, HM.out.2]; rfl, (Below.refl _ _).alloc (Nat.le_refl _) _⟩
    · have HM := Lib.hid (show weightVal zs = 0 ∧ weightErr zs = 4 by simp [weightVal, weightErr, hz, hl])
      go_enter Try.func89, Try.ntmps89
      go_wp2_with (first | (go_at_call 41; refine (in_calls' _ A c 15 zs true hA hn (decide_eq_true hz)).mono ?_; rintro e w' ⟨rfl, rfl⟩))
      go_ret2
      exact ⟨by rw [HM.out.1, HM.out.2]; rfl, (Below.refl _ _).alloc (Nat.le_refl _) _⟩
  · have HM := Lib.hid (show weightVal zs = 0 ∧ weightErr zs = 2 by simp [weightVal, weightErr, hz])
    go_enter Try.func89, Try.ntmps89
    go_wp2_with (first | (go_at_call 41; refine (in_calls' _ A c 15 zs false hA hn (decide_eq_false hz)).mono ?_; rintro e w' ⟨rfl, rfl⟩))
    go_ret2
    exact ⟨by rw [HM.out.1, HM.out.2]; rfl, (Below.refl _ _).alloc (Nat.le_refl _) _⟩
end Go.Proofs.Ytkdjljnplfempaa
