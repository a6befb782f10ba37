/- Bits are read: bits.Read and its twin of the reference. -/
import Derived.Test.YtkdjljnplfempaaProg
import Derived.Test.YtkdjljnplfempaaWfBits
import Derived.Test.YtkdjljnplfempaaWfMem
import Derived.Test.YtkdjljnplfempaaWfInf
import Derived.WalkKit
import Derived.WalkLawsBesides
import Derived.Lib.Hide
import Derived.Deep.QuietTactic
import Derived.BigQuiet
import Derived.Handy
set_option linter.unusedVariables false
set_option linter.unusedSimpArgs false
set_option linter.unusedSectionVars false
namespace Go.Proofs.Ytkdjljnplfempaa
open Go.RowKit Wf

set_option maxHeartbeats 400000 in
theorem read_ok (A : Option Addr) (c : Nat) (p s : Nat) (bs : List Int) (w : World) (hA : Sees w A (ints .u8 bs)) (hb : Bytes bs) (hs2 : s ≤ 64) (hn : bs.length ≤ 140737488351232) (ha : p + s ≤ 8 * bs.length) :
   Calls Try.prog 84 #[.slice A bs.length c, .int .i64 p, .int .i64 s] w fun e w' => e = .returned (.tuple #[.int .u64 (bitsAt bs p s : Nat), .int .i64 0]) ∧ ∃ n, w' = w.drewN n := by
  go_enter Try.func84, Try.ntmps84
  go_wp2
  go_loopw [8, 38] (fun v k wr => ∃ j : Nat, j ≤ s ∧ k = .int .i64 j ∧ v = .int .u64 (bitsAt bs p j : Nat) ∧ ∃ n, wr = w.drewN n) (fun _ k _ => s - (intOf k).toNat)
  case atStart => exact ⟨0, by omega, rfl, rfl, 0, rfl⟩
  case round =>
    obtain ⟨j, hj, rfl, rfl, n, rfl⟩ := hrel
    by_cases hlt : j < s
    · obtain ⟨b, o, rfl, hbl, hc⟩ := hA.int (j := (p + j) / 8) (by omega)
      have hc1 := hc ((p + j) / 8) (by omega)
      have hi0 : 0 ≤ ((p:Int) + j) / 8 := by omega
      have hi1 : ((p:Int) + j) / 8 < bs.length := by omega
      have hti : (((p:Int) + j) / 8).toNat = (p + j) / 8 := by omega
      clear hc
      go_wp2
      refine ⟨⟨j + 1, by omega, by go_num, congrArg _ (or_step hb p j (by omega)), n, rfl⟩, by simp [intOf]; omega⟩
    · obtain rfl : j = s := by omega
      go_wp2
      go_ret2
      exact ⟨rfl, n, rfl⟩

set_option maxHeartbeats 400000 in
theorem read_short (A : Option Addr) (n c : Nat) (p s : Nat) (w : World) (hs2 : s ≤ 64) (hn : n ≤ 140737488351232) (ha : 8 * n < p + s) :
   Calls Try.prog 84 #[.slice A n c, .int .i64 p, .int .i64 s] w fun e w' => e = .returned (.tuple #[.int .u64 0, .int .i64 7]) ∧ w = w' := by
  go_enter Try.func84, Try.ntmps84
  by_cases h : 8 * n < p
  · go_wp2
    go_ret2
    exact ⟨rfl, rfl⟩
  · go_wp2
    go_ret2
    exact ⟨rfl, rfl⟩

set_option maxHeartbeats 400000 in
theorem refRead_ok (A : Option Addr) (c : Nat) (p s : Nat) (bs : List Int) (w : World) (hA : Sees w A (ints .u8 bs)) (hb : Bytes bs) (hs2 : s ≤ 64) (hn : bs.length ≤ 140737488351232) (ha : p + s ≤ 8 * bs.length) :
   Calls Try.prog 66 #[.slice A bs.length c, .int .i64 p, .int .i64 s] w fun e w' => e = .returned (.tuple #[.int .u64 (bitsAt bs p s : Nat), .int .i64 0]) ∧ ∃ n, w' = w.drewN n := by
  go_enter Try.func66, Try.ntmps66
  go_wp2
  go_loopw [8, 9] (fun v k wr => ∃ j : Nat, j ≤ s ∧ k = .int .i64 j ∧ v = .int .u64 (bitsAt bs p j : Nat) ∧ ∃ n, wr = w.drewN n) (fun _ k _ => s - (intOf k).toNat)
  case atStart => exact ⟨0, by omega, rfl, rfl, 0, rfl⟩
  case round =>
    obtain ⟨j, hj, rfl, rfl, n, rfl⟩ := hrel
    by_cases hlt : j < s
    · obtain ⟨b, o, rfl, hbl, hc⟩ := hA.int (j := (p + j) / 8) (by omega)
      have hc1 := hc ((p + j) / 8) (by omega)
      have hi0 : 0 ≤ ((p:Int) + j) / 8 := by omega
      have hi1 : ((p:Int) + j) / 8 < bs.length := by omega
      have hti : (((p:Int) + j) / 8).toNat = (p + j) / 8 := by omega
      clear hc
      go_wp2
      refine ⟨⟨j + 1, by omega, by go_num, congrArg _ (or_step hb p j (by omega)), n, rfl⟩, by simp [intOf]; omega⟩
    · obtain rfl : j = s := by omega
      go_wp2
      go_ret2
      exact ⟨rfl, n, rfl⟩

set_option maxHeartbeats 400000 in
theorem refRead_short (A : Option Addr) (n c : Nat) (p s : Nat) (w : World) (hs2 : s ≤ 64) (hn : n ≤ 140737488351232) (ha : 8 * n < p + s) :
   Calls Try.prog 66 #[.slice A n c, .int .i64 p, .int .i64 s] w fun e w' => e = .returned (.tuple #[.int .u64 0, .int .i64 7]) ∧ w = w' := by
  go_enter Try.func66, Try.ntmps66
  by_cases h : 8 * n < p
  · go_wp2
    go_ret2
    exact ⟨rfl, rfl⟩
  · go_wp2
    go_ret2
    exact ⟨rfl, rfl⟩
end Go.Proofs.Ytkdjljnplfempaa
