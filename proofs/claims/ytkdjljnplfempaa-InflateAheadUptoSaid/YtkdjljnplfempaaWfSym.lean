/- A symbol is read by the table. -/
import Derived.Test.YtkdjljnplfempaaWfRead
import Derived.Test.YtkdjljnplfempaaWfInf
import Derived.Test.YtkdjljnplfempaaWfTabled
import Derived.Test.YtkdjljnplfempaaWfTile
import Derived.Deep.LoopGhost
import Derived.StillTailTactics
import Derived.Test.YtkdjljnplfempaaWfHuffP
import Derived.WalkKit
import Derived.WalkLawsBesides
import Derived.Lib.Hide
import Derived.Deep.QuietTactic
import Derived.BigQuiet
import Derived.Handy
set_option linter.unusedVariables false
set_option linter.unusedSimpArgs false
set_option linter.unusedSectionVars false
namespace Go.Proofs.Ytkdjljnplfempaa
open Go.RowKit Wf

def symRet (r : Except Int (Nat × Nat)) : Ending := match r with
  | .ok (i, n) => .returned (.tuple #[.int .i64 i, .int .i64 n, .int .i64 0])
  | .error k => .returned (.tuple #[.int .i64 0, .int .i64 0, .int .i64 k])

set_option maxHeartbeats 1600000 in
set_option maxRecDepth 100000 in
theorem tableSymbol_calls (w : World) (T : Nat) (zs : List Int) (A : Option Addr) (c : Nat) (b : List Int) (p : Nat) (hT : Table w T zs) (hz : okLens zs)
    (hA : Sees w A (ints .u8 b)) (hb : Bytes b) (hlen : b.length ≤ 140737488351232) (hp : p ≤ 8 * b.length) :
    Calls Try.prog 77 #[.pointer (some ⟨T, 0, none⟩), .slice A b.length c, .int .i64 p] w fun e w' => e = symRet (symGo zs b p 16 0 0) ∧ Below w.heap.size w w' := by
  obtain ⟨m, hbT, hM⟩ := hT
  have hwt : wt zs ≤ 32768 := hz.2.1
  have hTl := hbT.lt
  have hml := hM.lt
  generalize hR : symGo zs b p 16 0 0 = R
  have HR := Lib.hid hR
  clear hR
  go_enter Try.func77, Try.ntmps77
  go_wp2
  go_loopg [6] 16 (fun k _ wr => ∃ n co : Nat, k = 16 - n ∧ n ≤ 15 ∧ co < 2 ^ n ∧ Missed zs n co ∧ symGo zs b p (16 - n) n co = R ∧ Blk wr w.heap.size 118 #[.int .i64 n, .int .u64 co] ∧ Below w.heap.size w wr)
  case atStart => exact ⟨0, 0, rfl, by omega, by omega, missed_zero zs, HR.out, Blk.new _ _ _, (Below.refl _ _).alloc (Nat.le_refl _) _⟩
  case round =>
    obtain ⟨n, co, rfl, hn, hco, hmiss, hgo, hbc, hbel⟩ := hrel
    have t1 := (Blk.cell (hbT.below hbel) 1)
    have c0 := hbc.cell 0
    have c1 := hbc.cell 1
    simp at t1 c0 c1
    have hsh : co * 2 ^ (15 - n) < 32768 := by
      have : co * 2 ^ (15 - n) < 2 ^ n * 2 ^ (15 - n) := Nat.mul_lt_mul_of_pos_right hco (Nat.pow_pos (by omega))
      rw [← Nat.pow_add, show n + (15 - n) = 15 by omega] at this
      simpa using this
    have hsh2 : IntKind.u64.wrap ((co : Int) * 2 ^ (15 - n)) = (co : Int) * 2 ^ (15 - n) := by
      have := wrap_u64_small (n := co * 2 ^ (15 - n)) (by omega)
      simpa using this
    rw [show 16 - n = (15 - n) + 1 by omega, symGo] at hgo
    by_cases hw : wt zs ≤ co * 2 ^ (15 - n)
    · rw [if_pos hw] at hgo
      subst hgo
      have hwi : ((wt zs : Nat) : Int) ≤ (co : Int) * 2 ^ (15 - n) := by exact_mod_cast hw
      go_wp2
      go_quiet (fail)
      go_wp2
      go_ret3
      exact ⟨rfl, below_drewN hbel _⟩
    · rw [if_neg hw] at hgo
      have hwi : ¬ ((wt zs : Nat) : Int) ≤ (co : Int) * 2 ^ (15 - n) := by exact_mod_cast hw
      by_cases hs : 8 * b.length ≤ p + n
      · rw [if_pos hs] at hgo
        subst hgo
        go_wp2
        go_quiet (fail)
        go_wp2
        go_ret3
        exact ⟨rfl, below_drewN hbel _⟩
      · rw [if_neg hs] at hgo
        have HGO := Lib.hid hgo
        clear hgo
        obtain ⟨bb, o, rfl, hbl, hc⟩ := hA.int (j := (p + n) / 8) (by omega)
        have hc1 := hbel.cell (p := ⟨bb, o + (p + n) / 8, none⟩) hbl
        rw [hc _ (by omega)] at hc1
        have hi0 : 0 ≤ ((p:Int) + n) / 8 := by omega
        have hi1 : ((p:Int) + n) / 8 < b.length := by omega
        have hti : (((p:Int) + n) / 8).toNat = (p + n) / 8 := by omega
        clear hc
        clear hsh2
        go_wp2
        have hsh2 : IntKind.u64.wrap ((co : Int) * 2 ^ (15 - n)) = (co : Int) * 2 ^ (15 - n) := by
          have := wrap_u64_small (n := co * 2 ^ (15 - n)) (by omega)
          simpa using this
        go_quiet (fail)
        go_wp2
        clear hsh2
        have hbc5 := hbc.drewN nq
        have hbel5 := below_drewN hbel nq
        have hf0 := hbc5.frozen 0
        have hf1 := hbc5.frozen 1
        have hc5 : (wr.drewN nq).cell? ⟨bb, o + (p + n) / 8, none⟩ = _ := hc1
        generalize wr.drewN nq = w5 at hbc5 hbel5 hf0 hf1 hc5 ⊢
        have d0 := hbc5.cell 0
        have d1 := hbc5.cell 1
        simp at d0 d1
        have q1 : Int.tdiv ((p : Int) + n) 8 = ((p : Int) + n) / 8 := Int.tdiv_eq_ediv_of_nonneg (by omega)
        have q2 : Int.tmod ((p : Int) + n) 8 = ((p : Int) + n) % 8 := Int.tmod_eq_emod_of_nonneg (by omega)
        have q3 : IntKind.i64.wrap (((p : Int) + n) / 8) = ((p : Int) + n) / 8 := IntWalk.i64_in _ (by omega)
        have q4 : IntKind.u64.wrap (((p : Int) + n) % 8) = ((p : Int) + n) % 8 := by
          have := wrap_u64_small (n := (p + n) % 8) (by omega)
          rwa [show (((p + n) % 8 : Nat) : Int) = ((p : Int) + n) % 8 by omega] at this
        have q5 : (((p : Int) + n) % 8).toNat = (p + n) % 8 := by omega
        have q6 : IntKind.i64.wrap ((n : Int) + 1) = (n : Int) + 1 := IntWalk.i64_in _ (by omega)
        have q7 : 0 ≤ ((p : Int) + n) % 8 := by omega
        have q8 : IntKind.i64.wrap (((p : Int) + n) % 8) = ((p : Int) + n) % 8 := IntWalk.i64_in _ (by omega)
        go_still_tail 19, (by kernel_rfl)
        change wpList _ _ _ _ _ w5.drew
        have hbc6 := hbc5.drew
        have hbel6 := hbel5.drew
        generalize w5.drew = w6 at hbc6 hbel6 ⊢
        have d0 := hbc6.cell 0
        have d1 := hbc6.cell 1
        have hf0 := hbc6.frozen 0
        have hf1 := hbc6.frozen 1
        simp at d0 d1
        go_wp2
        have hcol : co < 32768 := by
          have : 2 ^ n ≤ 2 ^ 15 := Nat.pow_le_pow_right (by omega) hn
          omega
        rw [sym_or hb (p + n) co hcol]
        have hb2 := bitAt_lt b (p + n)
        rw [show ((n : Int) + 1) = ((n + 1 : Nat) : Int) by omega]
        clear q1 q2 q3 q4 q5 q6 q7 q8
        have hmiss2 : findCode zs (n + 1) (2 * co + bitAt b (p + n)) = none → Missed zs (n + 1) (2 * co + bitAt b (p + n)) := missed_succ hmiss hb2
        have hco2 : 2 * co + bitAt b (p + n) < 2 ^ (n + 1) := by rw [Nat.pow_succ]; omega
        have hn2 : n + 1 ≤ 15 := by
          by_cases e : n = 15
          · subst e
            exact absurd (missed_15 hz.1 hmiss) (by simpa using hw)
          · omega
        have hpos2 : 0 < n + 1 := by omega
        have hm2 : 15 - n = 16 - (n + 1) := by omega
        have hm3 : 16 - (n + 1) < 16 - n := by omega
        rw [hm2] at HGO
        have HGO2 := HGO.out
        clear HGO
        generalize 2 * co + bitAt b (p + n) = co1 at hmiss2 hco2 HGO2 ⊢
        generalize n + 1 = n1 at hmiss2 hco2 hn2 hpos2 hm3 HGO2 ⊢
        have hbc7 := (hbc6.set_ 0 (.int .i64 (n1 : Int))).set_ 1 (.int .u64 (co1 : Int))
        have hbel7 := (hbel6.setCell (p := ⟨w.heap.size, 0, none⟩) (Nat.le_refl _) (.int .i64 (n1 : Int))).setCell (p := ⟨w.heap.size, 1, none⟩) (Nat.le_refl _) (.int .u64 (co1 : Int))
        generalize (w6.setCell ⟨w.heap.size, 0, none⟩ (.int .i64 (n1 : Int))).setCell ⟨w.heap.size, 1, none⟩ (.int .u64 (co1 : Int)) = w7 at hbc7 hbel7 ⊢
        simp at hbc7
        have t0 := (Blk.cell (hbT.below hbel7) 0)
        have d0 := hbc7.cell 0
        have d1 := hbc7.cell 1
        simp at t0 d0 d1
        have hM7 : MapIs w7 m (tabL zs zs.length) := hM.keep (M := fun _ => False) (.of_below hbel7) fun h => h
        have hlk : ∀ k, Sem.run Try.prog (Instr.lookup 144 (.map (some m)) (.agg #[.int .i64 (n1 : Int), .int .u64 (co1 : Int)]) true) (w7.drewN k) = _ := fun k => run_lookup (w := w7.drewN k) hM7 n1 co1
        rw [lookV, find_table zs n1 co1 hpos2] at hlk
        cases hf : findCode zs n1 co1 with
        | none =>
          rw [hf] at HGO2 hlk
          simp only [Option.map_none] at hlk
          have HG := Lib.hid HGO2
          have HH := Lib.hid (hmiss2 hf)
          clear HGO2 hmiss2 hf
          go_quiet (fail)
          go_wp2
          go_roundg (16 - n1)
          case measure => exact hm3
          case rel => exact ⟨n1, co1, rfl, hn2, hco2, HH.out, HG.out, hbc7.drewN _, below_drewN hbel7 _⟩
        | some i =>
          rw [hf] at HGO2 hlk
          simp only [Option.map_some] at hlk
          have HG := Lib.hid HGO2
          clear HGO2 hmiss2 hf
          go_quiet (fail)
          go_wp2
          go_quiet (fail)
          go_wp2
          go_ret3
          have hr := HG.out
          subst hr
          exact ⟨rfl, below_drewN (below_drewN hbel7 _) _⟩
end Go.Proofs.Ytkdjljnplfempaa
