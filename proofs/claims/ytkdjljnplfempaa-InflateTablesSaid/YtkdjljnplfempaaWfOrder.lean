/- The order of the nineteen lengths. -/
import Derived.Test.YtkdjljnplfempaaWfRead
import Derived.Test.YtkdjljnplfempaaWfInf
import Derived.Test.YtkdjljnplfempaaWfStored
import Derived.Deep.LoopGhost
import Derived.StillTailTactics
import Derived.Deep.RegionHeld3
import Derived.Test.YtkdjljnplfempaaWfHuffP
import Derived.WalkKit
import Derived.WalkLawsBesides
import Derived.Lib.Hide
import Derived.Deep.QuietTactic
import Derived.BigQuiet
import Derived.Handy
set_option linter.unusedVariables false
set_option linter.unusedSimpArgs false
set_option linter.unusedSectionVars false
namespace Go.Proofs.Ytkdjljnplfempaa
open Go.RowKit Wf

def ordV : Array Value := #[.int .i64 16, .int .i64 17, .int .i64 18, .int .i64 0, .int .i64 8, .int .i64 7, .int .i64 9, .int .i64 6, .int .i64 10, .int .i64 5, .int .i64 11, .int .i64 4, .int .i64 12, .int .i64 3, .int .i64 13, .int .i64 2, .int .i64 14, .int .i64 1, .int .i64 15]

/-- Place i of the order. -/
def ordAt (i : Nat) : Nat := orderL.getD i 0

theorem ordV_get : ∀ k, k < 19 → ordV[k]? = some (.int .i64 ((ordAt k : Nat) : Int)) := by
  intro k hk
  match k, hk with
  | 0, _ => rfl | 1, _ => rfl | 2, _ => rfl | 3, _ => rfl | 4, _ => rfl | 5, _ => rfl | 6, _ => rfl | 7, _ => rfl | 8, _ => rfl | 9, _ => rfl
  | 10, _ => rfl | 11, _ => rfl | 12, _ => rfl | 13, _ => rfl | 14, _ => rfl | 15, _ => rfl | 16, _ => rfl | 17, _ => rfl | 18, _ => rfl
  | n + 19, h => omega

theorem run_ord (w : World) (k : Nat) (hk : k < 19) : (Instr.index 110 (.agg ordV) (.int .i64 k)).run Try.prog w = .ok (.int .i64 ((ordAt k : Nat) : Int)) w := by
  have h := ordV_get k hk
  have h0 : 0 ≤ (k : Int) := by omega
  have h1 : (k : Int) < 19 := by omega
  simp only [Instr.index, Sem.run_bind, run_underlying Try.underlying110, Result.andThen_ok]
  go_simp

theorem run_storeFresh {P : Program} {w : World} {ty t : TypeId} {cs zs : Array Value} (hsz : (P.info? ty).map (·.size) = some cs.size) (hzs : zs.size = cs.size) (h1 : ∀ u ∈ cs.toList, u.oneCell' = true) :
    (Instr.storeAt ty (.pointer (some ⟨w.heap.size, 0, none⟩)) (.agg cs)).run P (w.alloc (.cells zs t)) = .ok () (w.alloc (.cells cs t)) := by
  have hst := run_storeCells_at (P := P) w.heap.size 0 t cs.toList 0 zs (w.alloc (.cells zs t)) (heap_alloc_new w _) (by simp [hzs]) h1
  have he : (w.alloc (.cells zs t)).setRow w.heap.size cs = w.alloc (.cells cs t) := by
    unfold World.setRow World.alloc
    congr 1
    apply Array.ext_getElem?
    intro k
    rw [Array.getElem?_modify]
    by_cases hk : w.heap.size = k
    · subst hk; simp
    · simp [hk, Array.getElem?_push, Ne.symm hk]
  have e2 : (zs.toList.take (0 + 0) ++ cs.toList ++ zs.toList.drop (0 + 0 + cs.toList.length)).toArray = cs := by
    rw [List.drop_of_length_le (by simp [hzs])]; simp
  rw [e2, he] at hst
  obtain ⟨i, hi, hs⟩ := Option.map_eq_some_iff.1 hsz
  have hsa : ∀ w' : World, (Instr.sureAddr (.pointer (some ⟨w.heap.size, 0, none⟩))).run P w' = .ok ⟨w.heap.size, 0, none⟩ w' := fun _ => rfl
  have hso : ∀ w' : World, (sizeOf ty).run P w' = .ok cs.size w' := fun w' => by simp [sizeOf, typeInfo, hi, hs]
  simp only [Instr.storeAt, storeVar, Sem.run_bind, hsa, Result.andThen_ok, hso, Value.cells, ne_eq, not_true_eq_false, if_false]
  exact hst

theorem wpList_storeFresh {P : Program} {ops : Array Oper} {rest : List Oper} {o : Oper} {a : Act} {Q : Exit → Act → World → Prop} {w : World} (hgd : o.guard = none) (ty t : TypeId) (x v : Operand) (ho : o.op = .store ty x v) {cs zs : Array Value}
    (hsz : (P.info? ty).map (·.size) = some cs.size) (hzs : zs.size = cs.size) (h1 : ∀ u ∈ cs.toList, u.oneCell' = true)
    (hx : a.eval x = .pointer (some ⟨w.heap.size, 0, none⟩)) (hv : a.eval v = .agg cs)
    (h : wpList P ops Q rest (a.put o.dst undef) (w.alloc (.cells cs t))) : wpList P ops Q (o :: rest) a (w.alloc (.cells zs t)) := by
  refine wpList_plain hgd fun K hK => ?_
  unfold Oper.wp
  simp [execOp, ho, hx, hv, run_storeFresh hsz hzs h1, Result.andThen]
  exact hK _ _ h

theorem ordSize : (Try.prog.info? 110).map (·.size) = some ordV.size := by kernel_rfl
theorem ordOne : ∀ u ∈ ordV.toList, u.oneCell' = true := by
  intro u hu
  simp [ordV] at hu
  rcases hu with h | h | h | h | h | h | h | h | h | h | h | h | h | h | h | h | h | h | h <;> subst h <;> rfl

set_option maxHeartbeats 800000 in
set_option maxRecDepth 100000 in
theorem order_calls (w : World) : Calls Try.prog 88 #[] w fun e w' => e = .returned (.agg ordV) ∧ w' = w.alloc (.cells ordV 110) := by
  have hb : ∀ (w : World), (Instr.build 110 #[(0, .int .i64 16), (1, .int .i64 17), (2, .int .i64 18), (3, .int .i64 0), (4, .int .i64 8), (5, .int .i64 7), (6, .int .i64 9), (7, .int .i64 6), (8, .int .i64 10), (9, .int .i64 5), (10, .int .i64 11), (11, .int .i64 4), (12, .int .i64 12), (13, .int .i64 3), (14, .int .i64 13), (15, .int .i64 2), (16, .int .i64 14), (17, .int .i64 1), (18, .int .i64 15)]).run Try.prog w = .ok (.agg ordV) w := fun _ => by kernel_rfl
  go_enter Try.func88, Try.ntmps88
  go_wp2_with (refine wpList_storeFresh (w := w) rfl 110 110 (.tmp 0) (.tmp 1) rfl (cs := ordV) ordSize rfl ordOne rfl rfl ?_)
  exact bodyPost_ret (v := .agg ordV) (results_cell_row rfl _ _ w.heap.size 110 ordV (0, 0) _ rfl (heap_alloc_new w _) Try.underlying110 rfl ordSize) rfl ⟨rfl, rfl⟩
end Go.Proofs.Ytkdjljnplfempaa
