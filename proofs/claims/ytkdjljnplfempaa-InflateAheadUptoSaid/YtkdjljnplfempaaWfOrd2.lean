/- The order as an array literal: the three operations that lay it. -/
import Derived.Test.YtkdjljnplfempaaWfRStored
import Derived.Test.YtkdjljnplfempaaWfRefSym
import Derived.Test.YtkdjljnplfempaaWfRefLen
import Derived.Test.YtkdjljnplfempaaWfRefFixed
import Derived.WalkKit
import Derived.WalkLawsBesides
import Derived.Lib.Hide
import Derived.Deep.QuietTactic
import Derived.BigQuiet
import Derived.Deep.LoopGhost
import Derived.StillTailTactics
import Derived.Deep.RegionHeld3
import Derived.Deep.RegionWith
import Derived.Handy
import Derived.Test.YtkdjljnplfempaaWfRCoded
import Derived.Deep.DeepCutAuto
import Derived.Test.YtkdjljnplfempaaWfDynA
set_option linter.unusedVariables false
set_option linter.unusedSimpArgs false
set_option linter.unusedSectionVars false
namespace Go.Proofs.Ytkdjljnplfempaa
open Go.RowKit Wf

section
variable {ops : Array Oper} {rest : List Oper} {o : Oper} {a : Act} {Q : Exit → Act → World → Prop} {w : World}
theorem run_build_ord (w : World) : (Instr.build 110 #[(0, .int .i64 16), (1, .int .i64 17), (2, .int .i64 18), (3, .int .i64 0), (4, .int .i64 8), (5, .int .i64 7), (6, .int .i64 9), (7, .int .i64 6), (8, .int .i64 10), (9, .int .i64 5), (10, .int .i64 11), (11, .int .i64 4), (12, .int .i64 12), (13, .int .i64 3), (14, .int .i64 13), (15, .int .i64 2), (16, .int .i64 14), (17, .int .i64 1), (18, .int .i64 15)]).run Try.prog w = .ok (.agg ordV) w := by kernel_rfl
theorem wpList_build_ord (hgd : o.guard = none)
    (ho : o.op = .build 110 #[(0, .const (.int .i64 16)), (1, .const (.int .i64 17)), (2, .const (.int .i64 18)), (3, .const (.int .i64 0)), (4, .const (.int .i64 8)), (5, .const (.int .i64 7)), (6, .const (.int .i64 9)), (7, .const (.int .i64 6)), (8, .const (.int .i64 10)), (9, .const (.int .i64 5)), (10, .const (.int .i64 11)), (11, .const (.int .i64 4)), (12, .const (.int .i64 12)), (13, .const (.int .i64 3)), (14, .const (.int .i64 13)), (15, .const (.int .i64 2)), (16, .const (.int .i64 14)), (17, .const (.int .i64 1)), (18, .const (.int .i64 15))])
    (h : wpList Try.prog ops Q rest (a.put o.dst (.agg ordV)) w) : wpList Try.prog ops Q (o :: rest) a w := by
  refine wpList_plain hgd fun K hK => ?_
  unfold Oper.wp
  simp [execOp, ho, Act.eval, run_build_ord, Result.andThen]
  exact hK _ _ h
theorem run_alloc_ord (w : World) : (Instr.alloc 110 true (.tuple #[])).run Try.prog w = .ok (.pointer (some ⟨w.heap.size, 0, none⟩)) (w.alloc (.cells (zV 19) 110)) := by
  kernel_rfl
theorem wpList_alloc_ord (hgd : o.guard = none) (ho : o.op = .alloc 110) (h : wpList Try.prog ops Q rest (a.put o.dst (.pointer (some ⟨w.heap.size, 0, none⟩))) (w.alloc (.cells (zV 19) 110))) :
    wpList Try.prog ops Q (o :: rest) a w := by
  refine wpList_plain hgd fun K hK => ?_
  unfold Oper.wp
  simp [execOp, ho, run_alloc_ord, Result.andThen]
  exact hK _ _ h
theorem zOrd : (zV 19).size = ordV.size := by kernel_rfl
end
end Go.Proofs.Ytkdjljnplfempaa
