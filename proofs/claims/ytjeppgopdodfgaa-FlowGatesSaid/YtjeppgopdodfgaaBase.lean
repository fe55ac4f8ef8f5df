/- The program's types, the orders of its drawn regions: what the evaluator asks of a program is so. -/
import Derived.Test.YtjeppgopdodfgaaEvZ
import Derived.Test.YtjeppgopdodfgaaProg
namespace Go.Ev
open Go Go.Proofs
def flowPlans : Plans := [(4, [(20, [(0, []), (2, []), (3, []), (4, []), (5, []), (1, [5]), (6, [])])]), (6, [(21, [(0, []), (1, []), (2, []), (3, []), (4, []), (6, []), (7, []), (8, []), (9, []), (5, [9]), (10, []), (11, [])])]), (17, [(3, [(0, []), (1, []), (2, []), (3, []), (4, []), (5, []), (6, []), (7, []), (8, [])])]), (19, [(3, [(0, []), (1, []), (2, []), (3, []), (4, []), (5, []), (6, []), (7, []), (8, [])])]), (21, [(1, [(0, []), (1, []), (2, []), (3, []), (4, []), (5, []), (6, []), (7, []), (8, []), (9, []), (10, []), (11, []), (12, []), (13, [])])])]
noncomputable def flowE : Env := mkEnv Try.prog flowPlans fun _ => none
set_option maxRecDepth 100000
theorem flowT : flowE.TOk := tOk_of (by kernel_rfl)
theorem flowF : flowE.FOk flowE.ok := fOk_of (by kernel_rfl)
theorem flowS : flowE.SOk := sOk_none
theorem flowM : flowE.P.follows .mixedOrders = true := by kernel_rfl
end Go.Ev
