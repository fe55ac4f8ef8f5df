/- The program's types, the orders of its drawn regions, what its library functions come to: what the evaluator asks of a program is so. -/
import Derived.Test.YtjeppgopdodfgaaEvSf
import Derived.Test.YtjeppgopdodfgaaProg
namespace Go.Ev
open Go Go.Proofs
set_option maxRecDepth 100000
def flPlans : Plans := [(4, [(20, [(0, []), (2, []), (3, []), (4, []), (5, []), (1, [5]), (6, [])])]), (6, [(21, [(0, []), (1, []), (2, []), (3, []), (4, []), (6, []), (7, []), (8, []), (9, []), (5, [9]), (10, []), (11, [])])]), (17, [(3, [(0, []), (1, []), (2, []), (3, []), (4, []), (5, []), (6, []), (7, []), (8, [])])]), (19, [(3, [(0, []), (1, []), (2, []), (3, []), (4, []), (5, []), (6, []), (7, []), (8, [])])]), (21, [(1, [(0, []), (1, []), (2, []), (3, []), (4, []), (5, []), (6, []), (7, []), (8, []), (9, []), (10, []), (11, []), (12, []), (13, [])])])]
def flExts : Exts := []
theorem flX : ExtsOk Try.prog flExts := trivial

noncomputable def flE : Env := mkEnv Try.prog flPlans flExts fun _ => none
theorem flT : flE.TOk := tOk_of (by kernel_rfl) flX
theorem flF : flE.FOk flE.ok := fOk_of (by kernel_rfl)
theorem flS : flE.SOk := sOk_none
theorem flM : flE.P.follows .mixedOrders = true := by kernel_rfl
end Go.Ev
