/- The program's types, the orders of its drawn regions, what its library functions come to: what the evaluator asks of a program is so. -/
import Derived.Test.YtdnbmiadlficbaaEvZ
import Derived.Test.YtdnbmiadlficbaaEvSb
import Derived.Test.YtdnbmiadlficbaaLay
import Derived.Test.YtdnbmiadlficbaaProg
namespace Go.Ev
open Go Go.Proofs
set_option maxRecDepth 100000
def schedPlans : Plans := [(3, [(27, [(0, []), (1, []), (2, []), (3, []), (4, []), (5, []), (6, []), (7, []), (8, [])]), (29, [(0, []), (1, []), (2, []), (3, []), (4, []), (5, []), (6, []), (7, []), (8, []), (9, []), (10, []), (11, []), (12, []), (13, []), (14, []), (15, []), (16, []), (17, [])])]), (11, [(6, [(0, []), (1, []), (2, []), (3, []), (4, []), (5, []), (6, []), (7, []), (8, []), (9, []), (10, []), (11, []), (12, []), (13, []), (14, [])])]), (18, [(6, [(0, []), (1, []), (2, []), (3, []), (4, []), (5, []), (6, []), (7, []), (8, [])])]), (20, [(28, [(0, []), (1, []), (2, []), (3, []), (4, []), (5, []), (6, []), (7, []), (8, []), (9, []), (10, []), (11, []), (12, []), (13, []), (14, []), (15, []), (16, []), (17, []), (18, []), (19, [])])]), (23, [(5, [(0, []), (1, []), (2, []), (3, []), (4, []), (5, []), (6, []), (7, []), (8, []), (9, []), (10, []), (11, []), (12, [])])]), (27, [(11, [(0, []), (1, []), (2, []), (3, []), (4, []), (5, []), (6, []), (7, []), (8, [])]), (15, [(0, []), (1, []), (2, []), (3, []), (4, []), (5, []), (6, []), (7, []), (8, [])])]), (28, [(5, [(0, []), (1, []), (2, []), (3, []), (4, []), (5, []), (6, []), (7, [])])]), (33, [(3, [(0, []), (1, []), (2, []), (3, []), (4, []), (5, []), (6, []), (7, []), (8, []), (9, []), (10, []), (11, []), (12, []), (13, []), (14, []), (15, [])])])]
def schedExts : Exts := []
theorem schedX : ExtsOk Try.prog schedExts := trivial
noncomputable def schedSumms : List (Nat × Summ) := [(27, insSum)]
theorem schedSO : SumsOk Try.prog schedSumms := ⟨insSum_ok Try.l21 rfl Try.func27 (by kernel_rfl) (by decide), trivial⟩
noncomputable def schedE : Env := mkEnv Try.prog schedPlans schedExts fun f => look f schedSumms
theorem schedT : schedE.TOk := tOk_of (by kernel_rfl) schedX
theorem schedF : schedE.FOk schedE.ok := fOk_of (by kernel_rfl)
theorem schedS : schedE.SOk := sOk_of schedSO
theorem schedM : schedE.P.follows .mixedOrders = true := by kernel_rfl
end Go.Ev
