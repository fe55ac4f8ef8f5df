/- The program with what is known of its functions, frame.Write among them. -/
import Derived.Test.YtjhidbadbdhcmaaFrWS
namespace Go.Ev
open Go Go.Proofs Go.RowKit
set_option maxRecDepth 100000
noncomputable def fbSumms : List (Nat × Summ) := [(24, pureS numG), (46, cloneSum), (31, pureS bigG), (14, pureS awG), (20, pureS wrG), (21, pureS wrG)]
theorem fbSO : SumsOk Try.prog fbSumms := ⟨num_ok, frClone, big_ok, frAw, w_ok, rw_ok, trivial⟩
noncomputable def frB : Env := mkEnv Try.prog frPlans frExts fun f => look f fbSumms
theorem fbT : frB.TOk := tOk_of (by kernel_rfl) frX
theorem fbF : frB.FOk frB.ok := fOk_of (by kernel_rfl)
theorem fbS : frB.SOk := sOk_of fbSO
theorem fbM : frB.P.follows .mixedOrders = true := by kernel_rfl
end Go.Ev
