/- The program with what is known of its functions, frame.Next among them. -/
import Derived.Test.YtjhidbadbdhcmaaFrNx2
namespace Go.Ev
open Go Go.Proofs Go.RowKit
set_option maxRecDepth 100000
noncomputable def fnSumms : List (Nat × Summ) := [(24, pureS numG), (46, cloneSum), (31, pureS bigG), (14, pureS awG), (20, pureS wrG), (21, pureS wrG), (12, pureS nxG)]
theorem fnSO : SumsOk Try.prog fnSumms := ⟨num_ok, frClone, big_ok, frAw, w_ok, rw_ok, nx_ok, trivial⟩
noncomputable def frN : Env := mkEnv Try.prog frPlans frExts fun f => look f fnSumms
theorem fnT : frN.TOk := tOk_of (by kernel_rfl) frX
theorem fnF : frN.FOk frN.ok := fOk_of (by kernel_rfl)
theorem fnS : frN.SOk := sOk_of fnSO
theorem fnM : frN.P.follows .mixedOrders = true := by kernel_rfl
end Go.Ev
