/- The program with what is known of its functions: numbers of bytes, strings.Clone, the examples. -/
import Derived.Test.YtjhidbadbdhcmaaFrBig
import Derived.Test.YtjhidbadbdhcmaaFrLay
namespace Go.Ev
open Go Go.Proofs Go.RowKit
set_option maxRecDepth 100000
noncomputable def frSumm0 : List (Nat × Summ) := [(46, cloneSum), (31, pureS bigG)]
theorem frClone : SumOk Try.prog 46 cloneSum := cloneSum_ok Try.l316 rfl Try.func46 (by kernel_rfl) (by decide)
theorem frSO0 : SumsOk Try.prog frSumm0 := ⟨frClone, big_ok, trivial⟩
noncomputable def frC : Env := mkEnv Try.prog frPlans frExts fun f => look f frSumm0
theorem frAw : SumOk Try.prog 14 (pureS awG) :=
  sumOk_true (E := frC) (tOk_of (by kernel_rfl) frX) (fOk_of (by kernel_rfl)) (sOk_of frSO0) (by kernel_rfl) (k := 400) Try.func14 (by kernel_rfl) (by decide) (by kernel_rfl)
noncomputable def frSumms : List (Nat × Summ) := [(24, pureS numG), (46, cloneSum), (31, pureS bigG), (14, pureS awG)]
theorem frSO : SumsOk Try.prog frSumms := ⟨num_ok, frClone, big_ok, frAw, trivial⟩
noncomputable def frA : Env := mkEnv Try.prog frPlans frExts fun f => look f frSumms
theorem faT : frA.TOk := tOk_of (by kernel_rfl) frX
theorem faF : frA.FOk frA.ok := fOk_of (by kernel_rfl)
theorem faS : frA.SOk := sOk_of frSO
theorem faM : frA.P.follows .mixedOrders = true := by kernel_rfl
end Go.Ev
