/- The program with what is known of its functions: the examples. -/
import Derived.Test.YtjeppgopdodfgaaFlBase
namespace Go.Ev
open Go Go.Proofs Go.RowKit
set_option maxRecDepth 100000
theorem flAw : SumOk flE.P 14 (pureS awG) := sumOk_true flT flF flS flM (k := 100) Try.func14 (by kernel_rfl) (by decide) (by kernel_rfl)
noncomputable def flSumms : List (Nat × Summ) := [(14, pureS awG)]
theorem flSO : SumsOk Try.prog flSumms := ⟨flAw, trivial⟩
noncomputable def flA : Env := mkEnv Try.prog flPlans flExts fun f => look f flSumms
theorem laT : flA.TOk := tOk_of (by kernel_rfl) flX
theorem laF : flA.FOk flA.ok := fOk_of (by kernel_rfl)
theorem laS : flA.SOk := sOk_of flSO
theorem laM : flA.P.follows .mixedOrders = true := by kernel_rfl
abbrev vi (x : Int) : Value := .int .i64 x
abbrev sl (n : Nat) : Value := .slice (some ⟨0, 0, none⟩) n n
abbrev pt (b : Nat) : Value := .pointer (some ⟨b, 0, none⟩)
end Go.Ev
