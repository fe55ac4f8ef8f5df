/- The law FlowGates: a round of its loop keeps both gates alike, and the sum of what a gate holds; no condition. -/
import Derived.Test.YtjeppgopdodfgaaGatesA
import Derived.Test.YtjeppgopdodfgaaPlaysC
namespace Go.Ev
open Go Go.Proofs Go.RowKit
set_option linter.unusedVariables false
set_option maxRecDepth 100000
theorem gload3 (L : List Value) (a b c d e f g h : Int) (o : Nat) : aload flowE 3 (.pointer (some ⟨0, o, none⟩)) (hpG L a b c d e f g h) = L[o]? := by kernel_rfl
theorem gload5 (L : List Value) (a b c d e f g h : Int) (o : Nat) : aload flowE 5 (.pointer (some ⟨0, o, none⟩)) (hpG L a b c d e f g h) = L[o]? := by kernel_rfl
def GateOk (a b c d : Int) : Prop := 1 ≤ a ∧ a ≤ 2147483647 ∧ 0 ≤ b ∧ 0 ≤ c ∧ 0 ≤ d ∧ b + c + d = a
theorem step4 (i a b c d : Int) (n : Nat) (r : Value) (L : List Value) (K : AX → Nat → List Value → AHeap → Prop) (hi : 0 ≤ i) (hg : GateOk a b c d)
    (hx : i < n → ∃ N w : Int, L[0 + i.toNat * 2 + 1]? = some (vi N) ∧ L[0 + i.toNat * 2 + 0]? = some (.int .u8 w))
    (hE : ¬ i < n → K (.exit 0) 82 [sl n, r, pt 1, pt 2, vi i] (hpG L a b c d a b c d))
    (hK : i < n → ∀ a' b' c' d', GateOk a' b' c' d' → K .normal 82 [sl n, r, pt 1, pt 2, vi (wr64 (i + 1))] (hpG L a' b' c' d' a' b' c' d')) :
    codeK flowE (gateHint 4) (evalK flowE gateHint 20) (drawK flowE gateHint (evalK flowE gateHint 20) 4) 20 (ptC [true,true,true,true,true,false,true,false,false] (bodyOf Try.prog 4))
     (fillT 82 [1,4,5,7,9] [sl n, r, pt 1, pt 2, vi i]) (hpG L a b c d a b c d) (fun x tm H => K x tm.length (pickT [1,4,5,7,9] tm) H) := by
  rw [res4]
  refine ifK_dec (fun h0 => ?_) (fun h0 => hE h0)
  obtain ⟨N, w, hN, hw⟩ := hx h0
  replace hK := hK h0
  refine ifK_dec (fun _ => ?_) (fun h => absurd ⟨hi, h0⟩ h)
  refine ⟨N, ⟨(gload3 L _ _ _ _ _ _ _ _ _).trans hN⟩, ?_⟩
  refine ifK_dec (fun _ => ?_) (fun h => absurd ⟨hi, h0⟩ h)
  refine ⟨w, ⟨(gload5 L _ _ _ _ _ _ _ _ _).trans hw⟩, ?_⟩
  clear hE hN hw hx
  obtain ⟨g1, g2, g3, g4, g5, g6⟩ := hg
  repeat' first
    | exact hK _ _ _ _ (by unfold GateOk; (try simp only [wr64, wr64_eq] at *); omega)
    | refine ⟨rfl, rfl, ifK_self ?_⟩
    | refine ifK_self ?_
    | refine ifK_dec (fun _ => ?_) (fun _ => ?_)
  all_goals (exfalso; clear hK; (try simp only [wr64, wr64_eq] at *); first | omega | (split at * <;> omega))
end Go.Ev
