/- The law FlowPlays: a round of its loop keeps both windows alike; no condition. -/
import Derived.Test.YtjeppgopdodfgaaPlaysA
import Derived.Test.YtjeppgopdodfgaaEvO
namespace Go.Ev
open Go Go.Proofs Go.RowKit
set_option linter.unusedVariables false
set_option maxRecDepth 100000
theorem ifK_dec {p : Prop} [Decidable p] {a b : Prop} (h1 : p → a) (h2 : ¬p → b) : ifK (decide p) a b := by
  by_cases h : p
  · rw [decide_eq_true h]; exact h1 h
  · rw [decide_eq_false h]; exact h2 h
theorem ifK_self {x : Int} {a b : Prop} (h : b) : ifK (!decide (x = x)) a b := by
  rw [decide_eq_true rfl]; exact h
theorem wr64_eq (x : Int) : IntKind.i64.wrap x = (x + 9223372036854775808) % 18446744073709551616 - 9223372036854775808 := by
  have h : IntKind.i64.wrap x = if x % 18446744073709551616 ≥ 9223372036854775808 then x % 18446744073709551616 - 18446744073709551616 else x % 18446744073709551616 := by
    unfold IntKind.wrap
    simp [IntKind.bits, IntKind.signed]
  rw [h]
  split <;> omega
theorem load3 (L : List Value) (s x : Int) (o : Nat) : aload flowE 3 (.pointer (some ⟨0, o, none⟩)) (hpB L s x) = L[o]? := by kernel_rfl
theorem load5 (L : List Value) (s x : Int) (o : Nat) : aload flowE 5 (.pointer (some ⟨0, o, none⟩)) (hpB L s x) = L[o]? := by kernel_rfl

theorem step6 (i s : Int) (n : Nat) (r : Value) (L : List Value) (K : AX → Nat → List Value → AHeap → Prop) (hi : 0 ≤ i) (hs1 : -2147483647 ≤ s) (hs2 : s ≤ 2147483647)
    (hx : i < n → ∃ N w : Int, L[0 + i.toNat * 2 + 1]? = some (vi N) ∧ L[0 + i.toNat * 2 + 0]? = some (.int .u8 w))
    (hE : ¬ i < n → K (.exit 0) 88 [sl n, r, pt 1, pt 2, vi i] (hpB L s s))
    (hK : i < n → ∀ s', -2147483647 ≤ s' → s' ≤ 2147483647 → K .normal 88 [sl n, r, pt 1, pt 2, vi (wr64 (i + 1))] (hpB L s' s')) :
    codeK flowE (flowHint 6) (evalK flowE flowHint 20) (drawK flowE flowHint (evalK flowE flowHint 20) 6) 20 (ptC [true,true,true,true,true,false,true,false,false] (bodyOf Try.prog 6))
     (fillT 88 [1,4,5,7,9] [sl n, r, pt 1, pt 2, vi i]) (hpB L s s) (fun x tm H => K x tm.length (pickT [1,4,5,7,9] tm) H) := by
  rw [res6]
  refine ifK_dec (fun h0 => ?_) (fun h0 => hE h0)
  obtain ⟨N, w, hN, hw⟩ := hx h0
  replace hK := hK h0
  refine ifK_dec (fun _ => ?_) (fun h => absurd ⟨hi, h0⟩ h)
  refine ⟨N, ⟨(load3 L s s _).trans hN⟩, ?_⟩
  refine ifK_dec (fun _ => ?_) (fun h => absurd ⟨hi, h0⟩ h)
  refine ⟨w, ⟨(load5 L s s _).trans hw⟩, ?_⟩
  clear hE hN hw hx
  repeat' first
    | exact hK _ (by (try simp only [wr64, wr64_eq] at *); omega) (by (try simp only [wr64, wr64_eq] at *); omega)
    | refine ⟨rfl, rfl, ifK_self ?_⟩
    | refine ifK_dec (fun _ => ?_) (fun _ => ?_)
  all_goals (exfalso; clear hK; (try simp only [wr64, wr64_eq] at *); first | omega | (split at * <;> omega))
end Go.Ev
