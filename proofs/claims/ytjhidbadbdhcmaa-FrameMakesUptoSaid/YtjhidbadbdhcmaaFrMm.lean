/- The document's number as bytes, and whether it fits; no condition. -/
import Derived.Test.YtjhidbadbdhcmaaFrMh
import Derived.Test.YtjhidbadbdhcmaaFrMj
namespace Go.Ev
open Go Go.Proofs Go.RowKit
set_option linter.unusedVariables false
set_option maxRecDepth 100000
set_option maxHeartbeats 4000000
theorem resFi2 (n : Int) (K : Value → Prop) :
   evalK frB (fun _ _ => none) 30 51 [vi n, vi 2] AHeap.empty (fun v _ => K v)
   = (ifK (decide ((0 : Int) ≤ n)) (ifK (decide (n < IntKind.wrap IntKind.i64 ((256 : Int) * IntKind.wrap IntKind.i64 ((256 : Int) * (1 : Int))))) (K (Value.bool true)) (K (Value.bool false))) (K (Value.bool false))) := by kernel_rfl
theorem resFi4 (n : Int) (K : Value → Prop) :
   evalK frB (fun _ _ => none) 30 51 [vi n, vi 4] AHeap.empty (fun v _ => K v)
   = (ifK (decide ((0 : Int) ≤ n)) (ifK (decide (n < IntKind.wrap IntKind.i64 ((256 : Int) * IntKind.wrap IntKind.i64 ((256 : Int) * IntKind.wrap IntKind.i64 ((256 : Int) * IntKind.wrap IntKind.i64 ((256 : Int) * (1 : Int))))))) (K (Value.bool true)) (K (Value.bool false))) (K (Value.bool false))) := by kernel_rfl
theorem resWt1 (n : Int) (K : Value → Prop) :
   evalK frB (fun _ _ => none) 30 45 [vi n, vi 1] AHeap.empty (fun v _ => K v)
   = (K (Value.string (⟨⟨[UInt8.ofNat (Int.toNat (IntKind.wrap IntKind.u8 (Int.tmod n (256 : Int))))]⟩⟩ : ByteArray))) := by kernel_rfl
theorem resWt2 (n : Int) (K : Value → Prop) :
   evalK frB (fun _ _ => none) 30 45 [vi n, vi 2] AHeap.empty (fun v _ => K v)
   = (K (Value.string (⟨⟨[UInt8.ofNat (Int.toNat (IntKind.wrap IntKind.u8 (Int.tmod (IntKind.wrap IntKind.i64 (Int.tdiv n (256 : Int))) (256 : Int)))), UInt8.ofNat (Int.toNat (IntKind.wrap IntKind.u8 (Int.tmod n (256 : Int))))]⟩⟩ : ByteArray))) := by kernel_rfl
theorem resWt4 (n : Int) (K : Value → Prop) :
   evalK frB (fun _ _ => none) 30 45 [vi n, vi 4] AHeap.empty (fun v _ => K v)
   = (K (Value.string (⟨⟨[UInt8.ofNat (Int.toNat (IntKind.wrap IntKind.u8 (Int.tmod (IntKind.wrap IntKind.i64 (Int.tdiv (IntKind.wrap IntKind.i64 (Int.tdiv (IntKind.wrap IntKind.i64 (Int.tdiv n (256 : Int))) (256 : Int))) (256 : Int))) (256 : Int)))), UInt8.ofNat (Int.toNat (IntKind.wrap IntKind.u8 (Int.tmod (IntKind.wrap IntKind.i64 (Int.tdiv (IntKind.wrap IntKind.i64 (Int.tdiv n (256 : Int))) (256 : Int))) (256 : Int)))), UInt8.ofNat (Int.toNat (IntKind.wrap IntKind.u8 (Int.tmod (IntKind.wrap IntKind.i64 (Int.tdiv n (256 : Int))) (256 : Int)))), UInt8.ofNat (Int.toNat (IntKind.wrap IntKind.u8 (Int.tmod n (256 : Int))))]⟩⟩ : ByteArray))) := by kernel_rfl
end Go.Ev

/- The summaries of the document's number as bytes, and of whether it fits; the environment of payload. -/
namespace Go.Ev
open Go Go.Proofs Go.RowKit
set_option linter.unusedVariables false
set_option linter.unusedSimpArgs false
set_option maxRecDepth 100000
set_option maxHeartbeats 4000000
def fiS (n w : Int) : Bool := decide (0 ≤ n ∧ n < if w = 2 then 65536 else 4294967296)
def fiG : List Value → Option (Bool × Value)
  | [.int .i64 n, .int .i64 w] => some (decide (w = 2 ∨ w = 4), .bool (fiS n w))
  | _ => none
def wtS (n w : Int) : ByteArray := if w = 1 then ⟨⟨[u8i n]⟩⟩ else if w = 2 then ⟨⟨[u8i (n / 256), u8i n]⟩⟩ else four n
def wtG : List Value → Option (Bool × Value)
  | [.int .i64 n, .int .i64 w] => some (decide (0 ≤ n ∧ n < 9223372036854775808 ∧ (w = 1 ∨ w = 2 ∨ w = 4)), .string (wtS n w))
  | _ => none
theorem fit_ok : SumOk frB.P 51 (pureS fiG) := by
  refine sumOk_evalK fbT fbF fbS fbM (fun _ _ => none) 30 Try.func51 (by kernel_rfl) (by decide) fun args v hg => ?_
  unfold fiG at hg
  split at hg
  case h_2 => cases hg
  rename_i n w
  simp only [Option.some.injEq, Prod.mk.injEq] at hg
  obtain ⟨hb, rfl⟩ := hg
  replace hb := of_decide_eq_true hb
  refine ⟨rfl, rfl, ?_⟩
  have t : ∀ w : Int, ∀ b : Bool, fiS n w = b → Value.bool b = Value.bool (fiS n w) := fun w b h => by rw [h]
  rcases hb with rfl | rfl
  · rw [resFi2]
    rw [show IntKind.wrap IntKind.i64 ((256 : Int) * IntKind.wrap IntKind.i64 ((256 : Int) * (1 : Int))) = 65536 by decide]
    refine ifK_dec (fun h1 => ifK_dec (fun h2 => t 2 _ ?_) (fun h2 => t 2 _ ?_)) (fun h1 => t 2 _ ?_)
    · unfold fiS; rw [if_pos rfl, decide_eq_true_eq]; omega
    · unfold fiS; rw [if_pos rfl, decide_eq_false_iff_not]; omega
    · unfold fiS; rw [decide_eq_false_iff_not]; omega
  · rw [resFi4]
    rw [show IntKind.wrap IntKind.i64 ((256 : Int) * IntKind.wrap IntKind.i64 ((256 : Int) * IntKind.wrap IntKind.i64 ((256 : Int) * IntKind.wrap IntKind.i64 ((256 : Int) * (1 : Int))))) = 4294967296 by decide]
    refine ifK_dec (fun h1 => ifK_dec (fun h2 => t 4 _ ?_) (fun h2 => t 4 _ ?_)) (fun h1 => t 4 _ ?_)
    · unfold fiS; rw [if_neg (by decide), decide_eq_true_eq]; omega
    · unfold fiS; rw [if_neg (by decide), decide_eq_false_iff_not]; omega
    · unfold fiS; rw [decide_eq_false_iff_not]; omega
theorem wt_ok : SumOk frB.P 45 (pureS wtG) := by
  refine sumOk_evalK fbT fbF fbS fbM (fun _ _ => none) 30 Try.func45 (by kernel_rfl) (by decide) fun args v hg => ?_
  unfold wtG at hg
  split at hg
  case h_2 => cases hg
  rename_i n w
  simp only [Option.some.injEq, Prod.mk.injEq] at hg
  obtain ⟨hb, rfl⟩ := hg
  replace hb := of_decide_eq_true hb
  obtain ⟨h0, h1, hb⟩ := hb
  refine ⟨rfl, rfl, ?_⟩
  have t1 : IntKind.wrap .i64 (Int.tdiv n 256) = n / 256 := td h0 h1
  have t2 : IntKind.wrap .i64 (Int.tdiv (n / 256) 256) = n / 65536 := by rw [td (by omega) (by omega)]; omega
  have t3 : IntKind.wrap .i64 (Int.tdiv (n / 65536) 256) = n / 16777216 := by rw [td (by omega) (by omega)]; omega
  have t4 : IntKind.wrap .i64 (Int.tdiv (n / 16777216) 256) = n / 4294967296 := by rw [td (by omega) (by omega)]; omega
  rcases hb with rfl | rfl | rfl
  · rw [resWt1]
    rw [u8_wr, u8_mod h0]; rfl
  · rw [resWt2]
    rw [t1, u8_wr, u8_wr, u8_mod h0, u8_mod (by omega)]; rfl
  · rw [resWt4]
    rw [t1, t2, t3, u8_wr, u8_wr, u8_wr, u8_wr, u8_mod h0, u8_mod (by omega), u8_mod (by omega), u8_mod (by omega)]; rfl
end Go.Ev

/- The environment of payload. -/
namespace Go.Ev
open Go Go.Proofs Go.RowKit
set_option linter.unusedVariables false
set_option maxRecDepth 100000
noncomputable def fhSumms : List (Nat × BSumm) := (45, liftS (pureS wtG)) :: (51, liftS (pureS fiG)) :: fmSumms
theorem fhSO : BSumsOk Try.prog fhSumms := ⟨wt_ok.lift, fit_ok.lift, fmSO⟩
noncomputable def frH : Env := mkEnvB Try.prog frPlans frExts fun f => look f fhSumms
theorem fhT : frH.TOk := tOkB_of (by kernel_rfl) frX
theorem fhF : frH.FOk frH.ok := fOkB_of (by kernel_rfl)
theorem fhS : frH.SOk := sOkB_of fhSO
theorem fhM : frH.P.follows .mixedOrders = true := by kernel_rfl
end Go.Ev
