/- frame.Next: what it comes to; no condition. -/
import Derived.Test.YtjhidbadbdhcmaaFrB
namespace Go.Ev
open Go Go.Proofs Go.RowKit
set_option linter.unusedVariables false
set_option maxRecDepth 100000
theorem resNext (s : ByteArray) (m : Int) (K : Value → Prop) :
   evalK frB noHint 30 12 [.string s, vi m] AHeap.empty (fun v _ => K v)
   = (ifK (decide ((↑(ByteArray.size s) : Int) < (3 : Int))) (K (Value.tuple { toList := [Value.agg { toList := [Value.int IntKind.i64 (0 : Int), Value.int IntKind.i64 (0 : Int), Value.int IntKind.i64 (0 : Int), Value.string (⟨#[]⟩ : ByteArray)] }, Value.int IntKind.i64 (0 : Int), Value.int IntKind.i64 (40 : Int)] })) (ifK (decide ((0 : Int) ≤ (0 : Int) ∧ (0 : Int) < (↑(ByteArray.size s) : Int))) (ifK (decide ((0 : Int) ≤ (1 : Int) ∧ (1 : Int) < (↑(ByteArray.size s) : Int))) (ifK (decide ((0 : Int) ≤ (2 : Int) ∧ (2 : Int) < (↑(ByteArray.size s) : Int))) (ifK (decide (m < IntKind.wrap IntKind.i64 (↑(BitVec.toNat (BitVec.ofInt (IntKind.bits IntKind.i64) (IntKind.wrap IntKind.i64 (↑(BitVec.toNat (BitVec.ofInt (IntKind.bits IntKind.i64) (IntKind.wrap IntKind.i64 (IntKind.wrap IntKind.i64 (byteAt s (0 : Int)) * (2 : Int) ^ min (Int.toNat (16 : Int)) (IntKind.bits IntKind.i64))) ||| BitVec.ofInt (IntKind.bits IntKind.i64) (IntKind.wrap IntKind.i64 (IntKind.wrap IntKind.i64 (byteAt s (1 : Int)) * (2 : Int) ^ min (Int.toNat (8 : Int)) (IntKind.bits IntKind.i64))))) : Int)) ||| BitVec.ofInt (IntKind.bits IntKind.i64) (IntKind.wrap IntKind.i64 (byteAt s (2 : Int))))) : Int))) (K (Value.tuple { toList := [Value.agg { toList := [Value.int IntKind.i64 (0 : Int), Value.int IntKind.i64 (0 : Int), Value.int IntKind.i64 (0 : Int), Value.string (⟨#[]⟩ : ByteArray)] }, Value.int IntKind.i64 (0 : Int), Value.int IntKind.i64 (3 : Int)] })) (ifK (decide ((↑(ByteArray.size s) : Int) < IntKind.wrap IntKind.i64 ((9 : Int) + IntKind.wrap IntKind.i64 (↑(BitVec.toNat (BitVec.ofInt (IntKind.bits IntKind.i64) (IntKind.wrap IntKind.i64 (↑(BitVec.toNat (BitVec.ofInt (IntKind.bits IntKind.i64) (IntKind.wrap IntKind.i64 (IntKind.wrap IntKind.i64 (byteAt s (0 : Int)) * (2 : Int) ^ min (Int.toNat (16 : Int)) (IntKind.bits IntKind.i64))) ||| BitVec.ofInt (IntKind.bits IntKind.i64) (IntKind.wrap IntKind.i64 (IntKind.wrap IntKind.i64 (byteAt s (1 : Int)) * (2 : Int) ^ min (Int.toNat (8 : Int)) (IntKind.bits IntKind.i64))))) : Int)) ||| BitVec.ofInt (IntKind.bits IntKind.i64) (IntKind.wrap IntKind.i64 (byteAt s (2 : Int))))) : Int)))) (K (Value.tuple { toList := [Value.agg { toList := [Value.int IntKind.i64 (0 : Int), Value.int IntKind.i64 (0 : Int), Value.int IntKind.i64 (0 : Int), Value.string (⟨#[]⟩ : ByteArray)] }, Value.int IntKind.i64 (0 : Int), Value.int IntKind.i64 (40 : Int)] })) (ifK (decide ((0 : Int) ≤ (3 : Int) ∧ (3 : Int) < (↑(ByteArray.size s) : Int))) (ifK (decide ((0 : Int) ≤ (4 : Int) ∧ (4 : Int) < (↑(ByteArray.size s) : Int))) (ifK (decide ((0 : Int) ≤ (5 : Int) ∧ (5 : Int) ≤ (↑(ByteArray.size s) : Int) ∧ (↑(ByteArray.size s) : Int) ≤ (↑(ByteArray.size s) : Int))) (ifK (decide ((0 : Int) ≤ (9 : Int) ∧ (9 : Int) ≤ IntKind.wrap IntKind.i64 ((9 : Int) + IntKind.wrap IntKind.i64 (↑(BitVec.toNat (BitVec.ofInt (IntKind.bits IntKind.i64) (IntKind.wrap IntKind.i64 (↑(BitVec.toNat (BitVec.ofInt (IntKind.bits IntKind.i64) (IntKind.wrap IntKind.i64 (IntKind.wrap IntKind.i64 (byteAt s (0 : Int)) * (2 : Int) ^ min (Int.toNat (16 : Int)) (IntKind.bits IntKind.i64))) ||| BitVec.ofInt (IntKind.bits IntKind.i64) (IntKind.wrap IntKind.i64 (IntKind.wrap IntKind.i64 (byteAt s (1 : Int)) * (2 : Int) ^ min (Int.toNat (8 : Int)) (IntKind.bits IntKind.i64))))) : Int)) ||| BitVec.ofInt (IntKind.bits IntKind.i64) (IntKind.wrap IntKind.i64 (byteAt s (2 : Int))))) : Int)) ∧ IntKind.wrap IntKind.i64 ((9 : Int) + IntKind.wrap IntKind.i64 (↑(BitVec.toNat (BitVec.ofInt (IntKind.bits IntKind.i64) (IntKind.wrap IntKind.i64 (↑(BitVec.toNat (BitVec.ofInt (IntKind.bits IntKind.i64) (IntKind.wrap IntKind.i64 (IntKind.wrap IntKind.i64 (byteAt s (0 : Int)) * (2 : Int) ^ min (Int.toNat (16 : Int)) (IntKind.bits IntKind.i64))) ||| BitVec.ofInt (IntKind.bits IntKind.i64) (IntKind.wrap IntKind.i64 (IntKind.wrap IntKind.i64 (byteAt s (1 : Int)) * (2 : Int) ^ min (Int.toNat (8 : Int)) (IntKind.bits IntKind.i64))))) : Int)) ||| BitVec.ofInt (IntKind.bits IntKind.i64) (IntKind.wrap IntKind.i64 (byteAt s (2 : Int))))) : Int)) ≤ (↑(ByteArray.size s) : Int))) (ifK (decide (4 ≤ ByteArray.size (ByteArray.extract s (Int.toNat (5 : Int)) (Int.toNat (↑(ByteArray.size s) : Int))))) (ifK (decide (ByteArray.size (ByteArray.extract s (Int.toNat (9 : Int)) (Int.toNat (IntKind.wrap IntKind.i64 ((9 : Int) + IntKind.wrap IntKind.i64 (↑(BitVec.toNat (BitVec.ofInt (IntKind.bits IntKind.i64) (IntKind.wrap IntKind.i64 (↑(BitVec.toNat (BitVec.ofInt (IntKind.bits IntKind.i64) (IntKind.wrap IntKind.i64 (IntKind.wrap IntKind.i64 (byteAt s (0 : Int)) * (2 : Int) ^ min (Int.toNat (16 : Int)) (IntKind.bits IntKind.i64))) ||| BitVec.ofInt (IntKind.bits IntKind.i64) (IntKind.wrap IntKind.i64 (IntKind.wrap IntKind.i64 (byteAt s (1 : Int)) * (2 : Int) ^ min (Int.toNat (8 : Int)) (IntKind.bits IntKind.i64))))) : Int)) ||| BitVec.ofInt (IntKind.bits IntKind.i64) (IntKind.wrap IntKind.i64 (byteAt s (2 : Int))))) : Int))))) ≤ 281474976710656)) (K (Value.tuple { toList := [Value.agg { toList := [Value.int IntKind.i64 (IntKind.wrap IntKind.i64 (byteAt s (3 : Int))), Value.int IntKind.i64 (IntKind.wrap IntKind.i64 (byteAt s (4 : Int))), Value.int IntKind.i64 (IntKind.wrap IntKind.i64 (↑(BitVec.toNat (BitVec.ofInt (IntKind.bits IntKind.i64) (big4 (ByteArray.extract s (Int.toNat (5 : Int)) (Int.toNat (↑(ByteArray.size s) : Int)))) &&& ~~~BitVec.ofInt (IntKind.bits IntKind.i64) (2147483648 : Int))) : Int)), Value.string (ByteArray.extract s (Int.toNat (9 : Int)) (Int.toNat (IntKind.wrap IntKind.i64 ((9 : Int) + IntKind.wrap IntKind.i64 (↑(BitVec.toNat (BitVec.ofInt (IntKind.bits IntKind.i64) (IntKind.wrap IntKind.i64 (↑(BitVec.toNat (BitVec.ofInt (IntKind.bits IntKind.i64) (IntKind.wrap IntKind.i64 (IntKind.wrap IntKind.i64 (byteAt s (0 : Int)) * (2 : Int) ^ min (Int.toNat (16 : Int)) (IntKind.bits IntKind.i64))) ||| BitVec.ofInt (IntKind.bits IntKind.i64) (IntKind.wrap IntKind.i64 (IntKind.wrap IntKind.i64 (byteAt s (1 : Int)) * (2 : Int) ^ min (Int.toNat (8 : Int)) (IntKind.bits IntKind.i64))))) : Int)) ||| BitVec.ofInt (IntKind.bits IntKind.i64) (IntKind.wrap IntKind.i64 (byteAt s (2 : Int))))) : Int)))))] }, Value.int IntKind.i64 (IntKind.wrap IntKind.i64 ((9 : Int) + IntKind.wrap IntKind.i64 (↑(BitVec.toNat (BitVec.ofInt (IntKind.bits IntKind.i64) (IntKind.wrap IntKind.i64 (↑(BitVec.toNat (BitVec.ofInt (IntKind.bits IntKind.i64) (IntKind.wrap IntKind.i64 (IntKind.wrap IntKind.i64 (byteAt s (0 : Int)) * (2 : Int) ^ min (Int.toNat (16 : Int)) (IntKind.bits IntKind.i64))) ||| BitVec.ofInt (IntKind.bits IntKind.i64) (IntKind.wrap IntKind.i64 (IntKind.wrap IntKind.i64 (byteAt s (1 : Int)) * (2 : Int) ^ min (Int.toNat (8 : Int)) (IntKind.bits IntKind.i64))))) : Int)) ||| BitVec.ofInt (IntKind.bits IntKind.i64) (IntKind.wrap IntKind.i64 (byteAt s (2 : Int))))) : Int))), Value.int IntKind.i64 (0 : Int)] })) False) False) False) False) False) False))) False) False) False)) := by kernel_rfl
theorem resWrites (k fl st : Int) (s : ByteArray) (K : Value → Prop) :
   evalK frB noHint 30 7 [.agg #[vi k, vi fl, vi st, .string s]] AHeap.empty (fun v _ => K v)
   = (ifK (seq (wrB k fl st s) (wrB k fl st s)) (ifK (decide (wrE k fl st s = wrE k fl st s)) (K (Value.bool true)) (K (Value.bool false))) (K (Value.bool false))) := by kernel_rfl
theorem writes (k fl st : Int) (s : ByteArray) : Evals frB noHint 30 7 [.agg #[vi k, vi fl, vi st, .string s]] := by
  constructor
  rw [resWrites k fl st s (fun v => v = .bool true)]
  generalize wrB k fl st s = X
  generalize wrE k fl st s = Y
  rw [seq_self, decide_eq_true (rfl : Y = Y)]
  exact rfl
theorem big3_expr (s : ByteArray) : IntKind.wrap IntKind.i64 (↑(BitVec.toNat (BitVec.ofInt (IntKind.bits IntKind.i64) (IntKind.wrap IntKind.i64 (↑(BitVec.toNat (BitVec.ofInt (IntKind.bits IntKind.i64) (IntKind.wrap IntKind.i64 (IntKind.wrap IntKind.i64 (byteAt s (0 : Int)) * (2 : Int) ^ min (Int.toNat (16 : Int)) (IntKind.bits IntKind.i64))) ||| BitVec.ofInt (IntKind.bits IntKind.i64) (IntKind.wrap IntKind.i64 (IntKind.wrap IntKind.i64 (byteAt s (1 : Int)) * (2 : Int) ^ min (Int.toNat (8 : Int)) (IntKind.bits IntKind.i64))))) : Int)) ||| BitVec.ofInt (IntKind.bits IntKind.i64) (IntKind.wrap IntKind.i64 (byteAt s (2 : Int))))) : Int) = big3 s := by
  have h0 := byteAt_bd s 0; have h1 := byteAt_bd s 1; have h2 := byteAt_bd s 2
  simp only [p16, p8, wr_byte]
  rw [wr_small (x := byteAt s 0 * 65536) (by omega) (by omega), wr_small (x := byteAt s 1 * 256) (by omega) (by omega)]
  rw [or_add (x := byteAt s 0 * 65536) (y := byteAt s 1 * 256) 16 (by omega) (byteAt s 0) (by omega) (by omega) (by omega) (by omega) (by omega)]
  rw [or_add (x := byteAt s 0 * 65536 + byteAt s 1 * 256) (y := byteAt s 2) 8 (by omega) (byteAt s 0 * 256 + byteAt s 1) (by omega) (by omega) (by omega) (by omega) (by omega)]
  rfl
theorem tn (n : Nat) : Int.toNat (n : Int) = n := Int.toNat_natCast n
abbrev NxOk (s : ByteArray) (m : Int) : Prop := 3 ≤ s.size ∧ big3 s ≤ m ∧ 9 + big3 s ≤ s.size
def nxE (s : ByteArray) (m : Int) : Int := if s.size < 3 then 40 else if m < big3 s then 3 else if (s.size : Int) < 9 + big3 s then 40 else 0
def nxN (s : ByteArray) (m : Int) : Int := if NxOk s m then 9 + big3 s else 0
def nxK (s : ByteArray) (m : Int) : Int := if NxOk s m then byteAt s 3 else 0
def nxF (s : ByteArray) (m : Int) : Int := if NxOk s m then byteAt s 4 else 0
def nxS (s : ByteArray) (m : Int) : Int := if NxOk s m then big4 (s.extract 5 s.size) % 2147483648 else 0
def nxP (s : ByteArray) (m : Int) : ByteArray := if NxOk s m then s.extract 9 (9 + big3 s).toNat else ⟨#[]⟩
def nxG : List Value → Option (Bool × Value)
  | [.string s, .int .i64 m] => some (true, .tuple #[.agg #[vi (nxK s m), vi (nxF s m), vi (nxS s m), .string (nxP s m)], vi (nxN s m), vi (nxE s m)])
  | _ => none
set_option maxHeartbeats 4000000
theorem nx_ok : SumOk frB.P 12 (pureS nxG) := by
  refine sumOk_evalK fbT fbF fbS fbM noHint 30 Try.func12 (by kernel_rfl) (by decide) fun args v hg => ?_
  unfold nxG at hg
  split at hg
  case h_2 => cases hg
  rename_i s m
  simp only [Option.some.injEq, Prod.mk.injEq, true_and] at hg
  subst hg
  refine ⟨rfl, rfl, ?_⟩
  refine (resNext s m _).mpr ?_
  have hb := big3_bd s
  have hw : IntKind.wrap IntKind.i64 (9 + big3 s) = 9 + big3 s := wr_small (by omega) (by omega)
  by_cases h3 : s.size < 3
  · have hn : ¬ NxOk s m := by rintro ⟨h, _⟩; omega
    simp only [nxK, nxF, nxS, nxP, nxN, nxE, if_neg hn, if_pos h3]
    rw [decide_eq_true (show (s.size : Int) < 3 by omega)]
    first | exact rfl | exact trivial
  simp only [big3_expr, tn]
  simp only [hw, wr_byte]
  refine ifK_dec (fun h => by omega) (fun _ => ?_)
  refine ifK_dec (fun _ => ?_) (fun h => by omega)
  refine ifK_dec (fun _ => ?_) (fun h => by omega)
  refine ifK_dec (fun _ => ?_) (fun h => by omega)
  by_cases hm : m < big3 s
  · have hn : ¬ NxOk s m := by rintro ⟨_, h, _⟩; omega
    simp only [nxK, nxF, nxS, nxP, nxN, nxE, if_neg hn, if_neg h3, if_pos hm]
    rw [decide_eq_true hm]
    first | exact rfl | exact trivial
  rw [decide_eq_false hm]
  by_cases h9 : (s.size : Int) < 9 + big3 s
  · have hn : ¬ NxOk s m := by rintro ⟨_, _, h⟩; omega
    simp only [nxK, nxF, nxS, nxP, nxN, nxE, if_neg hn, if_neg h3, if_neg hm, if_pos h9]
    rw [decide_eq_true h9]
    first | exact rfl | exact trivial
  rw [decide_eq_false h9]
  have hn : NxOk s m := ⟨by omega, by omega, by omega⟩
  have hb4 := big4_bd (s.extract 5 s.size)
  have e5 : s.extract (Int.toNat 5) s.size = s.extract 5 s.size := rfl
  have e9 : s.extract (Int.toNat 9) (Int.toNat (9 + big3 s)) = s.extract 9 (9 + big3 s).toNat := rfl
  have hs5 : (s.extract 5 s.size).size = s.size - 5 := extract_size s (Nat.le_refl _)
  have hs9 : (s.extract 9 (9 + big3 s).toNat).size = (9 + big3 s).toNat - 9 := extract_size s (by omega)
  simp only [nxK, nxF, nxS, nxP, nxN, nxE, if_pos hn, if_neg h3, if_neg hm, if_neg h9, e5, e9, hs5, hs9, andNot_top hb4.1 hb4.2]
  refine ifK_dec (fun _ => ?_) (fun h => by omega)
  refine ifK_dec (fun _ => ?_) (fun h => by omega)
  refine ifK_dec (fun _ => ?_) (fun h => by omega)
  refine ifK_dec (fun _ => ?_) (fun h => by omega)
  refine ifK_dec (fun _ => ?_) (fun h => by omega)
  refine ifK_dec (fun _ => ?_) (fun h => by omega)
  first | exact rfl | trivial
end Go.Ev
