/- The law FrameBack: what it comes to, and that this is true; no condition but that a text is no longer than memory. -/
import Derived.Test.YtjhidbadbdhcmaaFrN
import Derived.Test.YtjhidbadbdhcmaaEvTc
namespace Go.Ev
open Go Go.Proofs Go.RowKit
set_option linter.unusedVariables false
set_option maxRecDepth 100000
theorem resBack (k fl st cut : Int) (s b : ByteArray) (K : Value → Prop) :
   evalK frN noHint 30 8 [.agg #[vi k, vi fl, vi st, .string s], .string b, vi cut] AHeap.empty (fun v _ => K v)
   = (ifK (!decide (wrE k fl st s = (0 : Int))) (ifK (seq (wrB k fl st s) (⟨#[]⟩ : ByteArray)) (ifK (decide (wrE k fl st s = (5 : Int))) (K (Value.bool true)) (ifK (decide (wrE k fl st s = (3 : Int))) (ifK (decide ((16777215 : Int) < (↑(ByteArray.size s) : Int))) (K (Value.bool true)) (K (Value.bool false))) (K (Value.bool false)))) (K (Value.bool false))) (ifK (decide (ByteArray.size (wrB k fl st s) + ByteArray.size b < 9223372036854775808)) (ifK (!decide (nxE (wrB k fl st s ++ b) (↑(ByteArray.size s) : Int) = (0 : Int))) (K (Value.bool false)) (ifK (!(decide (nxK (wrB k fl st s ++ b) (↑(ByteArray.size s) : Int) = k) && (decide (nxF (wrB k fl st s ++ b) (↑(ByteArray.size s) : Int) = fl) && (decide (nxS (wrB k fl st s ++ b) (↑(ByteArray.size s) : Int) = st) && (seq (nxP (wrB k fl st s ++ b) (↑(ByteArray.size s) : Int)) s && true))))) (K (Value.bool false)) (ifK (!decide (nxN (wrB k fl st s ++ b) (↑(ByteArray.size s) : Int) = (↑(ByteArray.size (wrB k fl st s)) : Int))) (K (Value.bool false)) (ifK (!decide ((↑(ByteArray.size (wrB k fl st s)) : Int) = IntKind.wrap IntKind.i64 ((9 : Int) + (↑(ByteArray.size s) : Int)))) (K (Value.bool false)) (ifK (decide ((0 : Int) ≤ (0 : Int) ∧ ((0 : Int) ≤ if IntKind.wrap IntKind.i64 ((↑(ByteArray.size (wrB k fl st s)) : Int) - (1 : Int)) < if (0 : Int) > cut then (0 : Int) else cut then IntKind.wrap IntKind.i64 ((↑(ByteArray.size (wrB k fl st s)) : Int) - (1 : Int)) else if (0 : Int) > cut then (0 : Int) else cut) ∧ (if IntKind.wrap IntKind.i64 ((↑(ByteArray.size (wrB k fl st s)) : Int) - (1 : Int)) < if (0 : Int) > cut then (0 : Int) else cut then IntKind.wrap IntKind.i64 ((↑(ByteArray.size (wrB k fl st s)) : Int) - (1 : Int)) else if (0 : Int) > cut then (0 : Int) else cut) ≤ (↑(ByteArray.size (wrB k fl st s)) : Int))) (IntKind.i64 = IntKind.i64 ∧ (↑(ByteArray.size s) : Int) = (↑(ByteArray.size s) : Int) ∧ s = s ∧ IntKind.i64 = IntKind.i64 ∧ (↑(ByteArray.size (wrB k fl st s)) : Int) = (↑(ByteArray.size (wrB k fl st s)) : Int) ∧ (⟨0, none, true⟩ : ET) = (⟨0, none, true⟩ : ET) ∧ IntKind.i64 = IntKind.i64 ∧ (0 : Int) = (0 : Int) ∧ IntKind.i64 = IntKind.i64 ∧ (0 : Int) = (0 : Int) ∧ IntKind.i64 = IntKind.i64 ∧ (0 : Int) = (0 : Int) ∧ (⟨#[]⟩ : ByteArray) = (⟨#[]⟩ : ByteArray) ∧ ifK (decide (nxE (ByteArray.extract (wrB k fl st s) (Int.toNat (0 : Int)) (Int.toNat (if IntKind.wrap IntKind.i64 ((↑(ByteArray.size (wrB k fl st s)) : Int) - (1 : Int)) < if (0 : Int) > cut then (0 : Int) else cut then IntKind.wrap IntKind.i64 ((↑(ByteArray.size (wrB k fl st s)) : Int) - (1 : Int)) else if (0 : Int) > cut then (0 : Int) else cut))) (↑(ByteArray.size s) : Int) = (40 : Int))) (ifK (decide (nxE (wrB k fl st s) (IntKind.wrap IntKind.i64 ((↑(ByteArray.size s) : Int) - (1 : Int))) = (3 : Int))) (K (Value.bool true)) (K (Value.bool false))) (K (Value.bool false))) False))))) False)) := by kernel_rfl
theorem big3_extract {s : ByteArray} {h : Nat} (h3 : 3 ≤ h) (hs : h ≤ s.size) : big3 (s.extract 0 h) = big3 s := by
  unfold big3
  rw [byteAt_extract (by omega) (by simp; omega) hs, byteAt_extract (by omega) (by simp; omega) hs, byteAt_extract (by omega) (by simp; omega) hs]
  simp
theorem u8i_nat (x : Int) : ((u8i x).toNat : Int) = x % 256 := by
  unfold u8i
  rw [UInt8.toNat_ofNat']
  omega
/-- The nine bytes ahead of whatever is behind. -/
theorem head_bytes (k fl st n : Int) (t : ByteArray) (s : List UInt8) (h : t.data.toList = head9 k fl st n ++ s) :
    byteAt t 0 = n / 65536 % 256 ∧ byteAt t 1 = n / 256 % 256 ∧ byteAt t 2 = n % 256 ∧ byteAt t 3 = k % 256 ∧ byteAt t 4 = fl % 256 ∧ byteAt t 5 = st / 16777216 % 256 ∧ byteAt t 6 = st / 65536 % 256 ∧ byteAt t 7 = st / 256 % 256 ∧ byteAt t 8 = st % 256 := by
  refine ⟨?_, ?_, ?_, ?_, ?_, ?_, ?_, ?_, ?_⟩
  · exact (byteAt_of (i := 0) (by rw [h]; rfl)).trans (u8i_nat _)
  · exact (byteAt_of (i := 1) (by rw [h]; rfl)).trans (u8i_nat _)
  · exact (byteAt_of (i := 2) (by rw [h]; rfl)).trans (u8i_nat _)
  · exact (byteAt_of (i := 3) (by rw [h]; rfl)).trans (u8i_nat _)
  · exact (byteAt_of (i := 4) (by rw [h]; rfl)).trans (u8i_nat _)
  · exact (byteAt_of (i := 5) (by rw [h]; rfl)).trans (u8i_nat _)
  · exact (byteAt_of (i := 6) (by rw [h]; rfl)).trans (u8i_nat _)
  · exact (byteAt_of (i := 7) (by rw [h]; rfl)).trans (u8i_nat _)
  · exact (byteAt_of (i := 8) (by rw [h]; rfl)).trans (u8i_nat _)
theorem head_len (k fl st n : Int) : (head9 k fl st n).length = 9 := rfl
/-- What frame.Next finds in a frame that was written. -/
theorem next_head {k fl st n : Int} {t : ByteArray} {s : List UInt8} (hok : FrOk k fl st) (hn : 0 ≤ n ∧ n ≤ 16777215) (h : t.data.toList = head9 k fl st n ++ s) :
    big3 t = n ∧ byteAt t 3 = k ∧ byteAt t 4 = fl ∧ big4 (t.extract 5 t.size) % 2147483648 = st ∧ t.size = 9 + s.length := by
  obtain ⟨a0, a1, a2, a3, a4, a5, a6, a7, a8⟩ := head_bytes k fl st n t s h
  have hs : t.size = 9 + s.length := by
    have := congrArg List.length h
    rw [ba_len, List.length_append, head_len] at this
    exact this
  obtain ⟨o1, o2, o3, o4, o5, o6⟩ := hok
  refine ⟨?_, by omega, by omega, ?_, hs⟩
  · unfold big3; omega
  · have e : big4 (t.extract 5 t.size) = byteAt t 5 * 16777216 + byteAt t 6 * 65536 + byteAt t 7 * 256 + byteAt t 8 := by
      unfold big4
      rw [byteAt_extract (by omega) (by simp; omega) (Nat.le_refl _), byteAt_extract (by omega) (by simp; omega) (Nat.le_refl _), byteAt_extract (by omega) (by simp; omega) (Nat.le_refl _), byteAt_extract (by omega) (by simp; omega) (Nat.le_refl _)]
      rfl
    rw [e]
    omega
theorem back (k fl st cut : Int) (s b : ByteArray) (hb : b.size ≤ 140737488355327) : Evals frN noHint 30 8 [.agg #[vi k, vi fl, vi st, .string s], .string b, vi cut] := by
  constructor
  rw [resBack k fl st cut s b (fun v => v = .bool true)]
  by_cases hok : FrOk k fl st
  case neg =>
    have e1 : wrE k fl st s = 5 := by unfold wrE; rw [if_neg hok]
    have e2 : wrB k fl st s = ⟨#[]⟩ := by unfold wrB; rw [if_neg hok]
    rw [e1, e2]
    exact rfl
  by_cases hl : 16777215 < s.size
  · have e1 : wrE k fl st s = 3 := by unfold wrE; rw [if_pos hok, if_pos hl]
    have e2 : wrB k fl st s = ⟨#[]⟩ := by unfold wrB; rw [if_pos hok, if_pos hl]
    rw [e1, e2, decide_eq_true (show (16777215 : Int) < (s.size : Int) by omega)]
    exact rfl
  have e1 : wrE k fl st s = 0 := by unfold wrE; rw [if_pos hok, if_neg hl]
  have e2 : wrB k fl st s = ⟨⟨head9 k fl st s.size⟩⟩ ++ s := by unfold wrB; rw [if_pos hok, if_neg hl]
  have hT : (wrB k fl st s).data.toList = head9 k fl st s.size ++ s.data.toList := by rw [e2, ba_list]
  have hX : (wrB k fl st s ++ b).data.toList = head9 k fl st s.size ++ (s.data.toList ++ b.data.toList) := by rw [ba_list2, hT, List.append_assoc]
  rw [e1]
  generalize wrB k fl st s = T at *
  obtain ⟨t1, t2, t3, t4, t5⟩ := next_head hok ⟨by omega, by omega⟩ hT
  obtain ⟨x1, x2, x3, x4, x5⟩ := next_head hok ⟨by omega, by omega⟩ hX
  rw [ba_len] at t5
  rw [List.length_append, ba_len, ba_len] at x5
  have hP : (T ++ b).extract 9 (9 + big3 (T ++ b)).toNat = s := by
    apply ba_ext
    rw [ByteArray.data_extract, Array.toList_extract, List.extract_eq_take_drop, hX, x1]
    rw [List.drop_left' (head_len _ _ _ _)]
    have : (9 + (s.size : Int)).toNat - 9 = s.size := by omega
    rw [this, List.take_left' (ba_len s)]
  have hnx : NxOk (T ++ b) s.size := ⟨by omega, by omega, by omega⟩
  have n1 : nxE (T ++ b) s.size = 0 := by unfold nxE; rw [if_neg (by omega), if_neg (by omega), if_neg (by omega)]
  have n2 : nxN (T ++ b) s.size = 9 + s.size := by unfold nxN; rw [if_pos hnx, x1]
  have n3 : nxK (T ++ b) s.size = k := by unfold nxK; rw [if_pos hnx, x2]
  have n4 : nxF (T ++ b) s.size = fl := by unfold nxF; rw [if_pos hnx, x3]
  have n5 : nxS (T ++ b) s.size = st := by unfold nxS; rw [if_pos hnx, x4]
  have n6 : nxP (T ++ b) s.size = s := by unfold nxP; rw [if_pos hnx, hP]
  have hw : IntKind.wrap IntKind.i64 (9 + (s.size : Int)) = 9 + s.size := wr_small (by omega) (by omega)
  have hw2 : IntKind.wrap IntKind.i64 ((T.size : Int) - 1) = T.size - 1 := wr_small (by omega) (by omega)
  have hw3 : IntKind.wrap IntKind.i64 ((s.size : Int) - 1) = s.size - 1 := by rw [wr_i64]; omega
  have n7 : nxE T (s.size - 1) = 3 := by unfold nxE; rw [if_neg (by omega), if_pos (by omega)]
  rw [n1, n2, n3, n4, n5, n6, hw, hw2, hw3, n7, seq_self]
  obtain ⟨c, hc⟩ : ∃ c : Int, (if (T.size : Int) - 1 < if (0 : Int) > cut then 0 else cut then (T.size : Int) - 1 else if (0 : Int) > cut then 0 else cut) = c := ⟨_, rfl⟩
  have hcb : 0 ≤ c ∧ c ≤ T.size - 1 := by
    rw [← hc]
    split
    · split at * <;> omega
    · split at * <;> omega
  have n8 : nxE (T.extract (Int.toNat 0) (Int.toNat c)) s.size = 40 := by
    have hsz : (T.extract (Int.toNat 0) (Int.toNat c)).size = c.toNat := by rw [extract_size _ (by omega)]; rfl
    unfold nxE
    by_cases h3 : c.toNat < 3
    · rw [if_pos (by omega)]
    · have hbb : big3 (T.extract (Int.toNat 0) (Int.toNat c)) = s.size := by
        rw [show T.extract (Int.toNat 0) (Int.toNat c) = T.extract 0 c.toNat from rfl, big3_extract (by omega) (by omega), t1]
      rw [if_neg (by omega), if_neg (by omega), if_pos (by omega)]
  rw [hc, n8, decide_eq_true (show T.size + b.size < 9223372036854775808 by omega), decide_eq_true (show 9 + (s.size : Int) = T.size by omega), decide_eq_true (show (T.size : Int) = 9 + s.size by omega)]
  rw [decide_eq_true (rfl : k = k), decide_eq_true (rfl : fl = fl), decide_eq_true (rfl : st = st)]
  rw [decide_eq_true (show (0 : Int) ≤ 0 ∧ (0 : Int) ≤ c ∧ c ≤ T.size by omega)]
  exact ⟨rfl, rfl, rfl, rfl, rfl, rfl, rfl, rfl, rfl, rfl, rfl, rfl, rfl, rfl⟩
end Go.Ev
