/- The document's Make: what it comes to; no condition. -/
import Derived.Test.YtjhidbadbdhcmaaFrMo
import Derived.Test.YtjhidbadbdhcmaaFrMl
namespace Go.Ev
open Go Go.Proofs Go.RowKit
set_option linter.unusedVariables false
set_option maxRecDepth 100000
set_option maxHeartbeats 4000000
noncomputable abbrev dmB : Code := bodyOf Try.prog 19
theorem dmN (k fl st : Int) (p : Pt) (R : RFun) (Q : Value → AHeap → Prop) :
   startA frJ pNoHint 30 20 19 0 73 [] R dmB ([vi k, vi fl, vi st, ptV p nl] ++ List.replicate 69 undef) AHeap.empty (endGK frJ [.cell 8 23, .tmp 9] 0 [[]] Q)
   = (ifK (decide (k < (0 : Int))) (Q (Value.tuple { toList := [Value.agg { toList := [vi (0 : Int), vi (0 : Int), vi (0 : Int), Value.string (⟨#[]⟩ : ByteArray)] }, vi (70 : Int)] }) { size := 0, tr := Tr.nil }) (ifK (decide ((255 : Int) < k)) (Q (Value.tuple { toList := [Value.agg { toList := [vi (0 : Int), vi (0 : Int), vi (0 : Int), Value.string (⟨#[]⟩ : ByteArray)] }, vi (70 : Int)] }) { size := 0, tr := Tr.nil }) (ifK (decide (fl < (0 : Int))) (Q (Value.tuple { toList := [Value.agg { toList := [vi (0 : Int), vi (0 : Int), vi (0 : Int), Value.string (⟨#[]⟩ : ByteArray)] }, vi (70 : Int)] }) { size := 0, tr := Tr.nil }) (ifK (decide ((255 : Int) < fl)) (Q (Value.tuple { toList := [Value.agg { toList := [vi (0 : Int), vi (0 : Int), vi (0 : Int), Value.string (⟨#[]⟩ : ByteArray)] }, vi (70 : Int)] }) { size := 0, tr := Tr.nil }) (ifK (decide (st < (0 : Int))) (Q (Value.tuple { toList := [Value.agg { toList := [vi (0 : Int), vi (0 : Int), vi (0 : Int), Value.string (⟨#[]⟩ : ByteArray)] }, vi (70 : Int)] }) { size := 0, tr := Tr.nil }) (ifK (decide ((2147483647 : Int) < st)) (Q (Value.tuple { toList := [Value.agg { toList := [vi (0 : Int), vi (0 : Int), vi (0 : Int), Value.string (⟨#[]⟩ : ByteArray)] }, vi (70 : Int)] }) { size := 0, tr := Tr.nil }) (ifK (decide ((0 : Int) ≤ fl ∧ fl ≤ (255 : Int)) && (decide (p.3 < (9223372036854775808 : Int) ∧ p.4 < (9223372036854775808 : Int) ∧ p.7 < (9223372036854775808 : Int)) && decide (ByteArray.size p.1 ≤ 1000000000000))) (ifK (paB k fl p true) (ifK (decide ((16777215 : Int) < (↑(ByteArray.size (paS k fl p (⟨⟨[]⟩⟩ : ByteArray) true)) : Int))) (Q (Value.tuple { toList := [Value.agg { toList := [vi (0 : Int), vi (0 : Int), vi (0 : Int), Value.string (⟨#[]⟩ : ByteArray)] }, vi (70 : Int)] }) { size := 0, tr := Tr.nil }) (ifK (parR k fl st (paS k fl p (⟨⟨[]⟩⟩ : ByteArray) true)) (ifK (sizeOk (paS k fl p (⟨⟨[]⟩⟩ : ByteArray) true)) (ifK (parO k fl st (paS k fl p (⟨⟨[]⟩⟩ : ByteArray) true)).2 (Q (Value.tuple { toList := [Value.agg { toList := [vi (0 : Int), vi (0 : Int), vi (0 : Int), Value.string (⟨#[]⟩ : ByteArray)] }, vi (70 : Int)] }) { size := 0, tr := Tr.nil }) (ifK (allI64 (List.map (renV [3]) (List.map (upV [3]) (List.flatMap setCel (setRow (paS k fl p (⟨⟨[]⟩⟩ : ByteArray) true) (ByteArray.size (paS k fl p (⟨⟨[]⟩⟩ : ByteArray) true) / 6)))))) (ifK (!(ptEq p { d := (Out.p (parO k fl st (paS k fl p (⟨⟨[]⟩⟩ : ByteArray) true))).1, pad := (Out.p (parO k fl st (paS k fl p (⟨⟨[]⟩⟩ : ByteArray) true))).2, code := (Out.p (parO k fl st (paS k fl p (⟨⟨[]⟩⟩ : ByteArray) true))).3, last := (Out.p (parO k fl st (paS k fl p (⟨⟨[]⟩⟩ : ByteArray) true))).4, weight := (Out.p (parO k fl st (paS k fl p (⟨⟨[]⟩⟩ : ByteArray) true))).5, only := (Out.p (parO k fl st (paS k fl p (⟨⟨[]⟩⟩ : ByteArray) true))).6, more := (Out.p (parO k fl st (paS k fl p (⟨⟨[]⟩⟩ : ByteArray) true))).7 } && decide (ByteArray.size (paS k fl p (⟨⟨[]⟩⟩ : ByteArray) true) / 6 = 0))) (Q (Value.tuple { toList := [Value.agg { toList := [vi (0 : Int), vi (0 : Int), vi (0 : Int), Value.string (⟨#[]⟩ : ByteArray)] }, vi (70 : Int)] }) { size := 0, tr := Tr.nil }) (Q (Value.tuple { toList := [Value.agg { toList := [vi k, vi fl, vi st, Value.string (paS k fl p (⟨⟨[]⟩⟩ : ByteArray) true)] }, vi (0 : Int)] }) { size := 0, tr := Tr.nil })) False)) False) (ifK (sizeOk (paS k fl p (⟨⟨[]⟩⟩ : ByteArray) true)) (ifK (parO k fl st (paS k fl p (⟨⟨[]⟩⟩ : ByteArray) true)).2 (Q (Value.tuple { toList := [Value.agg { toList := [vi (0 : Int), vi (0 : Int), vi (0 : Int), Value.string (⟨#[]⟩ : ByteArray)] }, vi (70 : Int)] }) { size := 0, tr := Tr.nil }) (ifK (!ptEq p { d := (Out.p (parO k fl st (paS k fl p (⟨⟨[]⟩⟩ : ByteArray) true))).1, pad := (Out.p (parO k fl st (paS k fl p (⟨⟨[]⟩⟩ : ByteArray) true))).2, code := (Out.p (parO k fl st (paS k fl p (⟨⟨[]⟩⟩ : ByteArray) true))).3, last := (Out.p (parO k fl st (paS k fl p (⟨⟨[]⟩⟩ : ByteArray) true))).4, weight := (Out.p (parO k fl st (paS k fl p (⟨⟨[]⟩⟩ : ByteArray) true))).5, only := (Out.p (parO k fl st (paS k fl p (⟨⟨[]⟩⟩ : ByteArray) true))).6, more := (Out.p (parO k fl st (paS k fl p (⟨⟨[]⟩⟩ : ByteArray) true))).7 }) (Q (Value.tuple { toList := [Value.agg { toList := [vi (0 : Int), vi (0 : Int), vi (0 : Int), Value.string (⟨#[]⟩ : ByteArray)] }, vi (70 : Int)] }) { size := 0, tr := Tr.nil }) (Q (Value.tuple { toList := [Value.agg { toList := [vi k, vi fl, vi st, Value.string (paS k fl p (⟨⟨[]⟩⟩ : ByteArray) true)] }, vi (0 : Int)] }) { size := 0, tr := Tr.nil }))) False))) (Q (Value.tuple { toList := [Value.agg { toList := [vi (0 : Int), vi (0 : Int), vi (0 : Int), Value.string (⟨#[]⟩ : ByteArray)] }, vi (70 : Int)] }) { size := 0, tr := Tr.nil })) False))))))) := by kernel_rfl
theorem dmS (k fl st : Int) (p : Pt) (n c : Nat) (L : List Value) (T : ET) (R : RFun) (Q : Value → AHeap → Prop) :
   startA frJ pNoHint 30 20 19 1 73 [] R dmB ([vi k, vi fl, vi st, ptV p (slo 0 0 n c)] ++ List.replicate 69 undef) (roH1w L T) (endGK frJ [.cell 8 23, .tmp 9] 1 [[]] Q)
   = (ifK (decide (k < (0 : Int))) (Q (Value.tuple { toList := [Value.agg { toList := [vi (0 : Int), vi (0 : Int), vi (0 : Int), Value.string (⟨#[]⟩ : ByteArray)] }, vi (70 : Int)] }) { size := 1, tr := Tr.node (some (AObj.cells (List.map (renV [0]) L) T St.ro [])) Tr.nil Tr.nil }) (ifK (decide ((255 : Int) < k)) (Q (Value.tuple { toList := [Value.agg { toList := [vi (0 : Int), vi (0 : Int), vi (0 : Int), Value.string (⟨#[]⟩ : ByteArray)] }, vi (70 : Int)] }) { size := 1, tr := Tr.node (some (AObj.cells (List.map (renV [0]) L) T St.ro [])) Tr.nil Tr.nil }) (ifK (decide (fl < (0 : Int))) (Q (Value.tuple { toList := [Value.agg { toList := [vi (0 : Int), vi (0 : Int), vi (0 : Int), Value.string (⟨#[]⟩ : ByteArray)] }, vi (70 : Int)] }) { size := 1, tr := Tr.node (some (AObj.cells (List.map (renV [0]) L) T St.ro [])) Tr.nil Tr.nil }) (ifK (decide ((255 : Int) < fl)) (Q (Value.tuple { toList := [Value.agg { toList := [vi (0 : Int), vi (0 : Int), vi (0 : Int), Value.string (⟨#[]⟩ : ByteArray)] }, vi (70 : Int)] }) { size := 1, tr := Tr.node (some (AObj.cells (List.map (renV [0]) L) T St.ro [])) Tr.nil Tr.nil }) (ifK (decide (st < (0 : Int))) (Q (Value.tuple { toList := [Value.agg { toList := [vi (0 : Int), vi (0 : Int), vi (0 : Int), Value.string (⟨#[]⟩ : ByteArray)] }, vi (70 : Int)] }) { size := 1, tr := Tr.node (some (AObj.cells (List.map (renV [0]) L) T St.ro [])) Tr.nil Tr.nil }) (ifK (decide ((2147483647 : Int) < st)) (Q (Value.tuple { toList := [Value.agg { toList := [vi (0 : Int), vi (0 : Int), vi (0 : Int), Value.string (⟨#[]⟩ : ByteArray)] }, vi (70 : Int)] }) { size := 1, tr := Tr.node (some (AObj.cells (List.map (renV [0]) L) T St.ro [])) Tr.nil Tr.nil }) (ifK (decide ((0 : Int) ≤ fl ∧ fl ≤ (255 : Int)) && (decide (p.3 < (9223372036854775808 : Int) ∧ p.4 < (9223372036854775808 : Int) ∧ p.7 < (9223372036854775808 : Int)) && (allI64 (List.map (renV [0]) L) && (decide (ByteArray.size p.1 ≤ 1000000000000) && (decide (n * 2 ≤ List.length (List.map (renV [0]) L)) && decide (n ≤ 1000000000000)))))) (ifK (paB k fl p (setFit n (intsOf (List.map (renV [0]) L)))) (ifK (decide ((16777215 : Int) < (↑(ByteArray.size (paS k fl p { data := { toList := encX n (intsOf (List.map (renV [0]) L)) } } (setFit n (intsOf (List.map (renV [0]) L))))) : Int))) (Q (Value.tuple { toList := [Value.agg { toList := [vi (0 : Int), vi (0 : Int), vi (0 : Int), Value.string (⟨#[]⟩ : ByteArray)] }, vi (70 : Int)] }) { size := 1, tr := Tr.node (some (AObj.cells (List.map (renV [0]) L) T St.ro [])) Tr.nil Tr.nil }) (ifK (parR k fl st (paS k fl p { data := { toList := encX n (intsOf (List.map (renV [0]) L)) } } (setFit n (intsOf (List.map (renV [0]) L))))) (ifK (sizeOk (paS k fl p { data := { toList := encX n (intsOf (List.map (renV [0]) L)) } } (setFit n (intsOf (List.map (renV [0]) L))))) (ifK (parO k fl st (paS k fl p { data := { toList := encX n (intsOf (List.map (renV [0]) L)) } } (setFit n (intsOf (List.map (renV [0]) L))))).2 (Q (Value.tuple { toList := [Value.agg { toList := [vi (0 : Int), vi (0 : Int), vi (0 : Int), Value.string (⟨#[]⟩ : ByteArray)] }, vi (70 : Int)] }) { size := 1, tr := Tr.node (some (AObj.cells (List.map (renV [0]) L) T St.ro [])) Tr.nil Tr.nil }) (ifK (allI64 (List.map (renV [0, 4]) L) && (allI64 (List.map (renV [0, 4]) (List.map (upV [4]) (List.flatMap setCel (setRow (paS k fl p { data := { toList := encX n (intsOf (List.map (renV [0]) L)) } } (setFit n (intsOf (List.map (renV [0]) L)))) (ByteArray.size (paS k fl p { data := { toList := encX n (intsOf (List.map (renV [0]) L)) } } (setFit n (intsOf (List.map (renV [0]) L)))) / 6))))) && (decide (n * 2 ≤ List.length (List.map (renV [0, 4]) L)) && (decide (ByteArray.size (paS k fl p { data := { toList := encX n (intsOf (List.map (renV [0]) L)) } } (setFit n (intsOf (List.map (renV [0]) L)))) / 6 * 2 ≤ List.length (List.map (renV [0, 4]) (List.map (upV [4]) (List.flatMap setCel (setRow (paS k fl p { data := { toList := encX n (intsOf (List.map (renV [0]) L)) } } (setFit n (intsOf (List.map (renV [0]) L)))) (ByteArray.size (paS k fl p { data := { toList := encX n (intsOf (List.map (renV [0]) L)) } } (setFit n (intsOf (List.map (renV [0]) L)))) / 6)))))) && decide (n ≤ 4611686018427387904))))) (ifK (!(ptEq p { d := (Out.p (parO k fl st (paS k fl p { data := { toList := encX n (intsOf (List.map (renV [0]) L)) } } (setFit n (intsOf (List.map (renV [0]) L)))))).1, pad := (Out.p (parO k fl st (paS k fl p { data := { toList := encX n (intsOf (List.map (renV [0]) L)) } } (setFit n (intsOf (List.map (renV [0]) L)))))).2, code := (Out.p (parO k fl st (paS k fl p { data := { toList := encX n (intsOf (List.map (renV [0]) L)) } } (setFit n (intsOf (List.map (renV [0]) L)))))).3, last := (Out.p (parO k fl st (paS k fl p { data := { toList := encX n (intsOf (List.map (renV [0]) L)) } } (setFit n (intsOf (List.map (renV [0]) L)))))).4, weight := (Out.p (parO k fl st (paS k fl p { data := { toList := encX n (intsOf (List.map (renV [0]) L)) } } (setFit n (intsOf (List.map (renV [0]) L)))))).5, only := (Out.p (parO k fl st (paS k fl p { data := { toList := encX n (intsOf (List.map (renV [0]) L)) } } (setFit n (intsOf (List.map (renV [0]) L)))))).6, more := (Out.p (parO k fl st (paS k fl p { data := { toList := encX n (intsOf (List.map (renV [0]) L)) } } (setFit n (intsOf (List.map (renV [0]) L)))))).7 } && (decide (n = ByteArray.size (paS k fl p { data := { toList := encX n (intsOf (List.map (renV [0]) L)) } } (setFit n (intsOf (List.map (renV [0]) L)))) / 6) && decide (List.take (n * 2) (intsOf (List.map (renV [0, 4]) L)) = List.take (n * 2) (intsOf (List.map (renV [0, 4]) (List.map (upV [4]) (List.flatMap setCel (setRow (paS k fl p { data := { toList := encX n (intsOf (List.map (renV [0]) L)) } } (setFit n (intsOf (List.map (renV [0]) L)))) (ByteArray.size (paS k fl p { data := { toList := encX n (intsOf (List.map (renV [0]) L)) } } (setFit n (intsOf (List.map (renV [0]) L)))) / 6)))))))))) (Q (Value.tuple { toList := [Value.agg { toList := [vi (0 : Int), vi (0 : Int), vi (0 : Int), Value.string (⟨#[]⟩ : ByteArray)] }, vi (70 : Int)] }) { size := 1, tr := Tr.node (some (AObj.cells (List.map (renV [0]) L) T St.ro [])) Tr.nil Tr.nil }) (Q (Value.tuple { toList := [Value.agg { toList := [vi k, vi fl, vi st, Value.string (paS k fl p { data := { toList := encX n (intsOf (List.map (renV [0]) L)) } } (setFit n (intsOf (List.map (renV [0]) L))))] }, vi (0 : Int)] }) { size := 1, tr := Tr.node (some (AObj.cells (List.map (renV [0]) L) T St.ro [])) Tr.nil Tr.nil })) False)) False) (ifK (sizeOk (paS k fl p { data := { toList := encX n (intsOf (List.map (renV [0]) L)) } } (setFit n (intsOf (List.map (renV [0]) L))))) (ifK (parO k fl st (paS k fl p { data := { toList := encX n (intsOf (List.map (renV [0]) L)) } } (setFit n (intsOf (List.map (renV [0]) L))))).2 (Q (Value.tuple { toList := [Value.agg { toList := [vi (0 : Int), vi (0 : Int), vi (0 : Int), Value.string (⟨#[]⟩ : ByteArray)] }, vi (70 : Int)] }) { size := 1, tr := Tr.node (some (AObj.cells (List.map (renV [0]) L) T St.ro [])) Tr.nil Tr.nil }) (ifK (allI64 (List.map (renV [0]) L)) (ifK (!(ptEq p { d := (Out.p (parO k fl st (paS k fl p { data := { toList := encX n (intsOf (List.map (renV [0]) L)) } } (setFit n (intsOf (List.map (renV [0]) L)))))).1, pad := (Out.p (parO k fl st (paS k fl p { data := { toList := encX n (intsOf (List.map (renV [0]) L)) } } (setFit n (intsOf (List.map (renV [0]) L)))))).2, code := (Out.p (parO k fl st (paS k fl p { data := { toList := encX n (intsOf (List.map (renV [0]) L)) } } (setFit n (intsOf (List.map (renV [0]) L)))))).3, last := (Out.p (parO k fl st (paS k fl p { data := { toList := encX n (intsOf (List.map (renV [0]) L)) } } (setFit n (intsOf (List.map (renV [0]) L)))))).4, weight := (Out.p (parO k fl st (paS k fl p { data := { toList := encX n (intsOf (List.map (renV [0]) L)) } } (setFit n (intsOf (List.map (renV [0]) L)))))).5, only := (Out.p (parO k fl st (paS k fl p { data := { toList := encX n (intsOf (List.map (renV [0]) L)) } } (setFit n (intsOf (List.map (renV [0]) L)))))).6, more := (Out.p (parO k fl st (paS k fl p { data := { toList := encX n (intsOf (List.map (renV [0]) L)) } } (setFit n (intsOf (List.map (renV [0]) L)))))).7 } && decide (n = 0))) (Q (Value.tuple { toList := [Value.agg { toList := [vi (0 : Int), vi (0 : Int), vi (0 : Int), Value.string (⟨#[]⟩ : ByteArray)] }, vi (70 : Int)] }) { size := 1, tr := Tr.node (some (AObj.cells (List.map (renV [0]) L) T St.ro [])) Tr.nil Tr.nil }) (Q (Value.tuple { toList := [Value.agg { toList := [vi k, vi fl, vi st, Value.string (paS k fl p { data := { toList := encX n (intsOf (List.map (renV [0]) L)) } } (setFit n (intsOf (List.map (renV [0]) L))))] }, vi (0 : Int)] }) { size := 1, tr := Tr.node (some (AObj.cells (List.map (renV [0]) L) T St.ro [])) Tr.nil Tr.nil })) False)) False))) (Q (Value.tuple { toList := [Value.agg { toList := [vi (0 : Int), vi (0 : Int), vi (0 : Int), Value.string (⟨#[]⟩ : ByteArray)] }, vi (70 : Int)] }) { size := 1, tr := Tr.node (some (AObj.cells (List.map (renV [0]) L) T St.ro [])) Tr.nil Tr.nil })) False))))))) := by kernel_rfl
end Go.Ev

/- The program's frame and the document's: where one is made the other one is, and they are the same; no condition. -/
namespace Go.Ev
open Go Go.Proofs Go.RowKit
set_option linter.unusedVariables false
set_option linter.unusedSimpArgs false
set_option maxRecDepth 100000
set_option maxHeartbeats 4000000
theorem ptEq_inv {p q : Pt} (h : ptEq p q = true) : p = q := by
  obtain ⟨d, pad, code, last, weight, only, more⟩ := p
  obtain ⟨d', pad', code', last', weight', only', more'⟩ := q
  unfold ptEq at h
  simp only [Bool.and_eq_true, decide_eq_true_eq, beq_iff_eq] at h
  obtain ⟨h1, h2, h3, h4, h5, h6, h7⟩ := h
  have := seq_iff.1 h1
  simp_all
def dmC (k fl st : Int) (y : ByteArray) (ok b : Bool) : Bool := hdS k fl st && (ok && (decide (y.size ≤ 16777215) && (!(parO k fl st y).is && b)))
theorem mx_of {x : Int} (h : 0 ≤ x) : mx x = x := if_neg (by omega)
theorem wt4 (n : Int) : wtS n 4 = four n := rfl
theorem wt1 (n : Int) : wtS n 1 = ba [u8i n] := rfl
theorem fi4_true {n : Int} (h : fiS n 4 = true) : 0 ≤ n ∧ n < 4294967296 := by rw [fiS4] at h; exact of_decide_eq_true h
theorem fi4_mk {n : Int} (h : 0 ≤ n ∧ n < 4294967296) : fiS n 4 = true := by rw [fiS4]; exact decide_eq_true h
theorem five_eq (p : Pt) (h : fiveP p) : pri5 p = fiveT p ++ p.d := by
  unfold pri5 fiveT
  obtain ⟨h1, h2, h3, h4⟩ := h
  have e1 : IntKind.wrap IntKind.i64 (IntKind.wrap IntKind.i64 (p.last + (2147483647 : Int)) + (1 : Int)) = p.last + 2147483648 := by
    rw [wr_small (x := p.last + 2147483647) (by omega) (by omega), wr_small (by omega) (by omega)]; omega
  have e2 : IntKind.wrap IntKind.i64 (p.weight - (1 : Int)) = p.weight - 1 := wr_small (by omega) (by omega)
  rw [e1, e2, wt4, wt1, orT_low h1 (by omega)]
theorem pad_eq (p : Pt) (h : 1 ≤ p.pad ∧ p.pad ≤ 256) : padB p = padT p := by
  unfold padB padT
  have e2 : IntKind.wrap IntKind.i64 (p.pad - (1 : Int)) = p.pad - 1 := wr_small (by omega) (by omega)
  have hrep : ∀ n : Nat, Lib.repeatL [(0 : UInt8)] n = List.replicate n 0 := by
    intro n
    induction n with
    | zero => rfl
    | succ n ih => rw [Lib.repeatL, ih]; rfl
  rw [e2, wt1, zer_eq, bf_rep, hrep]
/-- Where the document has a payload, it is the program's. -/
theorem pay_eq {k fl : Int} {p : Pt} {S : ByteArray} {o : Bool} (hf : 0 ≤ fl ∧ fl ≤ 255) (h2 : k = 2 → p.d = noBytes) (h : paB k fl p o = true) : wrO k fl p S = paS k fl p S o := by
  rcases yCases k with rfl | rfl | rfl | rfl | rfl | rfl | rfl | rfl | rfl | rfl | hk
  · rw [paB_0] at h
    replace h := of_decide_eq_true h
    rw [wrO_0, paS_0]
    by_cases h8 : fl / 8 % 2 = 0
    · rw [if_pos h8, if_neg (by omega)]
    · rw [if_neg h8, if_pos (by omega), if_pos (by omega), pad_eq p (by omega)]
  · rw [paB_1] at h
    replace h := of_decide_eq_true h
    rw [wrO_1, paS_1]
    by_cases h32 : fl / 32 % 2 = 0
    · rw [if_pos h32, if_neg (by omega)]
    · have hf5 : fiveP p := by rcases h.2 with h | h; exact absurd h h32; exact h
      rw [if_neg h32, if_pos (by omega), if_pos hf5, five_eq p hf5]
  · rw [paB_2] at h
    replace h := of_decide_eq_true h
    rw [wrO_2, paS_2, if_pos h, five_eq p h, h2 rfl]
    apply ba_ext
    rw [ba_list2]
    exact List.append_nil _
  · rw [paB_3] at h
    rw [wrO_3, paS_3, mx_of (fi4_true h).1, wt4]
  · rw [paB_4] at h
    rw [wrO_4, paS_4, if_pos h]
  · rw [paS_6, wrO_D (by unfold OtherW; decide)]
  · rw [paB_7, Bool.and_eq_true] at h
    rw [wrO_7, paS_7, mx_of (fi4_true h.1).1, mx_of (fi4_true h.2).1, wt4, wt4]
  · rw [paB_8] at h
    rw [wrO_8, paS_8, mx_of (fi4_true h).1, wt4]
  · rw [paS_9, wrO_D (by unfold OtherW; decide)]
  · rw [paB_16] at h
    rw [wrO_16, paS_16, mx_of (fi4_true h).1, wt4]
  · rw [paB_D hk] at h; cases h
/-- What a frame says can be written. -/
theorem said_ok {k fl st : Int} {p : Pt} {x : ByteArray} {o : Bool} (hk : (whK k || decide (k = 8)) = true) (h8 : ¬ (k = 1 ∧ fl / 8 % 2 = 1)) (hi : (parO k fl st x).is = false) (hp : p = (parO k fl st x).p) (h4 : k = 4 → o = true) : paB k fl p o = true := by
  have hb := big4_bd x
  rcases yCases k with rfl | rfl | rfl | rfl | rfl | rfl | rfl | rfl | rfl | rfl | hk'
  · rw [paB_0, decide_eq_true_eq]
    by_cases h : fl / 8 % 2 = 0
    · exact .inl h
    refine .inr ?_
    have e := parO_0 fl st x
    rw [e] at hi hp
    by_cases hs : st = 0
    · rw [if_pos hs] at hi; cases hi
    rw [if_neg hs] at hi hp
    unfold pad0 at hi hp
    rw [if_pos (by omega)] at hi hp
    by_cases hz : x.size = 0
    · rw [if_pos hz] at hi; cases hi
    rw [if_neg hz] at hi hp
    by_cases hq : ((x.extract 1 x.size).size : Int) < byteAt x 0
    · rw [if_pos hq] at hi; cases hi
    rw [if_neg hq] at hp
    have := byteAt_bd x 0
    have e2 : p.pad = 1 + byteAt x 0 := by rw [hp]
    omega
  · rw [paB_1, decide_eq_true_eq]
    have h80 : fl / 8 % 2 = 0 := by omega
    refine ⟨h80, ?_⟩
    by_cases h : fl / 32 % 2 = 0
    · exact .inl h
    refine .inr ?_
    have e := parO_1 fl st x
    rw [e] at hi hp
    by_cases hs : st = 0
    · rw [if_pos hs] at hi; cases hi
    rw [if_neg hs] at hi hp
    unfold pad1 at hi hp
    rw [if_neg (by omega), if_pos (by omega)] at hi hp
    unfold pri at hi hp
    by_cases hz : x.size < 5
    · rw [if_pos hz] at hi; cases hi
    rw [if_neg hz, if_neg (by omega)] at hp
    have := byteAt_bd x 4
    have e1 : p.last = big4 x % 2147483648 := by rw [hp]
    have e2 : p.weight = byteAt x 4 + 1 := by rw [hp]
    exact ⟨by omega, by omega, by omega, by omega⟩
  · rw [paB_2, decide_eq_true_eq]
    have e := parO_2 fl st x
    rw [e] at hi hp
    by_cases hs : st = 0
    · rw [if_pos hs] at hi; cases hi
    rw [if_neg hs] at hi hp
    unfold par2 at hi hp
    by_cases hz : x.size = 5
    · rw [if_pos hz] at hp
      have := byteAt_bd x 4
      have e1 : p.last = big4 x % 2147483648 := by rw [hp]
      have e2 : p.weight = byteAt x 4 + 1 := by rw [hp]
      exact ⟨by omega, by omega, by omega, by omega⟩
    · rw [if_neg hz] at hi; cases hi
  · rw [paB_3]
    have e := parO_3 fl st x
    rw [e] at hi hp
    by_cases hs : st = 0
    · rw [if_pos hs] at hi; cases hi
    rw [if_neg hs] at hi hp
    unfold par3 at hi hp
    by_cases hz : x.size = 4
    · rw [if_pos hz] at hp
      exact fi4_mk (by rw [hp]; exact hb)
    · rw [if_neg hz] at hi; cases hi
  · rw [paB_4]; exact h4 rfl
  · rw [paB_6]
  · rw [paB_7]
    have e := parO_7 fl st x
    rw [e] at hi hp
    by_cases hs : st = 0
    · rw [if_pos hs] at hi hp
      unfold par7 at hi hp
      by_cases hz : x.size < 8
      · rw [if_pos hz] at hi; cases hi
      rw [if_neg hz] at hp
      have e1 : p.last = big4 x % 2147483648 := by rw [hp]
      have e2 : p.code = big4 (x.extract 4 x.size) := by rw [hp]
      have := big4_bd (x.extract 4 x.size)
      rw [fi4_mk (by omega), fi4_mk (by omega)]; rfl
    · rw [if_neg hs] at hi; cases hi
  · rw [paB_8]
    have e := parO_8 fl st x
    rw [e] at hi hp
    unfold par8 at hi hp
    by_cases hz : x.size = 4
    · rw [if_pos hz] at hi hp
      by_cases hq : big4 x % 2147483648 = 0
      · rw [if_pos hq] at hi; cases hi
      rw [if_neg hq] at hp
      have e1 : p.more = big4 x % 2147483648 := by rw [hp]
      exact fi4_mk (by omega)
    · rw [if_neg hz] at hi; cases hi
  · rw [paB_9]
  · rw [paB_16]
    have e := parO_16 fl st x
    rw [e] at hi hp
    by_cases hs : st = 0
    · rw [if_pos hs] at hi hp
      unfold par16 at hi hp
      by_cases hz : x.size < 4
      · rw [if_pos hz] at hi; cases hi
      rw [if_neg hz] at hi hp
      by_cases hq : big4 x % 2147483648 = 0
      · rw [if_pos hq] at hi; cases hi
      rw [if_neg hq] at hp
      have e1 : p.last = big4 x % 2147483648 := by rw [hp]
      exact fi4_mk (by omega)
    · rw [if_neg hs] at hi; cases hi
  · obtain ⟨h0, h1, h2, h3, h4, h6, h7, h8, h9, h16⟩ := hk'
    unfold whK whS at hk
    simp [h0, h1, h2, h3, h4, h6, h7, h8, h9, h16] at hk
theorem said_2 {fl st : Int} {x : ByteArray} (hi : (parO 2 fl st x).is = false) : (parO 2 fl st x).p.d = noBytes ∧ x.size = 5 := by
  have e := parO_2 fl st x
  rw [e] at hi ⊢
  by_cases hs : st = 0
  · rw [if_pos hs] at hi; cases hi
  rw [if_neg hs] at hi ⊢
  unfold par2 at hi ⊢
  by_cases hz : x.size = 5
  · rw [if_pos hz]; exact ⟨rfl, hz⟩
  · rw [if_neg hz] at hi; cases hi
theorem ok_kind {k fl : Int} {p : Pt} {o : Bool} (h : paB k fl p o = true) : (whK k || decide (k = 8)) = true ∧ (0 ≤ fl → ¬ (k = 1 ∧ fl / 8 % 2 = 1)) := by
  rcases yCases k with rfl | rfl | rfl | rfl | rfl | rfl | rfl | rfl | rfl | rfl | hk
  case inr.inl =>
    rw [paB_1] at h
    replace h := of_decide_eq_true h
    exact ⟨by decide, fun _ => by omega⟩
  case inr.inr.inr.inr.inr.inr.inr.inr.inr.inr => rw [paB_D hk] at h; cases h
  all_goals exact ⟨by decide, fun _ => by omega⟩
/-- One frame, or none. -/
theorem make_same {k fl st : Int} {p : Pt} {S : ByteArray} {o : Bool} {B : ByteArray → Bool} (hB : ∀ x, B x = true → ptEq p (parO k fl st x).p = true) (h4 : k = 4 → B S = true → o = true) :
    mkB k fl st (wrO k fl p S) (B (wrO k fl p S)) = dmC k fl st (paS k fl p S o) (paB k fl p o) (B (paS k fl p S o)) ∧ (mkB k fl st (wrO k fl p S) (B (wrO k fl p S)) = true → wrO k fl p S = paS k fl p S o) := by
  have main : ∀ c, mkB k fl st (wrO k fl p S) (B (wrO k fl p S)) = true → dmC k fl st (paS k fl p S o) (paB k fl p o) (B (paS k fl p S o)) = c → c = true ∧ wrO k fl p S = paS k fl p S o := by
    intro c h hc
    unfold mkB at h
    simp only [Bool.and_eq_true, Bool.not_eq_true', decide_eq_true_eq] at h
    obtain ⟨hk, hh, hn, hi, hb, hz⟩ := h
    have hh' : 0 ≤ k ∧ k ≤ 255 ∧ 0 ≤ fl ∧ fl ≤ 255 ∧ 0 ≤ st ∧ st ≤ 2147483647 := of_decide_eq_true hh
    have hn' : ¬ (k = 1 ∧ fl / 8 % 2 = 1) := fun hq => by rw [decide_eq_true hq.1, decide_eq_true hq.2] at hn; cases hn
    have hp := ptEq_inv (hB _ hb)
    have ho : k = 4 → o = true := fun hq => h4 hq (by subst hq; rw [wrO_4] at hb; exact hb)
    have hok := said_ok (o := o) hk hn' hi hp ho
    have h2 : k = 2 → p.d = noBytes := fun hq => by subst hq; rw [hp]; exact (said_2 hi).1
    have hX := pay_eq (S := S) ⟨hh'.2.2.1, hh'.2.2.2.1⟩ h2 hok
    refine ⟨?_, hX⟩
    rw [← hc]
    unfold dmC
    rw [hh, hok, ← hX, decide_eq_true hz, hi, hb]
    rfl
  refine ⟨?_, fun h => (main _ h rfl).2⟩
  cases hm : mkB k fl st (wrO k fl p S) (B (wrO k fl p S)) with
  | true => exact ((main _ hm rfl).1).symm
  | false =>
    cases hd : dmC k fl st (paS k fl p S o) (paB k fl p o) (B (paS k fl p S o)) with
    | false => rfl
    | true =>
      exfalso
      unfold dmC at hd
      simp only [Bool.and_eq_true, Bool.not_eq_true', decide_eq_true_eq] at hd
      obtain ⟨hh, hok, hz, hi, hb⟩ := hd
      have hh' : 0 ≤ k ∧ k ≤ 255 ∧ 0 ≤ fl ∧ fl ≤ 255 ∧ 0 ≤ st ∧ st ≤ 2147483647 := of_decide_eq_true hh
      have hp := ptEq_inv (hB _ hb)
      have h2 : k = 2 → p.d = noBytes := fun hq => by subst hq; rw [hp]; exact (said_2 hi).1
      have hX := pay_eq (S := S) ⟨hh'.2.2.1, hh'.2.2.2.1⟩ h2 hok
      obtain ⟨hk, hn⟩ := ok_kind hok
      have hn' : (decide (k = 1) && decide (fl / 8 % 2 = 1)) = false := by
        cases hq : (decide (k = 1) && decide (fl / 8 % 2 = 1)) with
        | false => rfl
        | true => simp at hq; exact absurd hq (hn hh'.2.2.1)
      rw [hX] at hm
      unfold mkB at hm
      rw [hk, hh, hn', hi, hb, decide_eq_true hz] at hm
      cases hm
theorem setRow_fit (s : ByteArray) (n m : Nat) (hm : m ≤ n) : setFit m (setInts s n) = true := by
  unfold setFit
  rw [List.all_eq_true]
  intro i hi
  have hi' : i < n := by have := List.mem_range.1 hi; omega
  have hget : ∀ (L : List (Int × Int)) (i : Nat) (q : Int × Int), L[i]? = some q → (L.flatMap fun p => [p.1, p.2])[i * 2]? = some q.1 ∧ (L.flatMap fun p => [p.1, p.2])[i * 2 + 1]? = some q.2 := by
    intro L
    induction L with
    | nil => intro i q h; simp at h
    | cons a L ih =>
      intro i q h
      cases i with
      | zero => simp at h; subst h; exact ⟨rfl, rfl⟩
      | succ i =>
        simp at h
        obtain ⟨h1, h2⟩ := ih i q h
        rw [List.flatMap_cons, show (i + 1) * 2 = i * 2 + 2 by omega]
        exact ⟨h1, h2⟩
  have hr : (setRow s n)[i]? = some (setId s i, setVal s i) := by
    unfold setRow
    rw [List.getElem?_map, List.getElem?_range hi']; rfl
  obtain ⟨e1, e2⟩ := hget _ _ _ hr
  have e1' : (setInts s n)[i * 2]? = some (setId s i) := e1
  have e2' : (setInts s n)[i * 2 + 1]? = some (setVal s i) := e2
  simp only [List.getD, e1', e2', Option.getD_some]
  have b0 := byteAt_bd s (6 * i : Nat); have b1 := byteAt_bd s (6 * i + 1 : Nat); have b2 := byteAt_bd s (6 * i + 2 : Nat); have b3 := byteAt_bd s (6 * i + 3 : Nat); have b4 := byteAt_bd s (6 * i + 4 : Nat); have b5 := byteAt_bd s (6 * i + 5 : Nat)
  rw [fiS2, fiS4, decide_eq_true, decide_eq_true]
  · rfl
  · unfold setVal; omega
  · unfold setId; omega
theorem setFit_take (n : Nat) (xs : List Int) : setFit n (xs.take (n * 2)) = setFit n xs := by
  unfold setFit
  have h : ∀ i ∈ List.range n, (fiS ((xs.take (n * 2)).getD (i * 2) 0) 2 && fiS ((xs.take (n * 2)).getD (i * 2 + 1) 0) 4) = (fiS (xs.getD (i * 2) 0) 2 && fiS (xs.getD (i * 2 + 1) 0) 4) := by
    intro i hi
    have hi' := List.mem_range.1 hi
    simp only [List.getD]
    rw [List.getElem?_take, if_pos (by omega), List.getElem?_take, if_pos (by omega)]
  rw [Bool.eq_iff_iff, List.all_eq_true, List.all_eq_true]
  exact ⟨fun hh i hi => by rw [← h i hi]; exact hh i hi, fun hh i hi => by rw [h i hi]; exact hh i hi⟩
theorem make_N (k fl st : Int) (p : Pt) :
    mkB k fl st (wrO k fl p ⟨⟨[]⟩⟩) (mkN k fl st p (wrO k fl p ⟨⟨[]⟩⟩)) = dmC k fl st (paS k fl p ⟨⟨[]⟩⟩ true) (paB k fl p true) (mkN k fl st p (paS k fl p ⟨⟨[]⟩⟩ true)) ∧ (mkB k fl st (wrO k fl p ⟨⟨[]⟩⟩) (mkN k fl st p (wrO k fl p ⟨⟨[]⟩⟩)) = true → wrO k fl p ⟨⟨[]⟩⟩ = paS k fl p ⟨⟨[]⟩⟩ true) :=
  make_same (B := fun x => mkN k fl st p x) (fun x h => by unfold mkN at h; simp only [Bool.and_eq_true] at h; exact h.1) (fun _ _ => rfl)
theorem make_S (k fl st : Int) (p : Pt) (n : Nat) (xs : List Int) :
    mkB k fl st (wrO k fl p ⟨⟨encX n xs⟩⟩) (mkS k fl st p (wrO k fl p ⟨⟨encX n xs⟩⟩) n xs) = dmC k fl st (paS k fl p ⟨⟨encX n xs⟩⟩ (setFit n xs)) (paB k fl p (setFit n xs)) (mkS k fl st p (paS k fl p ⟨⟨encX n xs⟩⟩ (setFit n xs)) n xs) ∧ (mkB k fl st (wrO k fl p ⟨⟨encX n xs⟩⟩) (mkS k fl st p (wrO k fl p ⟨⟨encX n xs⟩⟩) n xs) = true → wrO k fl p ⟨⟨encX n xs⟩⟩ = paS k fl p ⟨⟨encX n xs⟩⟩ (setFit n xs)) := by
  refine make_same (B := fun x => mkS k fl st p x n xs) (fun x h => ?_) (fun _ h => ?_)
  · unfold mkS at h
    split at h <;> (simp only [Bool.and_eq_true] at h; exact h.1)
  · unfold mkS at h
    split at h
    · simp only [Bool.and_eq_true, decide_eq_true_eq] at h
      obtain ⟨_, h1, h2⟩ := h
      rw [← setFit_take, h2, setFit_take]
      exact setRow_fit _ _ _ (by omega)
    · simp only [Bool.and_eq_true, decide_eq_true_eq] at h
      rw [h.2]; rfl
end Go.Ev

/- The document's Make as a summary; the environment of the law FrameMakes. -/
namespace Go.Ev
open Go Go.Proofs Go.RowKit
set_option linter.unusedVariables false
set_option linter.unusedSimpArgs false
set_option maxRecDepth 100000
set_option maxHeartbeats 4000000
def dmR (k fl st : Int) (y : ByteArray) (ok b : Bool) : Value := if dmC k fl st y ok b = true then mkF k fl st y else mkZ
theorem dmR_t {k fl st : Int} {y : ByteArray} {ok b : Bool} (h : dmC k fl st y ok b = true) : dmR k fl st y ok b = mkF k fl st y := if_pos h
theorem dmR_f {k fl st : Int} {y : ByteArray} {ok b : Bool} (h : dmC k fl st y ok b = false) : dmR k fl st y ok b = mkZ := if_neg (by rw [h]; decide)
def dmSp (k fl st : Int) (y : ByteArray) (ok b c : Bool) : SpR := .br (dmC k fl st y ok b) (.ret c (mkF k fl st y) []) (.ret c mkZ [])
def dmSpec : List Value → AHeap → SpR
  | [.int .i64 k, .int .i64 fl, .int .i64 sm, .agg ⟨[.string d, .int .i64 pad, .int .i64 code, .int .i64 last, .int .i64 weight, .bool only, .int .i64 more, st]⟩], HL =>
    match HL.size, st with
    | 0, .slice none 0 0 => dmSp k fl sm (paS k fl ⟨d, pad, code, last, weight, only, more⟩ ⟨⟨[]⟩⟩ true) (paB k fl ⟨d, pad, code, last, weight, only, more⟩ true) (mkN k fl sm ⟨d, pad, code, last, weight, only, more⟩ (paS k fl ⟨d, pad, code, last, weight, only, more⟩ ⟨⟨[]⟩⟩ true)) (decide (d.size ≤ 1000000000000) && decide (code < 9223372036854775808 ∧ last < 9223372036854775808 ∧ more < 9223372036854775808))
    | 1, .slice (some ⟨0, 0, none⟩) n c => match HL.get 0 with
      | some (.cells L T .ro []) => dmSp k fl sm (paS k fl ⟨d, pad, code, last, weight, only, more⟩ ⟨⟨encX n (intsOf L)⟩⟩ (setFit n (intsOf L))) (paB k fl ⟨d, pad, code, last, weight, only, more⟩ (setFit n (intsOf L))) (mkS k fl sm ⟨d, pad, code, last, weight, only, more⟩ (paS k fl ⟨d, pad, code, last, weight, only, more⟩ ⟨⟨encX n (intsOf L)⟩⟩ (setFit n (intsOf L))) n (intsOf L))
          (allI64 L && (decide (d.size ≤ 1000000000000) && (decide (n * 2 ≤ L.length) && (decide (n ≤ 1000000000000) && decide (code < 9223372036854775808 ∧ last < 9223372036854775808 ∧ more < 9223372036854775808)))))
      | _ => .fail
    | _, _ => .fail
  | _, _ => .fail
abbrev ptB (p : Pt) : Prop := p.code < 9223372036854775808 ∧ p.last < 9223372036854775808 ∧ p.more < 9223372036854775808
theorem dmC_hd {k fl st : Int} {y : ByteArray} {ok b : Bool} (h : ¬ (0 ≤ k ∧ k ≤ 255 ∧ 0 ≤ fl ∧ fl ≤ 255 ∧ 0 ≤ st ∧ st ≤ 2147483647)) : dmC k fl st y ok b = false := by
  unfold dmC
  rw [show hdS k fl st = false from decide_eq_false h]; rfl
theorem notT {b : Bool} (h : (!b) = true) : (!false && b) = false := by cases b <;> simp_all
theorem notF {b : Bool} (h : (!b) = false) : (!false && b) = true := by cases b <;> simp_all
theorem dmNh (k fl st : Int) (p : Pt) (R : RFun) (hd : p.d.size ≤ 1000000000000) (hq : ptB p) :
    Hd (startA frJ pNoHint 30 20 19 0 73 [] R dmB ([vi k, vi fl, vi st, ptV p nl] ++ List.replicate 69 undef) AHeap.empty (endGK frJ [.cell 8 23, .tmp 9] 0 [[]] (fun v H => v = dmR k fl st (paS k fl p ⟨⟨[]⟩⟩ true) (paB k fl p true) (mkN k fl st p (paS k fl p ⟨⟨[]⟩⟩ true)) ∧ H = AHeap.empty))) := by
  constructor
  rw [dmN]
  have hd' : decide (p.d.size ≤ 1000000000000) = true := decide_eq_true hd
  have hq' : decide (p.code < 9223372036854775808 ∧ p.last < 9223372036854775808 ∧ p.more < 9223372036854775808) = true := decide_eq_true hq
  have hs : ∀ X : ByteArray, List.flatMap (fun p => [p.fst, p.snd]) (setRow X (X.size / 6)) = setInts X (X.size / 6) := fun _ => rfl
  simp only [rows_mapf _ (setCel_up _), rows_ren _ (setCel_ren _), rows_ints, vi_up, vi_ren, allI_map, ints_map, List.length_map, hs, hd', hq', Bool.and_true]
  generalize paS k fl p ⟨⟨[]⟩⟩ true = Y
  generalize paB k fl p true = ok
  refine ifK_dec (fun h1 => ⟨(dmR_f (dmC_hd (by omega))).symm, rfl⟩) fun h1 => ifK_dec (fun h2 => ⟨(dmR_f (dmC_hd (by omega))).symm, rfl⟩) fun h2 => ifK_dec (fun h3 => ⟨(dmR_f (dmC_hd (by omega))).symm, rfl⟩) fun h3 => ifK_dec (fun h4 => ⟨(dmR_f (dmC_hd (by omega))).symm, rfl⟩) fun h4 => ifK_dec (fun h5 => ⟨(dmR_f (dmC_hd (by omega))).symm, rfl⟩) fun h5 => ifK_dec (fun h6 => ⟨(dmR_f (dmC_hd (by omega))).symm, rfl⟩) fun h6 => ?_
  have hh : hdS k fl st = true := decide_eq_true ⟨by omega, by omega, by omega, by omega, by omega, by omega⟩
  refine ifK_t (decide_eq_true ⟨by omega, by omega⟩) ?_
  refine ifKb (fun ho => ?_) (fun ho => ⟨(dmR_f (by unfold dmC; rw [ho, Bool.false_and, Bool.and_false])).symm, rfl⟩)
  refine ifK_dec (fun h7 => ⟨(dmR_f (by unfold dmC; rw [decide_eq_false (by omega : ¬ Y.size ≤ 16777215), Bool.false_and, Bool.and_false, Bool.and_false])).symm, rfl⟩) fun h7 => ?_
  have hy : decide (Y.size ≤ 16777215) = true := decide_eq_true (by omega)
  have hy2 : sizeOk Y = true := decide_eq_true (by omega)
  have hC : ∀ b, dmC k fl st Y ok b = (!(parO k fl st Y).is && b) := fun b => by unfold dmC; rw [hh, ho, hy]; rfl
  refine ifKb (fun hr => ifK_t hy2 (ifKb (fun hi => ⟨(dmR_f (by rw [hC, hi]; rfl)).symm, rfl⟩) fun hi => ifK_t rfl ?_)) (fun hr => ifK_t hy2 (ifKb (fun hi => ⟨(dmR_f (by rw [hC, hi]; rfl)).symm, rfl⟩) fun hi => ?_))
  · have e : mkN k fl st p Y = (ptEq p (parO k fl st Y).p && decide (Y.size / 6 = 0)) := by unfold mkN; rw [hr]; rfl
    refine ifKb (fun hm => ⟨(dmR_f (by rw [hC, hi, e]; exact notT hm)).symm, rfl⟩) (fun hm => ⟨(dmR_t (by rw [hC, hi, e]; exact notF hm)).symm, rfl⟩)
  · have e : mkN k fl st p Y = ptEq p (parO k fl st Y).p := by unfold mkN; rw [hr]; simp
    refine ifKb (fun hm => ⟨(dmR_f (by rw [hC, hi, e]; exact notT hm)).symm, rfl⟩) (fun hm => ⟨(dmR_t (by rw [hC, hi, e]; exact notF hm)).symm, rfl⟩)
theorem dmSh (k fl st : Int) (p : Pt) (n c : Nat) (xs : List Int) (T : ET) (R : RFun) (hd : p.d.size ≤ 1000000000000) (hq : ptB p) (hn : n * 2 ≤ xs.length) (hn2 : n ≤ 1000000000000) :
    Hd (startA frJ pNoHint 30 20 19 1 73 [] R dmB ([vi k, vi fl, vi st, ptV p (slo 0 0 n c)] ++ List.replicate 69 undef) (roH1w (xs.map vi) T) (endGK frJ [.cell 8 23, .tmp 9] 1 [[]] (fun v H => v = dmR k fl st (paS k fl p ⟨⟨encX n xs⟩⟩ (setFit n xs)) (paB k fl p (setFit n xs)) (mkS k fl st p (paS k fl p ⟨⟨encX n xs⟩⟩ (setFit n xs)) n xs) ∧ H = roH1w (xs.map vi) T))) := by
  constructor
  rw [dmS]
  have hd' : decide (p.d.size ≤ 1000000000000) = true := decide_eq_true hd
  have hq' : decide (p.code < 9223372036854775808 ∧ p.last < 9223372036854775808 ∧ p.more < 9223372036854775808) = true := decide_eq_true hq
  have hn3 : n ≤ 4611686018427387904 := by omega
  have hs : ∀ X : ByteArray, List.flatMap (fun p => [p.fst, p.snd]) (setRow X (X.size / 6)) = setInts X (X.size / 6) := fun _ => rfl
  have hl : ∀ X : ByteArray, decide (X.size / 6 * 2 ≤ (setInts X (X.size / 6)).length) = true := fun X => decide_eq_true (by rw [setInts_len]; exact Nat.le_refl _)
  simp only [rows_mapf _ (setCel_up _), rows_ren _ (setCel_ren _), rows_ints, vi_up, vi_ren, allI_map, ints_map, List.length_map, hs, hl, hd', hq', decide_eq_true hn, decide_eq_true hn2, decide_eq_true hn3, Bool.and_true, Bool.true_and]
  generalize paS k fl p ⟨⟨encX n xs⟩⟩ (setFit n xs) = Y
  generalize paB k fl p (setFit n xs) = ok
  refine ifK_dec (fun h1 => ⟨(dmR_f (dmC_hd (by omega))).symm, rfl⟩) fun h1 => ifK_dec (fun h2 => ⟨(dmR_f (dmC_hd (by omega))).symm, rfl⟩) fun h2 => ifK_dec (fun h3 => ⟨(dmR_f (dmC_hd (by omega))).symm, rfl⟩) fun h3 => ifK_dec (fun h4 => ⟨(dmR_f (dmC_hd (by omega))).symm, rfl⟩) fun h4 => ifK_dec (fun h5 => ⟨(dmR_f (dmC_hd (by omega))).symm, rfl⟩) fun h5 => ifK_dec (fun h6 => ⟨(dmR_f (dmC_hd (by omega))).symm, rfl⟩) fun h6 => ?_
  have hh : hdS k fl st = true := decide_eq_true ⟨by omega, by omega, by omega, by omega, by omega, by omega⟩
  refine ifK_t (decide_eq_true ⟨by omega, by omega⟩) ?_
  refine ifKb (fun ho => ?_) (fun ho => ⟨(dmR_f (by unfold dmC; rw [ho, Bool.false_and, Bool.and_false])).symm, rfl⟩)
  refine ifK_dec (fun h7 => ⟨(dmR_f (by unfold dmC; rw [decide_eq_false (by omega : ¬ Y.size ≤ 16777215), Bool.false_and, Bool.and_false, Bool.and_false])).symm, rfl⟩) fun h7 => ?_
  have hy : decide (Y.size ≤ 16777215) = true := decide_eq_true (by omega)
  have hy2 : sizeOk Y = true := decide_eq_true (by omega)
  have hC : ∀ b, dmC k fl st Y ok b = (!(parO k fl st Y).is && b) := fun b => by unfold dmC; rw [hh, ho, hy]; rfl
  refine ifKb (fun hr => ifK_t hy2 (ifKb (fun hi => ⟨(dmR_f (by rw [hC, hi]; rfl)).symm, rfl⟩) fun hi => ifK_t rfl ?_)) (fun hr => ifK_t hy2 (ifKb (fun hi => ⟨(dmR_f (by rw [hC, hi]; rfl)).symm, rfl⟩) fun hi => ifK_t rfl ?_))
  · have e : mkS k fl st p Y n xs = (ptEq p (parO k fl st Y).p && (decide (n = Y.size / 6) && decide (xs.take (n * 2) = (setInts Y (Y.size / 6)).take (n * 2)))) := by unfold mkS; rw [if_pos hr]
    refine ifKb (fun hm => ⟨(dmR_f (by rw [hC, hi, e]; exact notT hm)).symm, rfl⟩) (fun hm => ⟨(dmR_t (by rw [hC, hi, e]; exact notF hm)).symm, rfl⟩)
  · have e : mkS k fl st p Y n xs = (ptEq p (parO k fl st Y).p && decide (n = 0)) := by unfold mkS; rw [if_neg (by rw [hr]; decide)]
    refine ifKb (fun hm => ⟨(dmR_f (by rw [hC, hi, e]; exact notT hm)).symm, rfl⟩) (fun hm => ⟨(dmR_t (by rw [hC, hi, e]; exact notF hm)).symm, rfl⟩)
theorem dmSp_get {k fl st : Int} {x : ByteArray} {ok b c : Bool} {v : Value} {os : List AObj} (h : (dmSp k fl st x ok b c).get = some (true, v, os)) : c = true ∧ v = dmR k fl st x ok b ∧ os = [] := by
  unfold dmSp at h
  simp only [SpR.get] at h
  unfold dmR
  cases hb : dmC k fl st x ok b with
  | true => simp only [hb] at h; simp at h; exact ⟨h.1, by rw [if_pos rfl]; exact h.2.1.symm, h.2.2⟩
  | false => simp only [hb] at h; simp at h; exact ⟨h.1, by rw [if_neg (by decide)]; exact h.2.1.symm, h.2.2⟩
theorem body19 : Try.f19.body = some (bodyOf Try.prog 19) := by kernel_rfl
theorem nt19 : Try.f19.ntmps = 73 := by kernel_rfl
theorem rs19 : Try.f19.results.toList = [.cell 8 23, .tmp 9] := by kernel_rfl
theorem dr19 : allDraw (frJ.ok 19) (bodyOf Try.prog 19) = true := by kernel_rfl
theorem dm_ok : BSumOk frJ.P 19 (roS mkFoot dmSpec) := by
  refine sumOk_ro Try.func19 (by kernel_rfl) (by decide) ?_
  rintro args HL v os ⟨H0, args0, d, hd, hargs, rfl⟩ hs ρ w cargs hR hno ha
  unfold dmSpec at hs
  split at hs
  case h_2 => cases hs
  rename_i k fl sm s pad code last weight only more st
  have hsz : (roH (agc d H0)).size = d.length := agc_size d H0
  have ha' : LRel ρ [vi k, vi fl, vi sm, ptV ⟨s, pad, code, last, weight, only, more⟩ st] cargs.toList := ha
  generalize hp : (⟨s, pad, code, last, weight, only, more⟩ : Pt) = p at *
  have hpd : p.d = s := by rw [← hp]
  split at hs
  · rename_i hz
    have hd0 : d = [] := List.eq_nil_of_length_eq_zero (by omega)
    subst hd0
    obtain ⟨hc, rfl, rfl⟩ := dmSp_get hs
    simp only [Bool.and_eq_true, decide_eq_true_eq] at hc
    rw [← hpd] at hc
    have hq : ptB p := by rw [← hp]; exact hc.2
    refine (calls_cutsG fjT fjF fjS fjM pNoHint (f := 19) (k := 30) (n := 20) Try.func19 body19 nt19 rs19 dr19 (cuts := []) (I := fun _ _ _ _ _ => False) (rts := [[]]) hR ha' (dmNh k fl sm p _ hc.1 hq) trivial).mono ?_
    rintro e w' ⟨v', H', ⟨rfl, rfl⟩, hp⟩
    exact hp
  · rename_i n c hz
    split at hs
    case h_2 => cases hs
    rename_i L T hL
    obtain ⟨a, rfl⟩ : ∃ a, d = [a] := List.length_eq_one_iff.1 (by omega)
    obtain ⟨hc, rfl, rfl⟩ := dmSp_get hs
    simp only [Bool.and_eq_true, decide_eq_true_eq] at hc
    obtain ⟨hJ, hI, hn1, hn2, hx1⟩ := hc
    rw [← hpd] at hI
    have hq : ptB p := by rw [← hp]; exact hx1
    rw [agr1w hL] at hR ⊢
    have hx := ints_eq hJ
    generalize hxs : intsOf L = xs at *
    subst hx
    rw [List.length_map] at hn1
    refine (calls_cutsG fjT fjF fjS fjM pNoHint (f := 19) (k := 30) (n := 20) Try.func19 body19 nt19 rs19 dr19 (cuts := []) (I := fun _ _ _ _ _ => False) (rts := [[]]) hR ha' (dmSh k fl sm p n c xs T _ hI hq hn1 hn2) trivial).mono ?_
    rintro e w' ⟨v', H', ⟨rfl, rfl⟩, hp⟩
    exact hp
  · cases hs
noncomputable def fiSumms : List (Nat × BSumm) := (19, roS mkFoot dmSpec) :: fjSumms
theorem fiSO : BSumsOk Try.prog fiSumms := ⟨dm_ok, fjSO⟩
noncomputable def frI : Env := mkEnvB Try.prog frPlans frExts fun f => look f fiSumms
theorem fiT : frI.TOk := tOkB_of (by kernel_rfl) frX
theorem fiF : frI.FOk frI.ok := fOkB_of (by kernel_rfl)
theorem fiSO2 : frI.SOk := sOkB_of fiSO
theorem fiM : frI.P.follows .mixedOrders = true := by kernel_rfl
end Go.Ev
