/- The document's Clean: what its ways come to; no condition. -/
import Derived.Test.YtmjbfdidhakoaaaDoorPtMh
import Derived.Test.YtmjbfdidhakoaaaDoorPtMd
namespace Go.Ev
open Go Go.Proofs Go.RowKit
set_option linter.unusedVariables false
set_option maxRecDepth 100000
set_option maxHeartbeats 4000000
noncomputable def ptgSumms : List (Nat × BSumm) := (22, roS rjFoot rjSpec) :: (11, newS rpSpec) :: (13, newS esSpec) :: pteSumms
theorem ptgSO : BSumsOk Tryd.prog ptgSumms := ⟨rj_ok, rp_ok, re_ok, pteSO⟩
noncomputable def ptG : Env := mkEnvB Tryd.prog ptPlans ptExts fun f => look f ptgSumms
theorem pgT : ptG.TOk := tOkB_of (by kernel_rfl) ptX
theorem pgF : ptG.FOk ptG.ok := fOkB_of (by kernel_rfl)
theorem pgO : ptG.SOk := sOkB_of ptgSO
theorem pgM : ptG.P.follows .mixedOrders = true := by kernel_rfl
noncomputable abbrev rcB : Code := bodyOf Tryd.prog 9
def rcHint : FuncId → Tmp → Option Hint := fun f t => (look f [(9, [(61, Hint.str), (74, Hint.str), (80, Hint.str), (87, Hint.str), (95, Hint.str)])]).bind (look t)
def rcP1 : List Bool := [true, true, false, false]
def rcP2 : List Bool := [true, true, true, true, true, true, true, true, true, true, false, true, false]
def rcCuts : Cuts := [(rcP1, [⟨0, [0,5], [], false⟩]), (rcP2, [⟨2, [6,9,10,11], [(9,[]),(10,[])], false⟩, ⟨1, [6,9,10,11], [(9,[])], false⟩])]
theorem rcS (s : ByteArray) (R : RFun) (Q : Value → AHeap → Prop) :
   startA ptG rcHint 30 20 9 0 118 rcCuts R rcB ([.string s] ++ List.replicate 117 undef) AHeap.empty (endGK ptG [.tmp 2, .tmp 3, .tmp 4] 0 [[]] Q)
   = (R 0 none [] [Value.string s, Value.int IntKind.i64 (0 : Int)] { size := 0, tr := Tr.nil }) := by kernel_rfl
theorem rc0 (s : ByteArray) (m : Nat) (i : Int) (R : RFun) (Q : Value → AHeap → Prop) :
   segA ptG rcHint 30 20 9 0 118 rcCuts R rcB rcP1 [] m [0,5] [.string s, vi i] AHeap.empty (endGK ptG [.tmp 2, .tmp 3, .tmp 4] 0 [[]] Q)
   = (ifK (decide (i < (↑(ByteArray.size s) : Int))) (ifK (decide ((0 : Int) ≤ i ∧ i < (↑(ByteArray.size s) : Int))) (ifK (!decide (byteAt s i = (63 : Int))) (R 0 (some m) [] [Value.string s, Value.int IntKind.i64 (IntKind.wrap IntKind.i64 (i + (1 : Int)))] { size := 0, tr := Tr.nil }) (ifK (decide (i < (↑(ByteArray.size s) : Int))) (ifK (decide ((0 : Int) ≤ IntKind.wrap IntKind.i64 (i + (1 : Int)) ∧ IntKind.wrap IntKind.i64 (i + (1 : Int)) ≤ (↑(ByteArray.size s) : Int) ∧ (↑(ByteArray.size s) : Int) ≤ (↑(ByteArray.size s) : Int))) (ifK (decide (i = (0 : Int))) (Q (Value.tuple { toList := [Value.string (⟨#[]⟩ : ByteArray), Value.string (⟨#[]⟩ : ByteArray), Value.int IntKind.i64 (1 : Int)] }) { size := 0, tr := Tr.nil }) (ifK (decide ((0 : Int) ≤ (0 : Int) ∧ (0 : Int) < (↑(ByteArray.size s) : Int))) (ifK (!decide (byteAt s (0 : Int) = (47 : Int))) (Q (Value.tuple { toList := [Value.string (⟨#[]⟩ : ByteArray), Value.string (⟨#[]⟩ : ByteArray), Value.int IntKind.i64 (1 : Int)] }) { size := 0, tr := Tr.nil }) (ifK (decide ((0 : Int) ≤ (0 : Int) ∧ (0 : Int) ≤ i ∧ i ≤ (↑(ByteArray.size s) : Int))) (ifK (unOk (ByteArray.extract s (Int.toNat (0 : Int)) (Int.toNat i))) (ifK (decide (ByteArray.size (ByteArray.extract s (Int.toNat (0 : Int)) (Int.toNat i)) ≤ 1000000000000)) (ifK (decide (ByteArray.size (unO (ByteArray.extract s (Int.toNat (0 : Int)) (Int.toNat i))) ≤ 1000000000000)) (R 1 none [] [Value.string (ByteArray.extract s (Int.toNat (IntKind.wrap IntKind.i64 (i + (1 : Int)))) (Int.toNat (↑(ByteArray.size s) : Int))), Value.slice (some { block := 0, off := 0 }) (List.length (pieces (unO (ByteArray.extract s (Int.toNat (0 : Int)) (Int.toNat i))) (47 : UInt8))) (List.length (pieces (unO (ByteArray.extract s (Int.toNat (0 : Int)) (Int.toNat i))) (47 : UInt8))), Value.slice none 0 0, Value.int IntKind.i64 (0 : Int)] { size := 1, tr := Tr.node (some (AObj.cells (List.map (renV [0]) (List.map (upV [0]) (List.map Value.string (pieces (unO (ByteArray.extract s (Int.toNat (0 : Int)) (Int.toNat i))) (47 : UInt8))))) (⟨1, some 9, true⟩ : ET) St.live [])) Tr.nil Tr.nil }) False) False) (ifK (decide (ByteArray.size (ByteArray.extract s (Int.toNat (0 : Int)) (Int.toNat i)) ≤ 1000000000000)) (Q (Value.tuple { toList := [Value.string (⟨#[]⟩ : ByteArray), Value.string (⟨#[]⟩ : ByteArray), Value.int IntKind.i64 (170 : Int)] }) { size := 0, tr := Tr.nil }) False)) False)) False)) False) (ifK (decide (i = (0 : Int))) (Q (Value.tuple { toList := [Value.string (⟨#[]⟩ : ByteArray), Value.string (⟨#[]⟩ : ByteArray), Value.int IntKind.i64 (1 : Int)] }) { size := 0, tr := Tr.nil }) (ifK (decide ((0 : Int) ≤ (0 : Int) ∧ (0 : Int) < (↑(ByteArray.size s) : Int))) (ifK (!decide (byteAt s (0 : Int) = (47 : Int))) (Q (Value.tuple { toList := [Value.string (⟨#[]⟩ : ByteArray), Value.string (⟨#[]⟩ : ByteArray), Value.int IntKind.i64 (1 : Int)] }) { size := 0, tr := Tr.nil }) (ifK (decide ((0 : Int) ≤ (0 : Int) ∧ (0 : Int) ≤ i ∧ i ≤ (↑(ByteArray.size s) : Int))) (ifK (unOk (ByteArray.extract s (Int.toNat (0 : Int)) (Int.toNat i))) (ifK (decide (ByteArray.size (ByteArray.extract s (Int.toNat (0 : Int)) (Int.toNat i)) ≤ 1000000000000)) (ifK (decide (ByteArray.size (unO (ByteArray.extract s (Int.toNat (0 : Int)) (Int.toNat i))) ≤ 1000000000000)) (R 1 none [] [Value.string (⟨#[]⟩ : ByteArray), Value.slice (some { block := 0, off := 0 }) (List.length (pieces (unO (ByteArray.extract s (Int.toNat (0 : Int)) (Int.toNat i))) (47 : UInt8))) (List.length (pieces (unO (ByteArray.extract s (Int.toNat (0 : Int)) (Int.toNat i))) (47 : UInt8))), Value.slice none 0 0, Value.int IntKind.i64 (0 : Int)] { size := 1, tr := Tr.node (some (AObj.cells (List.map (renV [0]) (List.map (upV [0]) (List.map Value.string (pieces (unO (ByteArray.extract s (Int.toNat (0 : Int)) (Int.toNat i))) (47 : UInt8))))) (⟨1, some 9, true⟩ : ET) St.live [])) Tr.nil Tr.nil }) False) False) (ifK (decide (ByteArray.size (ByteArray.extract s (Int.toNat (0 : Int)) (Int.toNat i)) ≤ 1000000000000)) (Q (Value.tuple { toList := [Value.string (⟨#[]⟩ : ByteArray), Value.string (⟨#[]⟩ : ByteArray), Value.int IntKind.i64 (170 : Int)] }) { size := 0, tr := Tr.nil }) False)) False)) False)))) False) (ifK (decide (i < (↑(ByteArray.size s) : Int))) (ifK (decide ((0 : Int) ≤ IntKind.wrap IntKind.i64 (i + (1 : Int)) ∧ IntKind.wrap IntKind.i64 (i + (1 : Int)) ≤ (↑(ByteArray.size s) : Int) ∧ (↑(ByteArray.size s) : Int) ≤ (↑(ByteArray.size s) : Int))) (ifK (decide (i = (0 : Int))) (Q (Value.tuple { toList := [Value.string (⟨#[]⟩ : ByteArray), Value.string (⟨#[]⟩ : ByteArray), Value.int IntKind.i64 (1 : Int)] }) { size := 0, tr := Tr.nil }) (ifK (decide ((0 : Int) ≤ (0 : Int) ∧ (0 : Int) < (↑(ByteArray.size s) : Int))) (ifK (!decide (byteAt s (0 : Int) = (47 : Int))) (Q (Value.tuple { toList := [Value.string (⟨#[]⟩ : ByteArray), Value.string (⟨#[]⟩ : ByteArray), Value.int IntKind.i64 (1 : Int)] }) { size := 0, tr := Tr.nil }) (ifK (decide ((0 : Int) ≤ (0 : Int) ∧ (0 : Int) ≤ i ∧ i ≤ (↑(ByteArray.size s) : Int))) (ifK (unOk (ByteArray.extract s (Int.toNat (0 : Int)) (Int.toNat i))) (ifK (decide (ByteArray.size (ByteArray.extract s (Int.toNat (0 : Int)) (Int.toNat i)) ≤ 1000000000000)) (ifK (decide (ByteArray.size (unO (ByteArray.extract s (Int.toNat (0 : Int)) (Int.toNat i))) ≤ 1000000000000)) (R 1 none [] [Value.string (ByteArray.extract s (Int.toNat (IntKind.wrap IntKind.i64 (i + (1 : Int)))) (Int.toNat (↑(ByteArray.size s) : Int))), Value.slice (some { block := 0, off := 0 }) (List.length (pieces (unO (ByteArray.extract s (Int.toNat (0 : Int)) (Int.toNat i))) (47 : UInt8))) (List.length (pieces (unO (ByteArray.extract s (Int.toNat (0 : Int)) (Int.toNat i))) (47 : UInt8))), Value.slice none 0 0, Value.int IntKind.i64 (0 : Int)] { size := 1, tr := Tr.node (some (AObj.cells (List.map (renV [0]) (List.map (upV [0]) (List.map Value.string (pieces (unO (ByteArray.extract s (Int.toNat (0 : Int)) (Int.toNat i))) (47 : UInt8))))) (⟨1, some 9, true⟩ : ET) St.live [])) Tr.nil Tr.nil }) False) False) (ifK (decide (ByteArray.size (ByteArray.extract s (Int.toNat (0 : Int)) (Int.toNat i)) ≤ 1000000000000)) (Q (Value.tuple { toList := [Value.string (⟨#[]⟩ : ByteArray), Value.string (⟨#[]⟩ : ByteArray), Value.int IntKind.i64 (170 : Int)] }) { size := 0, tr := Tr.nil }) False)) False)) False)) False) (ifK (decide (i = (0 : Int))) (Q (Value.tuple { toList := [Value.string (⟨#[]⟩ : ByteArray), Value.string (⟨#[]⟩ : ByteArray), Value.int IntKind.i64 (1 : Int)] }) { size := 0, tr := Tr.nil }) (ifK (decide ((0 : Int) ≤ (0 : Int) ∧ (0 : Int) < (↑(ByteArray.size s) : Int))) (ifK (!decide (byteAt s (0 : Int) = (47 : Int))) (Q (Value.tuple { toList := [Value.string (⟨#[]⟩ : ByteArray), Value.string (⟨#[]⟩ : ByteArray), Value.int IntKind.i64 (1 : Int)] }) { size := 0, tr := Tr.nil }) (ifK (decide ((0 : Int) ≤ (0 : Int) ∧ (0 : Int) ≤ i ∧ i ≤ (↑(ByteArray.size s) : Int))) (ifK (unOk (ByteArray.extract s (Int.toNat (0 : Int)) (Int.toNat i))) (ifK (decide (ByteArray.size (ByteArray.extract s (Int.toNat (0 : Int)) (Int.toNat i)) ≤ 1000000000000)) (ifK (decide (ByteArray.size (unO (ByteArray.extract s (Int.toNat (0 : Int)) (Int.toNat i))) ≤ 1000000000000)) (R 1 none [] [Value.string (⟨#[]⟩ : ByteArray), Value.slice (some { block := 0, off := 0 }) (List.length (pieces (unO (ByteArray.extract s (Int.toNat (0 : Int)) (Int.toNat i))) (47 : UInt8))) (List.length (pieces (unO (ByteArray.extract s (Int.toNat (0 : Int)) (Int.toNat i))) (47 : UInt8))), Value.slice none 0 0, Value.int IntKind.i64 (0 : Int)] { size := 1, tr := Tr.node (some (AObj.cells (List.map (renV [0]) (List.map (upV [0]) (List.map Value.string (pieces (unO (ByteArray.extract s (Int.toNat (0 : Int)) (Int.toNat i))) (47 : UInt8))))) (⟨1, some 9, true⟩ : ET) St.live [])) Tr.nil Tr.nil }) False) False) (ifK (decide (ByteArray.size (ByteArray.extract s (Int.toNat (0 : Int)) (Int.toNat i)) ≤ 1000000000000)) (Q (Value.tuple { toList := [Value.string (⟨#[]⟩ : ByteArray), Value.string (⟨#[]⟩ : ByteArray), Value.int IntKind.i64 (170 : Int)] }) { size := 0, tr := Tr.nil }) False)) False)) False)))) := by kernel_rfl
theorem rc1 (q : ByteArray) (m n : Nat) (i : Int) (P : List Value) (R : RFun) (Q : Value → AHeap → Prop) :
   segA ptG rcHint 30 20 9 0 118 rcCuts R rcB rcP2 [] m [6,9,10,11] [.string q, slb 0 n, nl, vi i] (cH0 P) (endGK ptG [.tmp 2, .tmp 3, .tmp 4] 0 [[]] Q)
   = (ifK (decide (i < (↑n : Int))) (ifK (decide ((0 : Int) ≤ i ∧ i < (↑n : Int))) (∃ s, LoadIs ptG 9 (Value.pointer (some { block := 0, off := 0 + Int.toNat i * 1 })) { size := 1, tr := Tr.node (some (AObj.cells P (⟨1, some (nat_lit 9), true⟩ : ET) St.live [])) Tr.nil Tr.nil } (Value.string s) ∧ ifK (seq s (⟨#[(46 : UInt8), (46 : UInt8)]⟩ : ByteArray)) (Q (Value.tuple { toList := [Value.string (⟨#[]⟩ : ByteArray), Value.string (⟨#[]⟩ : ByteArray), Value.int IntKind.i64 (171 : Int)] }) { size := 0, tr := Tr.nil }) (ifK (decide ((0 : Int) ≤ i ∧ i < (↑n : Int))) (∃ s, LoadIs ptG 9 (Value.pointer (some { block := 0, off := 0 + Int.toNat i * 1 })) { size := 1, tr := Tr.node (some (AObj.cells P (⟨1, some (nat_lit 9), true⟩ : ET) St.live [])) Tr.nil Tr.nil } (Value.string s) ∧ ifK (!seq s (⟨#[]⟩ : ByteArray)) (ifK (decide ((0 : Int) ≤ i ∧ i < (↑n : Int))) (∃ s, LoadIs ptG 9 (Value.pointer (some { block := 0, off := 0 + Int.toNat i * 1 })) { size := 1, tr := Tr.node (some (AObj.cells P (⟨1, some (nat_lit 9), true⟩ : ET) St.live [])) Tr.nil Tr.nil } (Value.string s) ∧ ifK (!seq s (⟨#[(46 : UInt8)]⟩ : ByteArray)) (ifK (decide ((0 : Int) ≤ i ∧ i < (↑n : Int))) (∃ s, LoadIs ptG 9 (Value.pointer (some { block := 0, off := 0 + Int.toNat i * 1 })) { size := 1, tr := Tr.node (some (AObj.cells P (⟨1, some (nat_lit 9), true⟩ : ET) St.live [])) Tr.nil Tr.nil } (Value.string s) ∧ R 2 (some m) [] [Value.string q, Value.slice (some { block := 0, off := 0 }) n n, Value.slice (some { block := 1, off := 0 }) 1 1, Value.int IntKind.i64 (IntKind.wrap IntKind.i64 (i + (1 : Int)))] { size := 2, tr := Tr.node (some (AObj.cells (List.map (renV [0, 2]) P) (⟨1, some (nat_lit 9), true⟩ : ET) St.live [])) (Tr.node (some (AObj.cells [Value.string s] (⟨1, some 9, true⟩ : ET) St.live [])) Tr.nil Tr.nil) Tr.nil }) False) (R 1 (some m) [] [Value.string q, Value.slice (some { block := 0, off := 0 }) n n, Value.slice none 0 0, Value.int IntKind.i64 (IntKind.wrap IntKind.i64 (i + (1 : Int)))] { size := 1, tr := Tr.node (some (AObj.cells (List.map (renV [0]) P) (⟨1, some (nat_lit 9), true⟩ : ET) St.live [])) Tr.nil Tr.nil })) False) (R 1 (some m) [] [Value.string q, Value.slice (some { block := 0, off := 0 }) n n, Value.slice none 0 0, Value.int IntKind.i64 (IntKind.wrap IntKind.i64 (i + (1 : Int)))] { size := 1, tr := Tr.node (some (AObj.cells (List.map (renV [0]) P) (⟨1, some (nat_lit 9), true⟩ : ET) St.live [])) Tr.nil Tr.nil })) False)) False) (ifK (decide ((0 : Int) ≤ IntKind.wrap IntKind.i64 ((↑n : Int) - (1 : Int)) ∧ IntKind.wrap IntKind.i64 ((↑n : Int) - (1 : Int)) < (↑n : Int))) (∃ s, LoadIs ptG 9 (Value.pointer (some { block := 0, off := 0 + Int.toNat (IntKind.wrap IntKind.i64 ((↑n : Int) - (1 : Int))) * 1 })) { size := 1, tr := Tr.node (some (AObj.cells P (⟨1, some (nat_lit 9), true⟩ : ET) St.live [])) Tr.nil Tr.nil } (Value.string s) ∧ Q (Value.tuple { toList := [Value.string ((⟨#[(47 : UInt8)]⟩ : ByteArray) ++ (⟨#[]⟩ : ByteArray)), Value.string q, Value.int IntKind.i64 (0 : Int)] }) { size := 0, tr := Tr.nil }) False)) := by kernel_rfl
theorem rc2 (q : ByteArray) (m n k c : Nat) (i : Int) (P K : List Value) (R : RFun) (Q : Value → AHeap → Prop) :
   segA ptG rcHint 30 20 9 0 118 rcCuts R rcB rcP2 [] m [6,9,10,11] [.string q, slb 0 n, .slice (some ⟨1, 0, none⟩) k c, vi i] (cH1 P K) (endGK ptG [.tmp 2, .tmp 3, .tmp 4] 0 [[]] Q)
   = (ifK (decide (i < (↑n : Int))) (ifK (decide ((0 : Int) ≤ i ∧ i < (↑n : Int))) (∃ s, LoadIs ptG 9 (Value.pointer (some { block := 0, off := 0 + Int.toNat i * 1 })) { size := 2, tr := Tr.node (some (AObj.cells P (⟨1, some (nat_lit 9), true⟩ : ET) St.live [])) (Tr.node (some (AObj.cells K (⟨1, some (nat_lit 9), true⟩ : ET) St.live [])) Tr.nil Tr.nil) Tr.nil } (Value.string s) ∧ ifK (seq s (⟨#[(46 : UInt8), (46 : UInt8)]⟩ : ByteArray)) (ifK (decide ((↑k : Int) = (0 : Int))) (Q (Value.tuple { toList := [Value.string (⟨#[]⟩ : ByteArray), Value.string (⟨#[]⟩ : ByteArray), Value.int IntKind.i64 (171 : Int)] }) { size := 0, tr := Tr.nil }) (ifK (decide ((0 : Int) ≤ (0 : Int) ∧ (0 : Int) ≤ IntKind.wrap IntKind.i64 ((↑k : Int) - (1 : Int)) ∧ IntKind.wrap IntKind.i64 ((↑k : Int) - (1 : Int)) ≤ (↑c : Int))) (R 2 (some m) [] [Value.string q, Value.slice (some { block := 0, off := 0 }) n n, Value.slice (some { block := 1, off := 0 }) (Int.toNat (IntKind.wrap IntKind.i64 ((↑k : Int) - (1 : Int))) - Int.toNat (0 : Int)) (c - Int.toNat (0 : Int)), Value.int IntKind.i64 (IntKind.wrap IntKind.i64 (i + (1 : Int)))] { size := 2, tr := Tr.node (some (AObj.cells (List.map (renV [0, 1]) P) (⟨1, some (nat_lit 9), true⟩ : ET) St.live [])) (Tr.node (some (AObj.cells (List.map (renV [0, 1]) K) (⟨1, some (nat_lit 9), true⟩ : ET) St.live [])) Tr.nil Tr.nil) Tr.nil }) False)) (ifK (decide ((0 : Int) ≤ i ∧ i < (↑n : Int))) (∃ s_1, LoadIs ptG 9 (Value.pointer (some { block := 0, off := 0 + Int.toNat i * 1 })) { size := 2, tr := Tr.node (some (AObj.cells P (⟨1, some (nat_lit 9), true⟩ : ET) St.live [])) (Tr.node (some (AObj.cells K (⟨1, some (nat_lit 9), true⟩ : ET) St.live [])) Tr.nil Tr.nil) Tr.nil } (Value.string s_1) ∧ ifK (!seq s_1 (⟨#[]⟩ : ByteArray)) (ifK (decide ((0 : Int) ≤ i ∧ i < (↑n : Int))) (∃ s_2, LoadIs ptG 9 (Value.pointer (some { block := 0, off := 0 + Int.toNat i * 1 })) { size := 2, tr := Tr.node (some (AObj.cells P (⟨1, some (nat_lit 9), true⟩ : ET) St.live [])) (Tr.node (some (AObj.cells K (⟨1, some (nat_lit 9), true⟩ : ET) St.live [])) Tr.nil Tr.nil) Tr.nil } (Value.string s_2) ∧ ifK (!seq s_2 (⟨#[(46 : UInt8)]⟩ : ByteArray)) (ifK (decide ((0 : Int) ≤ i ∧ i < (↑n : Int))) (∃ s_3, LoadIs ptG 9 (Value.pointer (some { block := 0, off := 0 + Int.toNat i * 1 })) { size := 2, tr := Tr.node (some (AObj.cells P (⟨1, some (nat_lit 9), true⟩ : ET) St.live [])) (Tr.node (some (AObj.cells K (⟨1, some (nat_lit 9), true⟩ : ET) St.live [])) Tr.nil Tr.nil) Tr.nil } (Value.string s_3) ∧ ifK (k == c) (ifK (decide (0 + c * 1 = List.length K ∧ k ≤ c ∧ (k + 1) * 16 ≤ 140737488355328 ∧ k + 1 < 4611686018427387904)) (R 2 (some m) [] [Value.string q, Value.slice (some { block := 0, off := 0 }) n n, Value.slice (some { block := 1, off := 0 }) (k + 1) (k + 1), Value.int IntKind.i64 (IntKind.wrap IntKind.i64 (i + (1 : Int)))] { size := 2, tr := Tr.node (some (AObj.cells (List.map (renV [0, 3]) P) (⟨1, some 9, true⟩ : ET) St.live [])) (Tr.node (some (AObj.cells (List.map (renV [0, 3]) (List.take (k * 1) (List.drop 0 K) ++ [Value.string s_3])) (⟨1, some 9, true⟩ : ET) St.live [])) Tr.nil Tr.nil) Tr.nil }) False) (ifK (decide (k + 1 ≤ c)) (ifK (decide (0 + k * 1 + List.length [Value.string s_3] ≤ List.length K)) (R 2 (some m) [] [Value.string q, Value.slice (some { block := 0, off := 0 }) n n, Value.slice (some { block := 1, off := 0 }) (k + 1) c, Value.int IntKind.i64 (IntKind.wrap IntKind.i64 (i + (1 : Int)))] { size := 2, tr := Tr.node (some (AObj.cells (List.map (renV [0, 1]) P) (⟨1, some 9, true⟩ : ET) St.live [])) (Tr.node (some (AObj.cells (List.map (renV [0, 1]) (splice K (0 + k * 1) [Value.string s_3])) (⟨1, some 9, true⟩ : ET) St.live [])) Tr.nil Tr.nil) Tr.nil }) False) (ifK (decide (0 + c * 1 = List.length K ∧ k ≤ c ∧ (k + 1) * 16 ≤ 140737488355328 ∧ k + 1 < 4611686018427387904)) (R 2 (some m) [] [Value.string q, Value.slice (some { block := 0, off := 0 }) n n, Value.slice (some { block := 1, off := 0 }) (k + 1) (k + 1), Value.int IntKind.i64 (IntKind.wrap IntKind.i64 (i + (1 : Int)))] { size := 2, tr := Tr.node (some (AObj.cells (List.map (renV [0, 3]) P) (⟨1, some 9, true⟩ : ET) St.live [])) (Tr.node (some (AObj.cells (List.map (renV [0, 3]) (List.take (k * 1) (List.drop 0 K) ++ [Value.string s_3])) (⟨1, some 9, true⟩ : ET) St.live [])) Tr.nil Tr.nil) Tr.nil }) False))) False) (R 2 (some m) [] [Value.string q, Value.slice (some { block := 0, off := 0 }) n n, Value.slice (some { block := 1, off := 0 }) k c, Value.int IntKind.i64 (IntKind.wrap IntKind.i64 (i + (1 : Int)))] { size := 2, tr := Tr.node (some (AObj.cells (List.map (renV [0, 1]) P) (⟨1, some (nat_lit 9), true⟩ : ET) St.live [])) (Tr.node (some (AObj.cells (List.map (renV [0, 1]) K) (⟨1, some (nat_lit 9), true⟩ : ET) St.live [])) Tr.nil Tr.nil) Tr.nil })) False) (R 2 (some m) [] [Value.string q, Value.slice (some { block := 0, off := 0 }) n n, Value.slice (some { block := 1, off := 0 }) k c, Value.int IntKind.i64 (IntKind.wrap IntKind.i64 (i + (1 : Int)))] { size := 2, tr := Tr.node (some (AObj.cells (List.map (renV [0, 1]) P) (⟨1, some (nat_lit 9), true⟩ : ET) St.live [])) (Tr.node (some (AObj.cells (List.map (renV [0, 1]) K) (⟨1, some (nat_lit 9), true⟩ : ET) St.live [])) Tr.nil Tr.nil) Tr.nil })) False)) False) (ifK (decide ((0 : Int) ≤ IntKind.wrap IntKind.i64 ((↑n : Int) - (1 : Int)) ∧ IntKind.wrap IntKind.i64 ((↑n : Int) - (1 : Int)) < (↑n : Int))) (∃ s, LoadIs ptG 9 (Value.pointer (some { block := 0, off := 0 + Int.toNat (IntKind.wrap IntKind.i64 ((↑n : Int) - (1 : Int))) * 1 })) { size := 2, tr := Tr.node (some (AObj.cells P (⟨1, some (nat_lit 9), true⟩ : ET) St.live [])) (Tr.node (some (AObj.cells K (⟨1, some (nat_lit 9), true⟩ : ET) St.live [])) Tr.nil Tr.nil) Tr.nil } (Value.string s) ∧ ifK (allS (List.map (renV [1]) K) && decide (k ≤ List.length (List.map (renV [1]) K) ∧ k ≤ 140737488355328 ∧ ByteArray.size (joinB (List.take k (strsOf (List.map (renV [1]) K))) (⟨#[(47 : UInt8)]⟩ : ByteArray)) ≤ 140737488355328)) (ifK (decide (ByteArray.size (⟨#[(47 : UInt8)]⟩ : ByteArray) + ByteArray.size (joinB (List.take k (strsOf (List.map (renV [1]) K))) (⟨#[(47 : UInt8)]⟩ : ByteArray)) < 9223372036854775808)) (ifK (decide ((0 : Int) < (↑k : Int))) (ifK (seq s (⟨#[]⟩ : ByteArray)) (ifK (decide (ByteArray.size ((⟨#[(47 : UInt8)]⟩ : ByteArray) ++ joinB (List.take k (strsOf (List.map (renV [1]) K))) (⟨#[(47 : UInt8)]⟩ : ByteArray)) + ByteArray.size (⟨#[(47 : UInt8)]⟩ : ByteArray) < 9223372036854775808)) (Q (Value.tuple { toList := [Value.string ((⟨#[(47 : UInt8)]⟩ : ByteArray) ++ joinB (List.take k (strsOf (List.map (renV [1]) K))) (⟨#[(47 : UInt8)]⟩ : ByteArray) ++ (⟨#[(47 : UInt8)]⟩ : ByteArray)), Value.string q, Value.int IntKind.i64 (0 : Int)] }) { size := 0, tr := Tr.nil }) False) (ifK (seq s (⟨#[(46 : UInt8)]⟩ : ByteArray)) (ifK (decide (ByteArray.size ((⟨#[(47 : UInt8)]⟩ : ByteArray) ++ joinB (List.take k (strsOf (List.map (renV [1]) K))) (⟨#[(47 : UInt8)]⟩ : ByteArray)) + ByteArray.size (⟨#[(47 : UInt8)]⟩ : ByteArray) < 9223372036854775808)) (Q (Value.tuple { toList := [Value.string ((⟨#[(47 : UInt8)]⟩ : ByteArray) ++ joinB (List.take k (strsOf (List.map (renV [1]) K))) (⟨#[(47 : UInt8)]⟩ : ByteArray) ++ (⟨#[(47 : UInt8)]⟩ : ByteArray)), Value.string q, Value.int IntKind.i64 (0 : Int)] }) { size := 0, tr := Tr.nil }) False) (ifK (seq s (⟨#[(46 : UInt8), (46 : UInt8)]⟩ : ByteArray)) (ifK (decide (ByteArray.size ((⟨#[(47 : UInt8)]⟩ : ByteArray) ++ joinB (List.take k (strsOf (List.map (renV [1]) K))) (⟨#[(47 : UInt8)]⟩ : ByteArray)) + ByteArray.size (⟨#[(47 : UInt8)]⟩ : ByteArray) < 9223372036854775808)) (Q (Value.tuple { toList := [Value.string ((⟨#[(47 : UInt8)]⟩ : ByteArray) ++ joinB (List.take k (strsOf (List.map (renV [1]) K))) (⟨#[(47 : UInt8)]⟩ : ByteArray) ++ (⟨#[(47 : UInt8)]⟩ : ByteArray)), Value.string q, Value.int IntKind.i64 (0 : Int)] }) { size := 0, tr := Tr.nil }) False) (Q (Value.tuple { toList := [Value.string ((⟨#[(47 : UInt8)]⟩ : ByteArray) ++ joinB (List.take k (strsOf (List.map (renV [1]) K))) (⟨#[(47 : UInt8)]⟩ : ByteArray)), Value.string q, Value.int IntKind.i64 (0 : Int)] }) { size := 0, tr := Tr.nil })))) (Q (Value.tuple { toList := [Value.string ((⟨#[(47 : UInt8)]⟩ : ByteArray) ++ joinB (List.take k (strsOf (List.map (renV [1]) K))) (⟨#[(47 : UInt8)]⟩ : ByteArray)), Value.string q, Value.int IntKind.i64 (0 : Int)] }) { size := 0, tr := Tr.nil })) False) False) False)) := by kernel_rfl
end Go.Ev

/- The summary of the document's Clean. -/
namespace Go.Ev
open Go Go.Proofs Go.RowKit
set_option linter.unusedVariables false
set_option linter.unusedSimpArgs false
set_option maxRecDepth 100000
set_option maxHeartbeats 4000000
theorem pgOne9 : (ptG.ty 9).map (fun i => isAggD i.desc) = some false := by kernel_rfl
theorem scan_mid {s : ByteArray} {i : Nat} (hi : i < s.size) (hno : ∀ x ∈ (tL s).take i, x ≠ 63) (h63 : byteAt s (i : Int) = 63) : headC 63 s = s.extract 0 i ∧ tailC 63 s = s.extract (i + 1) s.size := by
  obtain ⟨b, hb, hd⟩ := dropAt hi
  have e : b = 63 := (u8_eq (n := 63) (by decide)).1 (by rw [← hb]; exact h63)
  subst e
  have e2 : tL s = (tL s).take i ++ 63 :: (tL s).drop (i + 1) := by
    rw [show (63 : UInt8) :: (tL s).drop (i + 1) = (tL s).drop i from hd.symm, List.take_append_drop]
  obtain ⟨h3, h4⟩ := tw_app 63 ((tL s).drop (i + 1)) _ hno
  refine ⟨ba_ext ?_, ba_ext ?_⟩
  · show (tL s).takeWhile (· != 63) = tL (s.extract 0 i)
    rw [show tL (s.extract 0 i) = ((tL s).take i).drop 0 from toList_ext s 0 i, List.drop_zero]
    conv => lhs; rw [e2]
    exact h3
  · show ((tL s).dropWhile (· != 63)).drop 1 = tL (s.extract (i + 1) s.size)
    rw [show tL (s.extract (i + 1) s.size) = ((tL s).take s.size).drop (i + 1) from toList_ext s (i + 1) s.size, List.take_of_length_le (by rw [ba_len]; exact Nat.le_refl _)]
    conv => lhs; rw [e2]
    exact h4
theorem scan_end {s : ByteArray} (hno : ∀ x ∈ (tL s).take s.size, x ≠ 63) : headC 63 s = s.extract 0 s.size ∧ tailC 63 s = eB := by
  rw [List.take_of_length_le (by rw [ba_len]; exact Nat.le_refl _)] at hno
  obtain ⟨h1, h2⟩ := tw_all 63 _ hno
  refine ⟨ba_ext ?_, ba_ext h2⟩
  show (tL s).takeWhile (· != 63) = tL (s.extract 0 s.size)
  rw [show tL (s.extract 0 s.size) = ((tL s).take s.size).drop 0 from toList_ext s 0 s.size, List.drop_zero, List.take_of_length_le (by rw [ba_len]; exact Nat.le_refl _)]
  exact h1
theorem hasP_ext {s : ByteArray} {i : Nat} (h0 : 0 < i) (hi : i ≤ s.size) : hasP (s.extract 0 i) = decide (byteAt s 0 = 47) := by
  obtain ⟨b, hb, hd⟩ := dropAt (s := s) (i := 0) (by omega)
  rw [List.drop_zero] at hd
  unfold hasP
  rw [toList_ext, List.drop_zero, hd]
  obtain ⟨j, rfl⟩ : ∃ j, i = j + 1 := ⟨i - 1, by omega⟩
  rw [List.take_succ_cons, List.head?_cons]
  have hb' : byteAt s 0 = b.toNat := hb
  rw [hb']
  by_cases h : b = 47
  · subst h; rfl
  · have : decide ((b.toNat : Int) = 47) = false := decide_eq_false (fun h' => h ((u8_eq (n := 47) (by decide)).1 h'))
    rw [this]
    simpa using h
theorem hasP_none (s : ByteArray) : hasP (s.extract 0 0) = false := by
  unfold hasP
  rw [toList_ext]
  rfl
theorem dd_ne {p : ByteArray} (h : seq p ddB = true) : seq p eB = false ∧ seq p dotB = false := by
  have h1 := (seq_dd p).1 h
  constructor
  · cases hq : seq p eB with
    | false => rfl
    | true => have := (seq_e p).1 hq; rw [h1] at this; cases this
  · cases hq : seq p dotB with
    | false => rfl
    | true => have := (seq_dot p).1 hq; rw [h1] at this; cases this
def dotP (p : ByteArray) : Bool := seq p eB || (seq p dotB || seq p ddB)
def lastF (P : List ByteArray) (i : Nat) (f : Bool) : Prop := ∀ j p, i = j + 1 → P[j]? = some p → f = dotP p
theorem lastF_next {P : List ByteArray} {i : Nat} {p : ByteArray} (h : P[i]? = some p) : lastF P (i + 1) (dotP p) := by
  intro j q hj hq
  have : j = i := by omega
  subst this
  rw [h] at hq
  cases hq
  rfl
abbrev thP (s : ByteArray) : List ByteArray := pieces (unO (headC 63 s)) 47
def rcI (s : ByteArray) (id : Nat) (μ : List Nat) (m : Nat) (vs : List Value) (H : AHeap) : Prop :=
  match id with
  | 0 => ∃ i : Nat, vs = [.string s, vi i] ∧ H = AHeap.empty ∧ i ≤ s.size ∧ (∀ x ∈ (tL s).take i, x ≠ 63) ∧ m = s.size - i
  | 1 => hasP (headC 63 s) = true ∧ unOk (headC 63 s) = true ∧ ∃ (i : Nat) (f : Bool), vs = [.string (tailC 63 s), slb 0 (thP s).length, nl, vi i] ∧ H = cH0 ((thP s).map .string) ∧ i ≤ (thP s).length ∧ clGo ((thP s).drop i) [] f = clGo (thP s) [] false ∧ lastF (thP s) i f ∧ m = (thP s).length - i
  | 2 => hasP (headC 63 s) = true ∧ unOk (headC 63 s) = true ∧ ∃ (i : Nat) (f : Bool) (K G : List ByteArray), vs = [.string (tailC 63 s), slb 0 (thP s).length, .slice (some ⟨1, 0, none⟩) K.length (K ++ G).length, vi i] ∧ H = cH1 ((thP s).map .string) ((K ++ G).map .string) ∧ i ≤ (thP s).length ∧ (K ++ G).length ≤ i ∧
      (∀ x ∈ K, x ∈ thP s) ∧ clGo ((thP s).drop i) K f = clGo (thP s) [] false ∧ lastF (thP s) i f ∧ m = (thP s).length - i
  | _ => False
abbrev rcSeg (s : ByteArray) (p : List Bool) (idx : List Nat) (m : Nat) (vs : List Value) (H : AHeap) : Prop := segA ptG rcHint 30 20 9 0 118 rcCuts (ofI (rcI s)) rcB p [] m idx vs H (endGK ptG [.tmp 2, .tmp 3, .tmp 4] 0 [[]] (CQ s))
theorem rcseg0 {s : ByteArray} (hs : s.size ≤ 8000000) (m : Nat) (vs : List Value) (H : AHeap) (hI : rcI s 0 [] m vs H) : Hd (rcSeg s rcP1 [0,5] m vs H) := by
  obtain ⟨i, rfl, rfl, hi, hno, rfl⟩ := hI
  have hw1 : IntKind.wrap IntKind.i64 ((i : Int) + 1) = ((i + 1 : Nat) : Int) := by rw [wr_i64]; omega
  have q1 := headC_sz 63 s
  have q2 := unO_sz (headC 63 s)
  constructor
  unfold rcSeg
  rw [rc0]
  simp only [hw1, strs_up, strs_ren, Int.toNat_natCast, show Int.toNat (0 : Int) = 0 from rfl]
  have enter : hasP (headC 63 s) = true → unOk (headC 63 s) = true → ofI (rcI s) 1 none [] [.string (tailC 63 s), slb 0 (thP s).length, nl, vi 0] (cH0 ((thP s).map .string)) :=
    fun h1 h2 => ⟨_, trivial, h1, h2, 0, false, rfl, rfl, Nat.zero_le _, by rw [List.drop_zero], fun j p hj => by omega, rfl⟩
  have fin : ∀ (t : ByteArray), headC 63 s = s.extract 0 i → tailC 63 s = t →
      ifK (decide ((i : Int) = 0)) (CQ s (.tuple #[.string eB, .string eB, vi 1]) AHeap.empty)
        (ifK (decide ((0 : Int) ≤ 0 ∧ (0 : Int) < (s.size : Int))) (ifK (!decide (byteAt s 0 = 47)) (CQ s (.tuple #[.string eB, .string eB, vi 1]) AHeap.empty)
          (ifK (decide ((0 : Int) ≤ 0 ∧ (0 : Int) ≤ (i : Int) ∧ (i : Int) ≤ (s.size : Int))) (ifK (unOk (s.extract 0 i)) (ifK (decide ((s.extract 0 i).size ≤ 1000000000000)) (ifK (decide ((unO (s.extract 0 i)).size ≤ 1000000000000))
            (ofI (rcI s) 1 none [] [.string t, slb 0 (pieces (unO (s.extract 0 i)) 47).length, nl, vi 0] (cH0 ((pieces (unO (s.extract 0 i)) 47).map .string))) False) False)
            (ifK (decide ((s.extract 0 i).size ≤ 1000000000000)) (CQ s (.tuple #[.string eB, .string eB, vi 170]) AHeap.empty) False)) False)) False) := by
    intro t e1 e2
    rw [← e1, ← e2]
    refine ifK_dec (fun h0 => ?_) (fun h0 => ?_)
    · refine ⟨(clV_arg ?_).symm, rfl⟩
      rw [e1, show i = 0 by omega]
      exact hasP_none s
    · have hp : hasP (headC 63 s) = decide (byteAt s 0 = 47) := by rw [e1]; exact hasP_ext (by omega) hi
      refine ifK_dec (fun _ => ?_) (fun h' => absurd ⟨by omega, by omega⟩ h')
      refine ifK_nd (fun h47 => ?_) (fun h47 => ⟨(clV_arg (by rw [hp]; exact decide_eq_false h47)).symm, rfl⟩)
      have hp' : hasP (headC 63 s) = true := by rw [hp]; exact decide_eq_true h47
      refine ifK_dec (fun _ => ?_) (fun h' => absurd ⟨by omega, by omega, by omega⟩ h')
      refine ifKb (fun hu => ?_) (fun hu => ?_)
      · refine ifK_dec (fun _ => ?_) (fun h' => absurd (by omega) h')
        refine ifK_dec (fun _ => ?_) (fun h' => absurd (by omega) h')
        exact enter hp' hu
      · refine ifK_dec (fun _ => ?_) (fun h' => absurd (by omega) h')
        exact ⟨(clV_esc hp' hu).symm, rfl⟩
  refine ifK_dec (fun h => ?_) (fun h => ?_)
  · refine ifK_dec (fun _ => ?_) (fun h' => absurd ⟨by omega, h⟩ h')
    refine ifK_nd (fun h63 => ?_) (fun h63 => ?_)
    · obtain ⟨e1, e2⟩ := scan_mid (by omega) hno h63
      refine ifK_dec (fun _ => ?_) (fun h' => absurd h h')
      refine ifK_dec (fun _ => ?_) (fun h' => absurd ⟨by omega, by omega, by omega⟩ h')
      exact fin _ e1 e2
    · obtain ⟨b, hb, hd⟩ := dropAt (s := s) (i := i) (by omega)
      refine ⟨s.size - (i + 1), by omega, i + 1, rfl, rfl, by omega, ?_, rfl⟩
      intro x hx
      rw [show (tL s).take (i + 1) = (tL s).take i ++ [b] from take_next (by omega) hb] at hx
      rcases List.mem_append.1 hx with hx | hx
      · exact hno x hx
      · simp at hx; subst hx
        rw [hb] at h63
        exact fun h => h63 ((u8_eq (n := 63) (by decide)).2 h)
  · have hie : i = s.size := by omega
    obtain ⟨e1, e2⟩ := scan_end (s := s) (by rw [← hie]; exact hno)
    refine ifK_dec (fun h' => absurd h' h) (fun _ => ?_)
    rw [← hie] at e1
    exact fin _ e1 e2
theorem rcseg1 {s : ByteArray} (hs : s.size ≤ 8000000) (m : Nat) (vs : List Value) (H : AHeap) (hI : rcI s 1 [] m vs H) : Hd (rcSeg s rcP2 [6,9,10,11] m vs H) := by
  obtain ⟨ha, hu, hI⟩ := hI
  have kn : clGo (thP s) [] false = none → clV s = .tuple #[.string eB, .string eB, vi 171] := clV_none ha hu
  have ks : ∀ r, clGo (thP s) [] false = some r → clV s = .tuple #[.string (clO (some r)), .string (tailC 63 s), vi 0] := fun r => clV_some ha hu (r := r)
  have q1 := headC_sz 63 s
  have q2 := unO_sz (headC 63 s)
  have q3 := pieces_le (unO (headC 63 s)) 47
  have hne : 0 < (thP s).length := by
    have h := congrArg List.length (pieces_eq (unO (headC 63 s)))
    rw [List.length_map] at h
    rw [h]
    exact List.length_pos_iff.2 (splitL_ne _)
  have hP : (thP s).length ≤ 8000001 := by show (pieces (unO (headC 63 s)) 47).length ≤ _; omega
  obtain ⟨i, f, rfl, rfl, hi, hgo, hf, rfl⟩ := hI
  have eta : ∀ id m vs H, ofI (rcI s) id m [] vs H = ofI (rcI s) id m [] vs H := fun _ _ _ _ => rfl
  have in1 : ∀ (i' : Nat) (f' : Bool), i < i' → i' ≤ (thP s).length → clGo ((thP s).drop i') [] f' = clGo (thP s) [] false → lastF (thP s) i' f' →
      ofI (rcI s) 1 (some ((thP s).length - i)) [] [.string (tailC 63 s), slb 0 (thP s).length, nl, vi i'] (cH0 ((thP s).map .string)) :=
    fun i' f' h1 h2 h3 h4 => ⟨_, by omega, ha, hu, i', f', rfl, rfl, h2, h3, h4, rfl⟩
  have in2 : ∀ (i' : Nat) (p : ByteArray), i < i' → i' ≤ (thP s).length → p ∈ thP s → clGo ((thP s).drop i') [p] false = clGo (thP s) [] false → lastF (thP s) i' false →
      ofI (rcI s) 2 (some ((thP s).length - i)) [] [.string (tailC 63 s), slb 0 (thP s).length, slb 1 1, vi i'] (cH1 ((thP s).map .string) [.string p]) :=
    fun i' p h1 h2 h3 h4 h5 => ⟨_, by omega, ha, hu, i', false, [p], [], rfl, rfl, h2, by simp; omega, fun x hx => by simp at hx; subst hx; exact h3, h4, h5, rfl⟩
  constructor
  unfold rcSeg
  rw [rc1]
  generalize ofI (rcI s) = R at *
  generalize thP s = P at *
  have hload : ∀ j p, P[j]? = some p → LoadIs ptG 9 (Value.pointer (some { block := 0, off := 0 + j * 1 })) (cH0 (P.map .string)) (.string p) := by
    intro j p hp
    constructor
    rw [aload_one pgOne9 (L := P.map .string) (T := ⟨1, some 9, true⟩) (st := .live) (anc := []) rfl, List.getElem?_map, show 0 + j * 1 = j by omega, hp]; rfl
  refine ifK_dec (fun h => ?_) (fun h => ?_)
  · obtain ⟨p, hp, hm, hd⟩ := dropP (P := P) (i := i) (by omega)
    rw [hd] at hgo
    have hw : IntKind.wrap IntKind.i64 ((i : Int) + 1) = ((i + 1 : Nat) : Int) := by rw [wr_i64]; omega
    have hl := hload i p hp
    have hla := lastF_next hp
    refine ifK_dec (fun _ => ?_) (fun h' => absurd ⟨by omega, h⟩ h')
    refine ⟨p, hl, ?_⟩
    refine ifKb (fun h3 => ?_) (fun h3 => ?_)
    · obtain ⟨h1, h2⟩ := dd_ne h3
      rw [clGo_dd h1 h2 h3, if_pos (show ([] : List ByteArray).length = 0 from rfl)] at hgo
      exact ⟨(kn hgo.symm).symm, rfl⟩
    refine ifK_dec (fun _ => ?_) (fun h' => absurd ⟨by omega, h⟩ h')
    refine ⟨p, hl, ?_⟩
    refine ifKb (fun h1 => ?_) (fun h1 => ?_)
    · have h1' : seq p eB = false := by simpa using h1
      refine ifK_dec (fun _ => ?_) (fun h' => absurd ⟨by omega, h⟩ h')
      refine ⟨p, hl, ?_⟩
      refine ifKb (fun h2 => ?_) (fun h2 => ?_)
      · have h2' : seq p dotB = false := by simpa using h2
        refine ifK_dec (fun _ => ?_) (fun h' => absurd ⟨by omega, h⟩ h')
        refine ⟨p, hl, ?_⟩
        rw [clGo_p h1' h2' h3] at hgo
        rw [hw, strs_ren]
        rw [show dotP p = false by unfold dotP; rw [h1', h2', h3]; rfl] at hla
        exact in2 (i + 1) p (by omega) (by omega) hm hgo hla
      · have h2' : seq p dotB = true := by simpa using h2
        rw [clGo_e (.inr h2')] at hgo
        rw [hw, strs_ren]
        rw [show dotP p = true by unfold dotP; rw [h2']; simp] at hla
        exact in1 (i + 1) true (by omega) (by omega) hgo hla
    · have h1' : seq p eB = true := by simpa using h1
      rw [clGo_e (.inl h1')] at hgo
      rw [hw, strs_ren]
      rw [show dotP p = true by unfold dotP; rw [h1']; simp] at hla
      exact in1 (i + 1) true (by omega) (by omega) hgo hla
  · have hie : i = P.length := by omega
    rw [hie, List.drop_of_length_le (Nat.le_refl _)] at hgo
    have hk := ks _ hgo.symm
    have e : clO (some ([], f)) = slB ++ eB := by
      unfold clO
      simp only
      rw [if_neg (by simp)]
      rfl
    rw [e] at hk
    have hw2 : IntKind.wrap IntKind.i64 ((P.length : Int) - 1) = ((P.length - 1 : Nat) : Int) := by rw [wr_i64]; omega
    rw [hw2, Int.toNat_natCast]
    refine ifK_dec (fun _ => ?_) (fun h' => absurd ⟨by omega, by omega⟩ h')
    exact ⟨_, hload (P.length - 1) _ (List.getElem?_eq_getElem (by omega)), hk.symm, rfl⟩
theorem rcseg2 {s : ByteArray} (hs : s.size ≤ 8000000) (m : Nat) (vs : List Value) (H : AHeap) (hI : rcI s 2 [] m vs H) : Hd (rcSeg s rcP2 [6,9,10,11] m vs H) := by
  obtain ⟨ha, hu, hI⟩ := hI
  have kn : clGo (thP s) [] false = none → clV s = .tuple #[.string eB, .string eB, vi 171] := clV_none ha hu
  have ks : ∀ r, clGo (thP s) [] false = some r → clV s = .tuple #[.string (clO (some r)), .string (tailC 63 s), vi 0] := fun r => clV_some ha hu (r := r)
  have q1 := headC_sz 63 s
  have q2 := unO_sz (headC 63 s)
  have q3 := pieces_le (unO (headC 63 s)) 47
  have q4 := pieces_sz (unO (headC 63 s)) 47
  have hM : ∀ x ∈ thP s, x.size ≤ 8000000 := fun x hx => by have := q4 x hx; omega
  have hne : 0 < (thP s).length := by
    have h := congrArg List.length (pieces_eq (unO (headC 63 s)))
    rw [List.length_map] at h
    rw [h]
    exact List.length_pos_iff.2 (splitL_ne _)
  have hP : (thP s).length ≤ 8000001 := by show (pieces (unO (headC 63 s)) 47).length ≤ _; omega
  obtain ⟨i, f, K, G, rfl, rfl, hi, hKG, hKP, hgo, hf, rfl⟩ := hI
  have hKl : K.length ≤ i := by rw [List.length_append] at hKG; omega
  have hj : (joinB K (⟨#[(47 : UInt8)]⟩ : ByteArray)).size ≤ K.length * (8000000 + 1) := joinB_sz 8000000 K (fun x hx => hM x (hKP x hx))
  have hj2 : K.length * (8000000 + 1) ≤ 8000001 * 8000001 := Nat.mul_le_mul (by omega) (Nat.le_refl _)
  have hml : ((K ++ G).map Value.string).length = (K ++ G).length := List.length_map _
  have in2 : ∀ (i' : Nat) (f' : Bool) (K' G' : List ByteArray), i < i' → i' ≤ (thP s).length → (K' ++ G').length ≤ i' → (∀ x ∈ K', x ∈ thP s) → clGo ((thP s).drop i') K' f' = clGo (thP s) [] false → lastF (thP s) i' f' →
      ofI (rcI s) 2 (some ((thP s).length - i)) [] [.string (tailC 63 s), slb 0 (thP s).length, .slice (some ⟨1, 0, none⟩) K'.length (K' ++ G').length, vi i'] (cH1 ((thP s).map .string) ((K' ++ G').map .string)) :=
    fun i' f' K' G' h1 h2 h3 h4 h5 h6 => ⟨_, by omega, ha, hu, i', f', K', G', rfl, rfl, h2, h3, h4, h5, h6, rfl⟩
  constructor
  unfold rcSeg
  rw [rc2]
  generalize ofI (rcI s) = R at *
  generalize thP s = P at *
  have hload : ∀ j p, P[j]? = some p → LoadIs ptG 9 (Value.pointer (some { block := 0, off := 0 + j * 1 })) (cH1 (P.map .string) ((K ++ G).map .string)) (.string p) := by
    intro j p hp
    constructor
    rw [aload_one pgOne9 (L := P.map .string) (T := ⟨1, some 9, true⟩) (st := .live) (anc := []) rfl, List.getElem?_map, show 0 + j * 1 = j by omega, hp]; rfl
  refine ifK_dec (fun h => ?_) (fun h => ?_)
  · obtain ⟨p, hp, hm, hd⟩ := dropP (P := P) (i := i) (by omega)
    rw [hd] at hgo
    have hw : IntKind.wrap IntKind.i64 ((i : Int) + 1) = ((i + 1 : Nat) : Int) := by rw [wr_i64]; omega
    have hl := hload i p hp
    have hla := lastF_next hp
    simp only [hw, strs_ren]
    refine ifK_dec (fun _ => ?_) (fun h' => absurd ⟨by omega, h⟩ h')
    refine ⟨p, hl, ?_⟩
    refine ifKb (fun h3 => ?_) (fun h3 => ?_)
    · obtain ⟨h1, h2⟩ := dd_ne h3
      rw [clGo_dd h1 h2 h3] at hgo
      refine ifK_dec (fun h4 => ?_) (fun h4 => ?_)
      · rw [if_pos (by omega)] at hgo
        exact ⟨(kn hgo.symm).symm, rfl⟩
      · rw [if_neg (by omega)] at hgo
        have hw2 : IntKind.wrap IntKind.i64 ((K.length : Int) - 1) = ((K.length - 1 : Nat) : Int) := by rw [wr_i64]; omega
        rw [hw2]
        refine ifK_dec (fun _ => ?_) (fun h' => absurd ⟨by omega, by omega, by rw [List.length_append]; omega⟩ h')
        have hK : K ≠ [] := fun hh => h4 (by rw [hh]; rfl)
        have e : K.dropLast ++ (K.getLast hK :: G) = K ++ G := by
          conv => rhs; rw [← List.dropLast_concat_getLast hK]
          rw [List.append_assoc]; rfl
        have el : K.dropLast.length = K.length - 1 := List.length_dropLast
        rw [show dotP p = true by unfold dotP; rw [h3]; simp] at hla
        have := in2 (i + 1) true K.dropLast (K.getLast hK :: G) (by omega) (by omega) (by rw [e]; omega) (fun x hx => hKP x (List.dropLast_subset K hx)) hgo hla
        rw [e, el] at this
        exact this
    refine ifK_dec (fun _ => ?_) (fun h' => absurd ⟨by omega, h⟩ h')
    refine ⟨p, hl, ?_⟩
    refine ifKb (fun h1 => ?_) (fun h1 => ?_)
    · have h1' : seq p eB = false := by simpa using h1
      refine ifK_dec (fun _ => ?_) (fun h' => absurd ⟨by omega, h⟩ h')
      refine ⟨p, hl, ?_⟩
      refine ifKb (fun h2 => ?_) (fun h2 => ?_)
      · have h2' : seq p dotB = false := by simpa using h2
        refine ifK_dec (fun _ => ?_) (fun h' => absurd ⟨by omega, h⟩ h')
        refine ⟨p, hl, ?_⟩
        rw [clGo_p h1' h2' h3] at hgo
        rw [show dotP p = false by unfold dotP; rw [h1', h2', h3]; rfl] at hla
        have hin : ∀ x ∈ K ++ [p], x ∈ P := by
          intro x hx
          rcases List.mem_append.1 hx with hx | hx
          · exact hKP x hx
          · simp at hx; subst hx; exact hm
        have e3 : (K ++ [p]).length = K.length + 1 := by simp
        refine ifKb (fun h4 => ?_) (fun h4 => ?_)
        · have h4' : K.length = (K ++ G).length := by simpa using h4
          have hG : G = [] := List.length_eq_zero_iff.1 (by rw [List.length_append] at h4'; omega)
          subst hG
          refine ifK_dec (fun _ => ?_) (fun h' => absurd ⟨by rw [hml]; omega, by omega, by omega, by omega⟩ h')
          have e : List.take (K.length * 1) (List.drop 0 ((K ++ []).map Value.string)) ++ [Value.string p] = ((K ++ [p]) ++ []).map Value.string := by
            rw [List.drop_zero, List.take_of_length_le (by rw [List.length_map, List.length_append]; simp), List.append_nil, List.append_nil, List.map_append]; rfl
          rw [e, strs_ren]
          have := in2 (i + 1) false (K ++ [p]) [] (by omega) (by omega) (by rw [List.append_nil, e3]; omega) hin hgo hla
          rw [List.append_nil, e3] at this
          rw [List.append_nil]
          exact this
        · have h4' : K.length ≠ (K ++ G).length := by simpa using h4
          obtain ⟨g, G', rfl⟩ : ∃ g G', G = g :: G' := by
            cases G with
            | nil => simp at h4'
            | cons g G' => exact ⟨g, G', rfl⟩
          refine ifK_dec (fun _ => ?_) (fun h' => absurd (by rw [List.length_append, List.length_cons]; omega) h')
          refine ifK_dec (fun _ => ?_) (fun h' => absurd (by have h7 := hml; rw [List.length_append, List.length_cons] at h7; show 0 + K.length * 1 + 1 ≤ _; omega) h')
          have e : splice ((K ++ g :: G').map Value.string) (0 + K.length * 1) [Value.string p] = ((K ++ [p]) ++ G').map Value.string := by
            show ((K ++ g :: G').map Value.string).set (0 + K.length * 1) (Value.string p) = _
            rw [show 0 + K.length * 1 = K.length by omega, ← List.map_set, List.set_append_right _ _ (Nat.le_refl _), Nat.sub_self]
            simp
          rw [e, strs_ren]
          have e2 : (K ++ g :: G').length = ((K ++ [p]) ++ G').length := by rw [List.length_append, List.length_append, List.length_append, List.length_cons]; show _ = K.length + 1 + _; omega
          have := in2 (i + 1) false (K ++ [p]) G' (by omega) (by omega) (by rw [← e2]; omega) hin hgo hla
          rw [e2, ← e3]
          exact this
      · have h2' : seq p dotB = true := by simpa using h2
        rw [clGo_e (.inr h2')] at hgo
        rw [show dotP p = true by unfold dotP; rw [h2']; simp] at hla
        exact in2 (i + 1) true K G (by omega) (by omega) (by omega) hKP hgo hla
    · have h1' : seq p eB = true := by simpa using h1
      rw [clGo_e (.inl h1')] at hgo
      rw [show dotP p = true by unfold dotP; rw [h1']; simp] at hla
      exact in2 (i + 1) true K G (by omega) (by omega) (by omega) hKP hgo hla
  · have hie : i = P.length := by omega
    rw [hie, List.drop_of_length_le (Nat.le_refl _)] at hgo
    have hk := ks _ hgo.symm
    have htk : (K ++ G).take K.length = K := by rw [List.take_append_of_le_length (Nat.le_refl _), List.take_of_length_le (Nat.le_refl _)]
    have s1 : (⟨#[(47 : UInt8)]⟩ : ByteArray).size = 1 := rfl
    have hw2 : IntKind.wrap IntKind.i64 ((P.length : Int) - 1) = ((P.length - 1 : Nat) : Int) := by rw [wr_i64]; omega
    have hp : P[P.length - 1]? = some P[P.length - 1] := List.getElem?_eq_getElem (by omega)
    have hfe : f = dotP P[P.length - 1] := hf (P.length - 1) _ (by omega) hp
    simp only [hw2, Int.toNat_natCast, strs_ren, allS_map, strsOf_map, htk, hml, Bool.true_and, s1]
    refine ifK_dec (fun _ => ?_) (fun h' => absurd ⟨by omega, by omega⟩ h')
    refine ⟨_, hload (P.length - 1) _ hp, ?_⟩
    generalize P[P.length - 1] = p at *
    refine ifK_dec (fun _ => ?_) (fun h' => absurd ⟨by rw [List.length_append]; omega, by omega, by omega⟩ h')
    refine ifK_dec (fun _ => ?_) (fun h' => absurd (by omega) h')
    rw [clO] at hk
    have yes : f = true → 0 < K.length → ifK (decide (((⟨#[(47 : UInt8)]⟩ : ByteArray) ++ joinB K ⟨#[(47 : UInt8)]⟩).size + 1 < 9223372036854775808)) (CQ s (.tuple #[.string (slB ++ joinB K slB ++ slB), .string (tailC 63 s), vi 0]) AHeap.empty) False := by
      intro h5 h6
      refine ifK_dec (fun _ => ?_) (fun h' => absurd (by rw [ByteArray.size_append, s1]; omega) h')
      rw [if_pos ⟨h5, h6⟩] at hk
      exact ⟨hk.symm, rfl⟩
    refine ifK_dec (fun h6 => ?_) (fun h6 => ?_)
    · unfold dotP at hfe
      refine ifKb (fun t1 => yes (by rw [hfe, t1]; rfl) (by omega)) (fun t1 => ?_)
      refine ifKb (fun t2 => yes (by rw [hfe, t1, t2]; rfl) (by omega)) (fun t2 => ?_)
      refine ifKb (fun t3 => yes (by rw [hfe, t1, t2, t3]; rfl) (by omega)) (fun t3 => ?_)
      rw [if_neg (fun h => by rw [hfe, t1, t2, t3] at h; exact absurd h.1 (by decide))] at hk
      exact ⟨hk.symm, rfl⟩
    · rw [if_neg (fun h => h6 (by omega))] at hk
      exact ⟨hk.symm, rfl⟩
theorem body9 : Tryd.f9.body = some (bodyOf Tryd.prog 9) := by kernel_rfl
theorem nt9 : Tryd.f9.ntmps = 118 := by kernel_rfl
theorem rs9 : Tryd.f9.results.toList = [.tmp 2, .tmp 3, .tmp 4] := by kernel_rfl
theorem dr9 : allDraw (ptG.ok 9) (bodyOf Tryd.prog 9) = true := by kernel_rfl
theorem lo9a : loopsOn rcP1 rcB = 0 := by kernel_rfl
theorem lo9b : loopsOn rcP2 rcB = 0 := by kernel_rfl
theorem rc_ok : BSumOk ptG.P 9 (newS clSpec) := by
  refine sumOk_new Tryd.func9 (by kernel_rfl) (by decide) fun args v os hs w cargs ha => ?_
  unfold clSpec at hs
  split at hs
  case h_2 => cases hs
  rename_i s
  simp only [SpR.get, Option.some.injEq, Prod.mk.injEq, decide_eq_true_eq] at hs
  obtain ⟨hs, rfl, rfl⟩ := hs
  refine (calls_cutsG pgT pgF pgO pgM rcHint (f := 9) (k := 30) (n := 20) Tryd.func9 body9 nt9 rs9 dr9 (cuts := rcCuts) (I := rcI s) (rts := [[]]) (Q := CQ s) (args := [.string s]) (Rel.empty w) ha ⟨?_⟩ ⟨⟨?_, trivial⟩, ⟨?_, ?_, trivial⟩, trivial⟩).mono ?_
  · show startA ptG rcHint 30 20 9 0 118 rcCuts _ rcB ([.string s] ++ List.replicate 117 undef) AHeap.empty (endGK ptG [.tmp 2, .tmp 3, .tmp 4] 0 [[]] _)
    rw [rcS]
    exact ⟨s.size, trivial, 0, rfl, rfl, Nat.zero_le _, by simp, rfl⟩
  · intro ms hms m vs H hi
    obtain rfl := List.eq_nil_of_length_eq_zero (hms.trans lo9a)
    exact rcseg0 hs m vs H hi
  · intro ms hms m vs H hi
    obtain rfl := List.eq_nil_of_length_eq_zero (hms.trans lo9b)
    exact rcseg2 hs m vs H hi
  · intro ms hms m vs H hi
    obtain rfl := List.eq_nil_of_length_eq_zero (hms.trans lo9b)
    exact rcseg1 hs m vs H hi
  · rintro e w' ⟨v', H', ⟨rfl, rfl⟩, hp⟩
    exact hp
end Go.Ev

/- The law PathCleans: what its ways come to; no condition. -/
namespace Go.Ev
open Go Go.Proofs Go.RowKit
set_option linter.unusedVariables false
set_option maxRecDepth 100000
set_option maxHeartbeats 4000000
noncomputable def pthSumms : List (Nat × BSumm) := (9, newS clSpec) :: ptgSumms
theorem pthSO : BSumsOk Tryd.prog pthSumms := ⟨rc_ok, ptgSO⟩
noncomputable def ptH : Env := mkEnvB Tryd.prog ptPlans ptExts fun f => look f pthSumms
theorem phT : ptH.TOk := tOkB_of (by kernel_rfl) ptX
theorem phF : ptH.FOk ptH.ok := fOkB_of (by kernel_rfl)
theorem phO : ptH.SOk := sOkB_of pthSO
theorem phM : ptH.P.follows .mixedOrders = true := by kernel_rfl
noncomputable abbrev cnB : Code := bodyOf Tryd.prog 3
def cnHint : FuncId → Tmp → Option Hint := fun f t => (look f [(3, [(75, Hint.str), (79, Hint.str), (93, Hint.str), (97, Hint.str)])]).bind (look t)
def cnP1 : List Bool := [true, true, true, true, true, true, true, false, true, false]
def cnP2 : List Bool := [true, true, true, true, true, true, true, true, false, true, false]
def cnCuts : Cuts := [(cnP1, [⟨1, [9,10,11,12], [(9,[]),(10,[]),(11,[])], false⟩, ⟨0, [9,10,11,12], [(9,[]),(10,[])], false⟩]), (cnP2, [⟨3, [10,11,13], [(10,[]),(11,[])], false⟩, ⟨2, [10,11,13], [(10,[])], false⟩])]
def cH2 (P K L : List Value) : AHeap := { size := 3, tr := .node (some (.cells P ⟨1, some 9, true⟩ .live [])) (.node (some (.cells K ⟨1, some 9, true⟩ .live [])) .nil .nil) (.node (some (.cells L ⟨1, some 9, true⟩ .live [])) .nil .nil) }
theorem cnS (s : ByteArray) (R : RFun) (Q : Value → Prop) :
   startA ptH cnHint 30 20 3 0 100 cnCuts R cnB ([.string s] ++ List.replicate 99 undef) AHeap.empty (endK ptH [.tmp 2] fun v _ => Q v)
   = (ifK (decide (ByteArray.size s ≤ 8000000)) (ifK (decide (ByteArray.size s ≤ 8000000)) (ifK (decide (ByteArray.size s ≤ 100000000)) (ifK (decide (ByteArray.size s ≤ 100000000)) (ifK (decide (List.length (fldB s) = 0)) (ifK (decide (ByteArray.size s ≤ 1000000000000)) (ifK (!seq (clOut s) (clOut s)) (Q (Value.bool false)) (ifK (!seq (clQry s) (clQry s)) (Q (Value.bool false)) (ifK (!decide (clErr s = clErr s)) (Q (Value.bool false)) (ifK (decide (ByteArray.size s ≤ 1000000000000)) (ifK (decide (ByteArray.size s ≤ 1000000000000)) (ifK (!seq (esO s) (esO s)) (Q (Value.bool false)) (ifK (!decide ((↑(List.length (fldB s)) : Int) = (↑0 : Int))) (Q (Value.bool false)) (ifK (!decide ((↑(List.length (fldB s)) : Int) = (↑0 : Int))) (Q (Value.bool false)) (R 0 none [] [Value.slice (some { block := 0, off := 0 }) (List.length (fldB s)) (List.length (fldB s)), Value.slice (some { block := 1, off := 0 }) (List.length (fldB s)) (List.length (fldB s)), Value.slice none 0 0, vi (0 : Int)] { size := 2, tr := Tr.node (some (AObj.cells (List.map (renV [0, 1]) (List.map (upV [0]) (List.map Value.string (fldB s)))) (⟨1, some 9, true⟩ : ET) St.live [])) (Tr.node (some (AObj.cells (List.map (renV [0, 1]) (List.map (upV [1]) (List.map Value.string (fldB s)))) (⟨1, some 9, true⟩ : ET) St.live [])) Tr.nil Tr.nil) Tr.nil })))) False) False)))) False) (ifK (decide (ByteArray.size s ≤ 1000000000000)) (ifK (!seq (clOut s) (clOut s)) (Q (Value.bool false)) (ifK (!seq (clQry s) (clQry s)) (Q (Value.bool false)) (ifK (!decide (clErr s = clErr s)) (Q (Value.bool false)) (ifK (decide (ByteArray.size s ≤ 1000000000000)) (ifK (decide (ByteArray.size s ≤ 1000000000000)) (ifK (!seq (esO s) (esO s)) (Q (Value.bool false)) (ifK (!decide ((↑(List.length (fldB s)) : Int) = (↑(List.length (fldB s)) : Int))) (Q (Value.bool false)) (ifK (!decide ((↑(List.length (fldB s)) : Int) = (↑(List.length (fldB s)) : Int))) (Q (Value.bool false)) (R 1 none [] [Value.slice (some { block := 0, off := 0 }) (List.length (fldB s)) (List.length (fldB s)), Value.slice (some { block := 1, off := 0 }) (List.length (fldB s)) (List.length (fldB s)), Value.slice (some { block := 2, off := 0 }) (List.length (fldB s)) (List.length (fldB s)), vi (0 : Int)] { size := 3, tr := Tr.node (some (AObj.cells (List.map (renV [0, 1, 2]) (List.map (upV [0]) (List.map Value.string (fldB s)))) (⟨1, some 9, true⟩ : ET) St.live [])) (Tr.node (some (AObj.cells (List.map (renV [0, 1, 2]) (List.map (upV [1]) (List.map Value.string (fldB s)))) (⟨1, some 9, true⟩ : ET) St.live [])) Tr.nil Tr.nil) (Tr.node (some (AObj.cells (List.map (renV [0, 1, 2]) (List.map (upV [2]) (List.map Value.string (fldB s)))) (⟨1, some 9, true⟩ : ET) St.live [])) Tr.nil Tr.nil) })))) False) False)))) False)) False) False) False) False) := by kernel_rfl
theorem cn0 (m n k : Nat) (i : Int) (P K : List Value) (R : RFun) (Q : Value → Prop) :
   segA ptH cnHint 30 20 3 0 100 cnCuts R cnB cnP1 [] m [9,10,11,12] [slb 0 n, slb 1 k, nl, vi i] (cH1 P K) (endK ptH [.tmp 2] fun v _ => Q v)
   = (ifK (decide (i < (↑n : Int))) (ifK (decide ((0 : Int) ≤ i ∧ i < (↑n : Int))) (∃ s, LoadIs ptH 9 (Value.pointer (some { block := 0, off := 0 + Int.toNat i * 1 })) { size := 2, tr := Tr.node (some (AObj.cells P (⟨1, some (nat_lit 9), true⟩ : ET) St.live [])) (Tr.node (some (AObj.cells K (⟨1, some (nat_lit 9), true⟩ : ET) St.live [])) Tr.nil Tr.nil) Tr.nil } (Value.string s) ∧ False) False) (R 2 none [] [Value.slice (some { block := 0, off := 0 }) k k, Value.slice none 0 0, vi (0 : Int)] { size := 1, tr := Tr.node (some (AObj.cells (List.map (renV [1]) K) (⟨1, some (nat_lit 9), true⟩ : ET) St.live [])) Tr.nil Tr.nil })) := by kernel_rfl
theorem cn1 (m n k l : Nat) (i : Int) (P K L : List Value) (R : RFun) (Q : Value → Prop) :
   segA ptH cnHint 30 20 3 0 100 cnCuts R cnB cnP1 [] m [9,10,11,12] [slb 0 n, slb 1 k, slb 2 l, vi i] (cH2 P K L) (endK ptH [.tmp 2] fun v _ => Q v)
   = (ifK (decide (i < (↑n : Int))) (ifK (decide ((0 : Int) ≤ i ∧ i < (↑n : Int))) (∃ s, LoadIs ptH 9 (Value.pointer (some { block := 0, off := 0 + Int.toNat i * 1 })) { size := 3, tr := Tr.node (some (AObj.cells P (⟨1, some (nat_lit 9), true⟩ : ET) St.live [])) (Tr.node (some (AObj.cells K (⟨1, some (nat_lit 9), true⟩ : ET) St.live [])) Tr.nil Tr.nil) (Tr.node (some (AObj.cells L (⟨1, some (nat_lit 9), true⟩ : ET) St.live [])) Tr.nil Tr.nil) } (Value.string s) ∧ ifK (decide ((0 : Int) ≤ i ∧ i < (↑l : Int))) (∃ s_1, LoadIs ptH 9 (Value.pointer (some { block := 2, off := 0 + Int.toNat i * 1 })) { size := 3, tr := Tr.node (some (AObj.cells P (⟨1, some (nat_lit 9), true⟩ : ET) St.live [])) (Tr.node (some (AObj.cells K (⟨1, some (nat_lit 9), true⟩ : ET) St.live [])) Tr.nil Tr.nil) (Tr.node (some (AObj.cells L (⟨1, some (nat_lit 9), true⟩ : ET) St.live [])) Tr.nil Tr.nil) } (Value.string s_1) ∧ ifK (!seq s s_1) (Q (Value.bool false)) (ifK (decide ((0 : Int) ≤ i ∧ i < (↑n : Int))) (ifK (decide (0 + Int.toNat i * 1 + List.length [Value.string (⟨#[(110 : UInt8), (111 : UInt8)]⟩ : ByteArray)] ≤ List.length P)) (R 1 (some m) [] [Value.slice (some { block := 0, off := 0 }) n n, Value.slice (some { block := 1, off := 0 }) k k, Value.slice (some { block := 2, off := 0 }) l l, vi (IntKind.wrap IntKind.i64 (i + (1 : Int)))] { size := 3, tr := Tr.node (some (AObj.cells (List.map (renV [0, 1, 2]) (splice P (0 + Int.toNat i * 1) [Value.string (⟨#[(110 : UInt8), (111 : UInt8)]⟩ : ByteArray)])) (⟨1, some 9, true⟩ : ET) St.live [])) (Tr.node (some (AObj.cells (List.map (renV [0, 1, 2]) K) (⟨1, some 9, true⟩ : ET) St.live [])) Tr.nil Tr.nil) (Tr.node (some (AObj.cells (List.map (renV [0, 1, 2]) L) (⟨1, some 9, true⟩ : ET) St.live [])) Tr.nil Tr.nil) }) False) False)) False) False) (R 3 none [] [Value.slice (some { block := 0, off := 0 }) k k, Value.slice (some { block := 1, off := 0 }) l l, vi (0 : Int)] { size := 2, tr := Tr.node (some (AObj.cells (List.map (renV [1, 2]) K) (⟨1, some (nat_lit 9), true⟩ : ET) St.live [])) (Tr.node (some (AObj.cells (List.map (renV [1, 2]) L) (⟨1, some (nat_lit 9), true⟩ : ET) St.live [])) Tr.nil Tr.nil) Tr.nil })) := by kernel_rfl
theorem cn2 (m k : Nat) (i : Int) (K : List Value) (R : RFun) (Q : Value → Prop) :
   segA ptH cnHint 30 20 3 0 100 cnCuts R cnB cnP2 [] m [10,11,13] [slb 0 k, nl, vi i] (cH0 K) (endK ptH [.tmp 2] fun v _ => Q v)
   = (ifK (decide (i < (↑k : Int))) (ifK (decide ((0 : Int) ≤ i ∧ i < (↑k : Int))) (∃ s, LoadIs ptH 9 (Value.pointer (some { block := 0, off := 0 + Int.toNat i * 1 })) { size := 1, tr := Tr.node (some (AObj.cells K (⟨1, some (nat_lit 9), true⟩ : ET) St.live [])) Tr.nil Tr.nil } (Value.string s) ∧ False) False) (Q (Value.bool true))) := by kernel_rfl
theorem cn3 (m k l : Nat) (i : Int) (K L : List Value) (R : RFun) (Q : Value → Prop) :
   segA ptH cnHint 30 20 3 0 100 cnCuts R cnB cnP2 [] m [10,11,13] [slb 0 k, slb 1 l, vi i] (cH1 K L) (endK ptH [.tmp 2] fun v _ => Q v)
   = (ifK (decide (i < (↑k : Int))) (ifK (decide ((0 : Int) ≤ i ∧ i < (↑k : Int))) (∃ s, LoadIs ptH 9 (Value.pointer (some { block := 0, off := 0 + Int.toNat i * 1 })) { size := 2, tr := Tr.node (some (AObj.cells K (⟨1, some (nat_lit 9), true⟩ : ET) St.live [])) (Tr.node (some (AObj.cells L (⟨1, some (nat_lit 9), true⟩ : ET) St.live [])) Tr.nil Tr.nil) Tr.nil } (Value.string s) ∧ ifK (decide ((0 : Int) ≤ i ∧ i < (↑l : Int))) (∃ s_1, LoadIs ptH 9 (Value.pointer (some { block := 1, off := 0 + Int.toNat i * 1 })) { size := 2, tr := Tr.node (some (AObj.cells K (⟨1, some (nat_lit 9), true⟩ : ET) St.live [])) (Tr.node (some (AObj.cells L (⟨1, some (nat_lit 9), true⟩ : ET) St.live [])) Tr.nil Tr.nil) Tr.nil } (Value.string s_1) ∧ ifK (!seq s s_1) (Q (Value.bool false)) (R 3 (some m) [] [Value.slice (some { block := 0, off := 0 }) k k, Value.slice (some { block := 1, off := 0 }) l l, vi (IntKind.wrap IntKind.i64 (i + (1 : Int)))] { size := 2, tr := Tr.node (some (AObj.cells (List.map (renV [0, 1]) K) (⟨1, some (nat_lit 9), true⟩ : ET) St.live [])) (Tr.node (some (AObj.cells (List.map (renV [0, 1]) L) (⟨1, some (nat_lit 9), true⟩ : ET) St.live [])) Tr.nil Tr.nil) Tr.nil })) False) False) (Q (Value.bool true))) := by kernel_rfl
end Go.Ev

/- The law PathCleans answers true at every text within some bound. -/
namespace Go.Ev
open Go Go.Proofs Go.RowKit
set_option linter.unusedVariables false
set_option linter.unusedSimpArgs false
set_option maxRecDepth 100000
set_option maxHeartbeats 4000000
theorem phOne9 : (ptH.ty 9).map (fun i => isAggD i.desc) = some false := by kernel_rfl
def cnI (F : List ByteArray) (id : Nat) (μ : List Nat) (m : Nat) (vs : List Value) (H : AHeap) : Prop :=
  match id with
  | 0 => F = [] ∧ vs = [slb 0 F.length, slb 1 F.length, nl, vi 0] ∧ H = cH1 (F.map .string) (F.map .string)
  | 1 => ∃ (i : Nat) (X : List ByteArray), vs = [slb 0 F.length, slb 1 F.length, slb 2 F.length, vi i] ∧ H = cH2 (X.map .string) (F.map .string) (F.map .string) ∧ i ≤ F.length ∧ X.length = F.length ∧ X.drop i = F.drop i ∧ m = F.length - i
  | 2 => F = [] ∧ vs = [slb 0 F.length, nl, vi 0] ∧ H = cH0 (F.map .string)
  | 3 => ∃ i : Nat, vs = [slb 0 F.length, slb 1 F.length, vi i] ∧ H = cH1 (F.map .string) (F.map .string) ∧ i ≤ F.length ∧ m = F.length - i
  | _ => False
abbrev cnSeg (F : List ByteArray) (p : List Bool) (idx : List Nat) (m : Nat) (vs : List Value) (H : AHeap) : Prop := segA ptH cnHint 30 20 3 0 100 cnCuts (ofI (cnI F)) cnB p [] m idx vs H (endK ptH [.tmp 2] fun v _ => v = .bool true)
theorem cnseg0 {F : List ByteArray} (m : Nat) (vs : List Value) (H : AHeap) (hI : cnI F 0 [] m vs H) : Hd (cnSeg F cnP1 [9,10,11,12] m vs H) := by
  obtain ⟨rfl, rfl, rfl⟩ := hI
  constructor
  unfold cnSeg
  rw [cn0]
  refine ifK_dec (fun h => absurd h (by decide)) (fun h => ?_)
  exact ⟨0, trivial, rfl, rfl, rfl⟩
theorem cnseg2 {F : List ByteArray} (m : Nat) (vs : List Value) (H : AHeap) (hI : cnI F 2 [] m vs H) : Hd (cnSeg F cnP2 [10,11,13] m vs H) := by
  obtain ⟨rfl, rfl, rfl⟩ := hI
  constructor
  unfold cnSeg
  rw [cn2]
  exact ifK_dec (fun h => absurd h (by decide)) (fun h => rfl)
theorem ld1 {H : AHeap} {b : Nat} {L : List ByteArray} {T : ET} {st : St} {anc : List Nat} (hg : H.get b = some (.cells (L.map .string) T st anc)) {j : Nat} {p : ByteArray} (h : L[j]? = some p) : LoadIs ptH 9 (Value.pointer (some { block := b, off := 0 + j * 1 })) H (.string p) := by
  constructor
  rw [aload_one phOne9 hg, List.getElem?_map, show 0 + j * 1 = j by omega, h]; rfl
theorem cnseg1 {F : List ByteArray} (hF : F.length ≤ 1000000000000) (m : Nat) (vs : List Value) (H : AHeap) (hI : cnI F 1 [] m vs H) : Hd (cnSeg F cnP1 [9,10,11,12] m vs H) := by
  obtain ⟨i, X, rfl, rfl, hi, hX, hd, rfl⟩ := hI
  have hw : IntKind.wrap IntKind.i64 ((i : Int) + 1) = ((i + 1 : Nat) : Int) := by rw [wr_i64]; omega
  constructor
  unfold cnSeg
  rw [cn1]
  simp only [hw, strs_ren, Int.toNat_natCast]
  refine ifK_dec (fun h => ?_) (fun h => ?_)
  · have hlt : i < F.length := by omega
    have hp : F[i]? = some F[i] := List.getElem?_eq_getElem hlt
    have hq : X[i]? = some F[i] := by
      have e : (X.drop i)[0]? = (F.drop i)[0]? := by rw [hd]
      rw [List.getElem?_drop, List.getElem?_drop, Nat.add_zero] at e
      rw [e, hp]
    refine ifK_dec (fun _ => ?_) (fun h' => absurd ⟨by omega, h⟩ h')
    refine ⟨F[i], ld1 (T := ⟨1, some 9, true⟩) (st := .live) (anc := []) rfl hq, ?_⟩
    refine ifK_dec (fun _ => ?_) (fun h' => absurd ⟨by omega, h⟩ h')
    refine ⟨F[i], ld1 (T := ⟨1, some 9, true⟩) (st := .live) (anc := []) rfl hp, ?_⟩
    refine ifK_f (by rw [seq_self]; rfl) ?_
    refine ifK_dec (fun _ => ?_) (fun h' => absurd ⟨by omega, h⟩ h')
    refine ifK_dec (fun _ => ?_) (fun h' => absurd (by rw [List.length_map, hX]; show 0 + i * 1 + 1 ≤ _; omega) h')
    have e : splice (X.map Value.string) (0 + i * 1) [Value.string ⟨#[(110 : UInt8), (111 : UInt8)]⟩] = (X.set i ⟨#[(110 : UInt8), (111 : UInt8)]⟩).map Value.string := by
      show (X.map Value.string).set (0 + i * 1) (Value.string _) = _
      rw [show 0 + i * 1 = i by omega, List.map_set]
    rw [e, strs_ren]
    refine ⟨F.length - (i + 1), by omega, i + 1, _, rfl, rfl, by omega, by rw [List.length_set, hX], ?_, rfl⟩
    rw [List.drop_set_of_lt (by omega), ← List.drop_drop, ← List.drop_drop, hd]
  · exact ⟨F.length, trivial, 0, rfl, rfl, Nat.zero_le _, rfl⟩
theorem cnseg3 {F : List ByteArray} (hF : F.length ≤ 1000000000000) (m : Nat) (vs : List Value) (H : AHeap) (hI : cnI F 3 [] m vs H) : Hd (cnSeg F cnP2 [10,11,13] m vs H) := by
  obtain ⟨i, rfl, rfl, hi, rfl⟩ := hI
  have hw : IntKind.wrap IntKind.i64 ((i : Int) + 1) = ((i + 1 : Nat) : Int) := by rw [wr_i64]; omega
  constructor
  unfold cnSeg
  rw [cn3]
  simp only [hw, strs_ren, Int.toNat_natCast]
  refine ifK_dec (fun h => ?_) (fun h => by trivial)
  have hlt : i < F.length := by omega
  have hp : F[i]? = some F[i] := List.getElem?_eq_getElem hlt
  refine ifK_dec (fun _ => ?_) (fun h' => absurd ⟨by omega, h⟩ h')
  refine ⟨F[i], ld1 (T := ⟨1, some 9, true⟩) (st := .live) (anc := []) rfl hp, ?_⟩
  refine ifK_dec (fun _ => ?_) (fun h' => absurd ⟨by omega, h⟩ h')
  refine ⟨F[i], ld1 (T := ⟨1, some 9, true⟩) (st := .live) (anc := []) rfl hp, ?_⟩
  refine ifK_f (by rw [seq_self]; rfl) ?_
  exact ⟨F.length - (i + 1), by omega, i + 1, rfl, rfl, by omega, rfl⟩
theorem cnStart (t : ByteArray) (ht : t.size ≤ 2097152) : Hd (startA ptH cnHint 30 20 3 0 100 cnCuts (ofI (cnI (fldB t))) cnB ([.string t] ++ List.replicate 99 undef) AHeap.empty (endK ptH [.tmp 2] fun v _ => v = .bool true)) := by
  constructor
  rw [cnS]
  simp only [strs_up, strs_ren]
  refine ifK_dec (fun _ => ?_) (fun h' => absurd (by omega) h')
  refine ifK_dec (fun _ => ?_) (fun h' => absurd (by omega) h')
  refine ifK_dec (fun _ => ?_) (fun h' => absurd (by omega) h')
  refine ifK_dec (fun _ => ?_) (fun h' => absurd (by omega) h')
  refine ifK_dec (fun h0 => ?_) (fun h0 => ?_)
  · have hF : fldB t = [] := List.length_eq_zero_iff.1 h0
    refine ifK_dec (fun _ => ?_) (fun h' => absurd (by omega) h')
    refine ifK_f (by rw [seq_self]; rfl) (ifK_f (by rw [seq_self]; rfl) (ifK_f (by simp) ?_))
    refine ifK_dec (fun _ => ?_) (fun h' => absurd (by omega) h')
    refine ifK_dec (fun _ => ?_) (fun h' => absurd (by omega) h')
    refine ifK_f (by rw [seq_self]; rfl) (ifK_f (by simp [h0]) (ifK_f (by simp [h0]) ?_))
    exact ⟨0, trivial, hF, rfl, rfl⟩
  · refine ifK_dec (fun _ => ?_) (fun h' => absurd (by omega) h')
    refine ifK_f (by rw [seq_self]; rfl) (ifK_f (by rw [seq_self]; rfl) (ifK_f (by simp) ?_))
    refine ifK_dec (fun _ => ?_) (fun h' => absurd (by omega) h')
    refine ifK_dec (fun _ => ?_) (fun h' => absurd (by omega) h')
    refine ifK_f (by rw [seq_self]; rfl) (ifK_f (by simp) (ifK_f (by simp) ?_))
    exact ⟨(fldB t).length, trivial, 0, fldB t, rfl, rfl, Nat.zero_le _, rfl, rfl, rfl⟩
end Go.Ev
