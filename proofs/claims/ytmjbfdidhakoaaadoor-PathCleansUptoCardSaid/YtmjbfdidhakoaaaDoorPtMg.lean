/- The document's digit, undo, Escape: what their ways come to; no condition. -/
import Derived.Test.YtmjbfdidhakoaaaDoorPtMf
import Derived.Test.YtmjbfdidhakoaaaDoorPtMc
import Derived.Test.YtmjbfdidhakoaaaDoorPtMd
import Derived.Test.YtmjbfdidhakoaaaDoorPtMe
namespace Go.Ev
open Go Go.Proofs Go.RowKit
set_option linter.unusedVariables false
set_option maxRecDepth 100000
set_option maxHeartbeats 4000000
theorem digR (b : Int) (K : Value → Prop) :
   evalK ptS (fun _ _ => none) 30 33 [.int .u8 b] AHeap.empty (fun v _ => K v)
   = (ifK (decide ((48 : Int) ≤ b)) (ifK (decide (b ≤ (57 : Int))) (K (Value.int IntKind.i64 (IntKind.wrap IntKind.i64 (IntKind.wrap IntKind.u8 (b - (48 : Int)))))) (ifK (decide ((97 : Int) ≤ b)) (ifK (decide (b ≤ (102 : Int))) (K (Value.int IntKind.i64 (IntKind.wrap IntKind.i64 (IntKind.wrap IntKind.i64 (IntKind.wrap IntKind.u8 (b - (97 : Int))) + (10 : Int))))) (ifK (decide ((65 : Int) ≤ b)) (ifK (decide (b ≤ (70 : Int))) (K (Value.int IntKind.i64 (IntKind.wrap IntKind.i64 (IntKind.wrap IntKind.i64 (IntKind.wrap IntKind.u8 (b - (65 : Int))) + (10 : Int))))) (K (Value.int IntKind.i64 (-1 : Int)))) (K (Value.int IntKind.i64 (-1 : Int))))) (ifK (decide ((65 : Int) ≤ b)) (ifK (decide (b ≤ (70 : Int))) (K (Value.int IntKind.i64 (IntKind.wrap IntKind.i64 (IntKind.wrap IntKind.i64 (IntKind.wrap IntKind.u8 (b - (65 : Int))) + (10 : Int))))) (K (Value.int IntKind.i64 (-1 : Int)))) (K (Value.int IntKind.i64 (-1 : Int)))))) (ifK (decide ((97 : Int) ≤ b)) (ifK (decide (b ≤ (102 : Int))) (K (Value.int IntKind.i64 (IntKind.wrap IntKind.i64 (IntKind.wrap IntKind.i64 (IntKind.wrap IntKind.u8 (b - (97 : Int))) + (10 : Int))))) (ifK (decide ((65 : Int) ≤ b)) (ifK (decide (b ≤ (70 : Int))) (K (Value.int IntKind.i64 (IntKind.wrap IntKind.i64 (IntKind.wrap IntKind.i64 (IntKind.wrap IntKind.u8 (b - (65 : Int))) + (10 : Int))))) (K (Value.int IntKind.i64 (-1 : Int)))) (K (Value.int IntKind.i64 (-1 : Int))))) (ifK (decide ((65 : Int) ≤ b)) (ifK (decide (b ≤ (70 : Int))) (K (Value.int IntKind.i64 (IntKind.wrap IntKind.i64 (IntKind.wrap IntKind.i64 (IntKind.wrap IntKind.u8 (b - (65 : Int))) + (10 : Int))))) (K (Value.int IntKind.i64 (-1 : Int)))) (K (Value.int IntKind.i64 (-1 : Int)))))) := by kernel_rfl
end Go.Ev

/- The summary of the document's digit. -/
namespace Go.Ev
open Go Go.Proofs Go.RowKit
set_option linter.unusedVariables false
set_option linter.unusedSimpArgs false
set_option maxRecDepth 100000
set_option maxHeartbeats 4000000
def digG : List Value → Option (Bool × Value)
  | [.int .u8 b] => some (decide (0 ≤ b ∧ b < 256), vi (woth b))
  | _ => none
theorem woth_all : ∀ x : Fin 256, woth (x.val : Int) = if 48 ≤ x.val ∧ x.val ≤ 57 then (x.val : Int) - 48 else if 97 ≤ x.val ∧ x.val ≤ 102 then (x.val : Int) - 87 else if 65 ≤ x.val ∧ x.val ≤ 70 then (x.val : Int) - 55 else -1 := by decide +kernel
theorem woth_eq {b : Int} (h0 : 0 ≤ b) (h1 : b < 256) : woth b = if 48 ≤ b ∧ b ≤ 57 then b - 48 else if 97 ≤ b ∧ b ≤ 102 then b - 87 else if 65 ≤ b ∧ b ≤ 70 then b - 55 else -1 := by
  have h := woth_all ⟨b.toNat, by omega⟩
  simp only at h
  rw [show ((b.toNat : Nat) : Int) = b by omega] at h
  rw [h]
  repeat' split
  all_goals first | rfl | omega
theorem dig_ok : SumOk ptS.P 33 (pureS digG) := by
  refine sumOk_evalK psT psF psO psM (fun _ _ => none) 30 Tryd.func33 (by kernel_rfl) (by decide) fun args v hg => ?_
  unfold digG at hg
  split at hg
  case h_2 => cases hg
  rename_i b
  simp only [Option.some.injEq, Prod.mk.injEq] at hg
  obtain ⟨hb, rfl⟩ := hg
  obtain ⟨h0, h1⟩ := of_decide_eq_true hb
  refine ⟨rfl, rfl, ?_⟩
  rw [digR]
  have t : ∀ x, x = woth b → vi x = vi (woth b) := fun x h => by rw [h]
  repeat' (with_reducible refine ifK_dec (fun _ => ?_) (fun _ => ?_))
  all_goals
    refine t _ ?_
    rw [woth_eq h0 h1]
    (try simp only [wr_i64, wr_u8])
    repeat' split
    all_goals omega
noncomputable def ptdSumms : List (Nat × BSumm) := (33, liftS (pureS digG)) :: psSumms
theorem ptdSO : BSumsOk Tryd.prog ptdSumms := ⟨dig_ok.lift, psSO⟩
noncomputable def ptD : Env := mkEnvB Tryd.prog ptPlans ptExts fun f => look f ptdSumms
theorem pdT : ptD.TOk := tOkB_of (by kernel_rfl) ptX
theorem pdF : ptD.FOk ptD.ok := fOkB_of (by kernel_rfl)
theorem pdO : ptD.SOk := sOkB_of ptdSO
theorem pdM : ptD.P.follows .mixedOrders = true := by kernel_rfl
end Go.Ev

/- The document's undo, Escape, cut: what their ways come to; no condition. -/
namespace Go.Ev
open Go Go.Proofs Go.RowKit
set_option linter.unusedVariables false
set_option maxRecDepth 100000
set_option maxHeartbeats 4000000
noncomputable abbrev ruB : Code := bodyOf Tryd.prog 20
def ruHint : FuncId → Tmp → Option Hint := fun f t => (look f [(20, [(22, Hint.full), (70, Hint.full)])]).bind (look t)
def ruP : List Bool := [true, true, false, true, false]
def ruCuts : Cuts := [(ruP, [⟨1, [0,4,5], [(4,[])], false⟩, ⟨0, [0,4,5], [], false⟩])]
theorem ruS (s : ByteArray) (R : RFun) (Q : Value → AHeap → Prop) :
   startA ptD ruHint 30 20 20 0 75 ruCuts R ruB ([.string s] ++ List.replicate 74 undef) AHeap.empty (endGK ptD [.tmp 2, .tmp 3] 0 [[]] Q)
   = (R 0 none [] [Value.string s, Value.slice none 0 0, vi (0 : Int)] { size := 0, tr := Tr.nil }) := by kernel_rfl
theorem ru0 (s : ByteArray) (m : Nat) (i : Int) (R : RFun) (Q : Value → AHeap → Prop) :
   segA ptD ruHint 30 20 20 0 75 ruCuts R ruB ruP [] m [0,4,5] [.string s, nl, vi i] AHeap.empty (endGK ptD [.tmp 2, .tmp 3] 0 [[]] Q)
   = (ifK (decide (i < (↑(ByteArray.size s) : Int))) (ifK (decide ((0 : Int) ≤ i ∧ i < (↑(ByteArray.size s) : Int))) (ifK (!decide (byteAt s i = (37 : Int))) (ifK (decide ((0 : Int) ≤ i ∧ i < (↑(ByteArray.size s) : Int))) (R 1 (some m) [] [Value.string s, Value.slice (some { block := 0, off := 0 }) 1 1, vi (IntKind.wrap IntKind.i64 (i + (1 : Int)))] { size := 1, tr := Tr.node (some (AObj.cells [Value.int IntKind.u8 (byteAt s i)] (⟨1, some 5, true⟩ : ET) St.live [])) Tr.nil Tr.nil }) False) (ifK (decide ((↑(ByteArray.size s) : Int) ≤ IntKind.wrap IntKind.i64 (i + (2 : Int)))) (Q (Value.tuple { toList := [Value.string (⟨#[]⟩ : ByteArray), Value.bool false] }) { size := 0, tr := Tr.nil }) (ifK (decide ((0 : Int) ≤ IntKind.wrap IntKind.i64 (i + (1 : Int)) ∧ IntKind.wrap IntKind.i64 (i + (1 : Int)) < (↑(ByteArray.size s) : Int))) (ifK (decide ((0 : Int) ≤ byteAt s (IntKind.wrap IntKind.i64 (i + (1 : Int))) ∧ byteAt s (IntKind.wrap IntKind.i64 (i + (1 : Int))) < (256 : Int))) (ifK (decide (woth (byteAt s (IntKind.wrap IntKind.i64 (i + (1 : Int)))) < (0 : Int))) (Q (Value.tuple { toList := [Value.string (⟨#[]⟩ : ByteArray), Value.bool false] }) { size := 0, tr := Tr.nil }) (ifK (decide ((0 : Int) ≤ IntKind.wrap IntKind.i64 (i + (2 : Int)) ∧ IntKind.wrap IntKind.i64 (i + (2 : Int)) < (↑(ByteArray.size s) : Int))) (ifK (decide ((0 : Int) ≤ byteAt s (IntKind.wrap IntKind.i64 (i + (2 : Int))) ∧ byteAt s (IntKind.wrap IntKind.i64 (i + (2 : Int))) < (256 : Int))) (ifK (decide (woth (byteAt s (IntKind.wrap IntKind.i64 (i + (2 : Int)))) < (0 : Int))) (Q (Value.tuple { toList := [Value.string (⟨#[]⟩ : ByteArray), Value.bool false] }) { size := 0, tr := Tr.nil }) (ifK (decide ((0 : Int) ≤ IntKind.wrap IntKind.i64 (i + (1 : Int)) ∧ IntKind.wrap IntKind.i64 (i + (1 : Int)) < (↑(ByteArray.size s) : Int))) (ifK (decide ((0 : Int) ≤ IntKind.wrap IntKind.i64 (i + (2 : Int)) ∧ IntKind.wrap IntKind.i64 (i + (2 : Int)) < (↑(ByteArray.size s) : Int))) (ifK (decide ((0 : Int) ≤ byteAt s (IntKind.wrap IntKind.i64 (i + (1 : Int))) ∧ byteAt s (IntKind.wrap IntKind.i64 (i + (1 : Int))) < (256 : Int))) (ifK (decide ((0 : Int) ≤ byteAt s (IntKind.wrap IntKind.i64 (i + (2 : Int))) ∧ byteAt s (IntKind.wrap IntKind.i64 (i + (2 : Int))) < (256 : Int))) (ifK (decide (IntKind.wrap IntKind.i64 (IntKind.wrap IntKind.i64 ((16 : Int) * woth (byteAt s (IntKind.wrap IntKind.i64 (i + (1 : Int))))) + woth (byteAt s (IntKind.wrap IntKind.i64 (i + (2 : Int))))) < (32 : Int))) (Q (Value.tuple { toList := [Value.string (⟨#[]⟩ : ByteArray), Value.bool false] }) { size := 0, tr := Tr.nil }) (ifK (decide (IntKind.wrap IntKind.i64 (IntKind.wrap IntKind.i64 ((16 : Int) * woth (byteAt s (IntKind.wrap IntKind.i64 (i + (1 : Int))))) + woth (byteAt s (IntKind.wrap IntKind.i64 (i + (2 : Int))))) = (127 : Int))) (Q (Value.tuple { toList := [Value.string (⟨#[]⟩ : ByteArray), Value.bool false] }) { size := 0, tr := Tr.nil }) (ifK (decide (IntKind.wrap IntKind.i64 (IntKind.wrap IntKind.i64 ((16 : Int) * woth (byteAt s (IntKind.wrap IntKind.i64 (i + (1 : Int))))) + woth (byteAt s (IntKind.wrap IntKind.i64 (i + (2 : Int))))) = (47 : Int))) (Q (Value.tuple { toList := [Value.string (⟨#[]⟩ : ByteArray), Value.bool false] }) { size := 0, tr := Tr.nil }) (R 1 (some m) [] [Value.string s, Value.slice (some { block := 0, off := 0 }) 1 1, vi (IntKind.wrap IntKind.i64 (IntKind.wrap IntKind.i64 (i + (2 : Int)) + (1 : Int)))] { size := 1, tr := Tr.node (some (AObj.cells [Value.int IntKind.u8 (IntKind.wrap IntKind.u8 (IntKind.wrap IntKind.i64 (IntKind.wrap IntKind.i64 ((16 : Int) * woth (byteAt s (IntKind.wrap IntKind.i64 (i + (1 : Int))))) + woth (byteAt s (IntKind.wrap IntKind.i64 (i + (2 : Int)))))))] (⟨1, some 5, true⟩ : ET) St.live [])) Tr.nil Tr.nil })))) False) False) False) False)) False) False)) False) False))) False) (Q (Value.tuple { toList := [Value.string (⟨⟨[]⟩⟩ : ByteArray), Value.bool true] }) { size := 0, tr := Tr.nil })) := by kernel_rfl
theorem ru1 (s : ByteArray) (m n : Nat) (i : Int) (B : List Value) (R : RFun) (Q : Value → AHeap → Prop) :
   segA ptD ruHint 30 20 20 0 75 ruCuts R ruB ruP [] m [0,4,5] [.string s, slb 0 n, vi i] (uH B) (endGK ptD [.tmp 2, .tmp 3] 0 [[]] Q)
   = (ifK (decide (i < (↑(ByteArray.size s) : Int))) (ifK (decide ((0 : Int) ≤ i ∧ i < (↑(ByteArray.size s) : Int))) (ifK (!decide (byteAt s i = (37 : Int))) (ifK (decide ((0 : Int) ≤ i ∧ i < (↑(ByteArray.size s) : Int))) (ifK (n == n) (ifK (decide (0 + n * 1 = List.length B ∧ n ≤ n ∧ (n + 1) * 1 ≤ 140737488355328 ∧ n + 1 < 4611686018427387904)) (R 1 (some m) [] [Value.string s, Value.slice (some { block := 0, off := 0 }) (n + 1) (n + 1), vi (IntKind.wrap IntKind.i64 (i + (1 : Int)))] { size := 1, tr := Tr.node (some (AObj.cells (List.map (renV [2]) (List.take (n * 1) (List.drop 0 B) ++ [Value.int IntKind.u8 (byteAt s i)])) (⟨1, some 5, true⟩ : ET) St.live [])) Tr.nil Tr.nil }) False) False) False) (ifK (decide ((↑(ByteArray.size s) : Int) ≤ IntKind.wrap IntKind.i64 (i + (2 : Int)))) (Q (Value.tuple { toList := [Value.string (⟨#[]⟩ : ByteArray), Value.bool false] }) { size := 0, tr := Tr.nil }) (ifK (decide ((0 : Int) ≤ IntKind.wrap IntKind.i64 (i + (1 : Int)) ∧ IntKind.wrap IntKind.i64 (i + (1 : Int)) < (↑(ByteArray.size s) : Int))) (ifK (decide ((0 : Int) ≤ byteAt s (IntKind.wrap IntKind.i64 (i + (1 : Int))) ∧ byteAt s (IntKind.wrap IntKind.i64 (i + (1 : Int))) < (256 : Int))) (ifK (decide (woth (byteAt s (IntKind.wrap IntKind.i64 (i + (1 : Int)))) < (0 : Int))) (Q (Value.tuple { toList := [Value.string (⟨#[]⟩ : ByteArray), Value.bool false] }) { size := 0, tr := Tr.nil }) (ifK (decide ((0 : Int) ≤ IntKind.wrap IntKind.i64 (i + (2 : Int)) ∧ IntKind.wrap IntKind.i64 (i + (2 : Int)) < (↑(ByteArray.size s) : Int))) (ifK (decide ((0 : Int) ≤ byteAt s (IntKind.wrap IntKind.i64 (i + (2 : Int))) ∧ byteAt s (IntKind.wrap IntKind.i64 (i + (2 : Int))) < (256 : Int))) (ifK (decide (woth (byteAt s (IntKind.wrap IntKind.i64 (i + (2 : Int)))) < (0 : Int))) (Q (Value.tuple { toList := [Value.string (⟨#[]⟩ : ByteArray), Value.bool false] }) { size := 0, tr := Tr.nil }) (ifK (decide ((0 : Int) ≤ IntKind.wrap IntKind.i64 (i + (1 : Int)) ∧ IntKind.wrap IntKind.i64 (i + (1 : Int)) < (↑(ByteArray.size s) : Int))) (ifK (decide ((0 : Int) ≤ IntKind.wrap IntKind.i64 (i + (2 : Int)) ∧ IntKind.wrap IntKind.i64 (i + (2 : Int)) < (↑(ByteArray.size s) : Int))) (ifK (decide ((0 : Int) ≤ byteAt s (IntKind.wrap IntKind.i64 (i + (1 : Int))) ∧ byteAt s (IntKind.wrap IntKind.i64 (i + (1 : Int))) < (256 : Int))) (ifK (decide ((0 : Int) ≤ byteAt s (IntKind.wrap IntKind.i64 (i + (2 : Int))) ∧ byteAt s (IntKind.wrap IntKind.i64 (i + (2 : Int))) < (256 : Int))) (ifK (decide (IntKind.wrap IntKind.i64 (IntKind.wrap IntKind.i64 ((16 : Int) * woth (byteAt s (IntKind.wrap IntKind.i64 (i + (1 : Int))))) + woth (byteAt s (IntKind.wrap IntKind.i64 (i + (2 : Int))))) < (32 : Int))) (Q (Value.tuple { toList := [Value.string (⟨#[]⟩ : ByteArray), Value.bool false] }) { size := 0, tr := Tr.nil }) (ifK (decide (IntKind.wrap IntKind.i64 (IntKind.wrap IntKind.i64 ((16 : Int) * woth (byteAt s (IntKind.wrap IntKind.i64 (i + (1 : Int))))) + woth (byteAt s (IntKind.wrap IntKind.i64 (i + (2 : Int))))) = (127 : Int))) (Q (Value.tuple { toList := [Value.string (⟨#[]⟩ : ByteArray), Value.bool false] }) { size := 0, tr := Tr.nil }) (ifK (decide (IntKind.wrap IntKind.i64 (IntKind.wrap IntKind.i64 ((16 : Int) * woth (byteAt s (IntKind.wrap IntKind.i64 (i + (1 : Int))))) + woth (byteAt s (IntKind.wrap IntKind.i64 (i + (2 : Int))))) = (47 : Int))) (Q (Value.tuple { toList := [Value.string (⟨#[]⟩ : ByteArray), Value.bool false] }) { size := 0, tr := Tr.nil }) (ifK (n == n) (ifK (decide (0 + n * 1 = List.length B ∧ n ≤ n ∧ (n + 1) * 1 ≤ 140737488355328 ∧ n + 1 < 4611686018427387904)) (R 1 (some m) [] [Value.string s, Value.slice (some { block := 0, off := 0 }) (n + 1) (n + 1), vi (IntKind.wrap IntKind.i64 (IntKind.wrap IntKind.i64 (i + (2 : Int)) + (1 : Int)))] { size := 1, tr := Tr.node (some (AObj.cells (List.map (renV [2]) (List.take (n * 1) (List.drop 0 B) ++ [Value.int IntKind.u8 (IntKind.wrap IntKind.u8 (IntKind.wrap IntKind.i64 (IntKind.wrap IntKind.i64 ((16 : Int) * woth (byteAt s (IntKind.wrap IntKind.i64 (i + (1 : Int))))) + woth (byteAt s (IntKind.wrap IntKind.i64 (i + (2 : Int)))))))])) (⟨1, some 5, true⟩ : ET) St.live [])) Tr.nil Tr.nil }) False) False)))) False) False) False) False)) False) False)) False) False))) False) (ifK (decide (0 + n ≤ List.length B) && u8s (List.take n (List.drop 0 B))) (Q (Value.tuple { toList := [Value.string (⟨⟨bytesFrom (List.take n (List.drop 0 B))⟩⟩ : ByteArray), Value.bool true] }) { size := 0, tr := Tr.nil }) False)) := by kernel_rfl
noncomputable abbrev ctB : Code := bodyOf Tryd.prog 21
def ctHint : FuncId → Tmp → Option Hint := fun f t => (look f [(21, [(28, Hint.full)])]).bind (look t)
def ctP : List Bool := [true, true, true, false, true, false]
def ctCuts : Cuts := [(ctP, [⟨1, [0,3,4,5], [(3,[])], false⟩, ⟨0, [0,3,4,5], [], false⟩])]
theorem ctS (s : ByteArray) (R : RFun) (Q : Value → AHeap → Prop) :
   startA ptD ctHint 30 20 21 0 32 ctCuts R ctB ([.string s] ++ List.replicate 31 undef) AHeap.empty (endGK ptD [.tmp 2] 0 [[(0,[])]] Q)
   = (R 0 none [] [Value.string s, Value.slice none 0 0, vi (0 : Int), vi (0 : Int)] { size := 0, tr := Tr.nil }) := by kernel_rfl
theorem ct0 (s : ByteArray) (m : Nat) (a i : Int) (R : RFun) (Q : Value → AHeap → Prop) :
   segA ptD ctHint 30 20 21 0 32 ctCuts R ctB ctP [] m [0,3,4,5] [.string s, nl, vi a, vi i] AHeap.empty (endGK ptD [.tmp 2] 0 [[(0,[])]] Q)
   = (ifK (decide (i ≤ (↑(ByteArray.size s) : Int))) (ifK (decide (i = (↑(ByteArray.size s) : Int))) (ifK (decide ((0 : Int) ≤ a ∧ a ≤ i ∧ i ≤ (↑(ByteArray.size s) : Int))) (R 1 (some m) [] [Value.string s, Value.slice (some { block := 0, off := 0 }) 1 1, vi (IntKind.wrap IntKind.i64 (i + (1 : Int))), vi (IntKind.wrap IntKind.i64 (i + (1 : Int)))] { size := 1, tr := Tr.node (some (AObj.cells [Value.string (ByteArray.extract s (Int.toNat a) (Int.toNat i))] (⟨1, some 9, true⟩ : ET) St.live [])) Tr.nil Tr.nil }) False) (ifK (decide ((0 : Int) ≤ i ∧ i < (↑(ByteArray.size s) : Int))) (ifK (decide (byteAt s i = (47 : Int))) (ifK (decide ((0 : Int) ≤ a ∧ a ≤ i ∧ i ≤ (↑(ByteArray.size s) : Int))) (R 1 (some m) [] [Value.string s, Value.slice (some { block := 0, off := 0 }) 1 1, vi (IntKind.wrap IntKind.i64 (i + (1 : Int))), vi (IntKind.wrap IntKind.i64 (i + (1 : Int)))] { size := 1, tr := Tr.node (some (AObj.cells [Value.string (ByteArray.extract s (Int.toNat a) (Int.toNat i))] (⟨1, some 9, true⟩ : ET) St.live [])) Tr.nil Tr.nil }) False) (R 0 (some m) [] [Value.string s, Value.slice none 0 0, vi a, vi (IntKind.wrap IntKind.i64 (i + (1 : Int)))] { size := 0, tr := Tr.nil })) False)) False) := by kernel_rfl
theorem ct1 (s : ByteArray) (m n : Nat) (a i : Int) (P : List Value) (R : RFun) (Q : Value → AHeap → Prop) :
   segA ptD ctHint 30 20 21 0 32 ctCuts R ctB ctP [] m [0,3,4,5] [.string s, slb 0 n, vi a, vi i] (cH0 P) (endGK ptD [.tmp 2] 0 [[(0,[])]] Q)
   = (ifK (decide (i ≤ (↑(ByteArray.size s) : Int))) (ifK (decide (i = (↑(ByteArray.size s) : Int))) (ifK (decide ((0 : Int) ≤ a ∧ a ≤ i ∧ i ≤ (↑(ByteArray.size s) : Int))) (ifK (n == n) (ifK (decide (0 + n * 1 = List.length P ∧ n ≤ n ∧ (n + 1) * 16 ≤ 140737488355328 ∧ n + 1 < 4611686018427387904)) (R 1 (some m) [] [Value.string s, Value.slice (some { block := 0, off := 0 }) (n + 1) (n + 1), vi (IntKind.wrap IntKind.i64 (i + (1 : Int))), vi (IntKind.wrap IntKind.i64 (i + (1 : Int)))] { size := 1, tr := Tr.node (some (AObj.cells (List.map (renV [2]) (List.take (n * 1) (List.drop 0 P) ++ [Value.string (ByteArray.extract s (Int.toNat a) (Int.toNat i))])) (⟨1, some 9, true⟩ : ET) St.live [])) Tr.nil Tr.nil }) False) False) False) (ifK (decide ((0 : Int) ≤ i ∧ i < (↑(ByteArray.size s) : Int))) (ifK (decide (byteAt s i = (47 : Int))) (ifK (decide ((0 : Int) ≤ a ∧ a ≤ i ∧ i ≤ (↑(ByteArray.size s) : Int))) (ifK (n == n) (ifK (decide (0 + n * 1 = List.length P ∧ n ≤ n ∧ (n + 1) * 16 ≤ 140737488355328 ∧ n + 1 < 4611686018427387904)) (R 1 (some m) [] [Value.string s, Value.slice (some { block := 0, off := 0 }) (n + 1) (n + 1), vi (IntKind.wrap IntKind.i64 (i + (1 : Int))), vi (IntKind.wrap IntKind.i64 (i + (1 : Int)))] { size := 1, tr := Tr.node (some (AObj.cells (List.map (renV [2]) (List.take (n * 1) (List.drop 0 P) ++ [Value.string (ByteArray.extract s (Int.toNat a) (Int.toNat i))])) (⟨1, some 9, true⟩ : ET) St.live [])) Tr.nil Tr.nil }) False) False) False) (R 1 (some m) [] [Value.string s, Value.slice (some { block := 0, off := 0 }) n n, vi a, vi (IntKind.wrap IntKind.i64 (i + (1 : Int)))] { size := 1, tr := Tr.node (some (AObj.cells (List.map (renV [0]) P) (⟨1, some (nat_lit 9), true⟩ : ET) St.live [])) Tr.nil Tr.nil })) False)) (Q (Value.slice (some { block := 0, off := 0 }) n n) { size := 1, tr := Tr.node (some (AObj.cells (List.map (renV [0]) P) (⟨1, some (nat_lit 9), true⟩ : ET) St.live [])) Tr.nil Tr.nil })) := by kernel_rfl
end Go.Ev

/- The summary of the document's undo. -/
namespace Go.Ev
open Go Go.Proofs Go.RowKit
set_option linter.unusedVariables false
set_option linter.unusedSimpArgs false
set_option maxRecDepth 100000
set_option maxHeartbeats 4000000
abbrev ruSeg (s : ByteArray) (m : Nat) (vs : List Value) (H : AHeap) : Prop := segA ptD ruHint 30 20 20 0 75 ruCuts (ofI (uI s)) ruB ruP [] m [0,4,5] vs H (endGK ptD [.tmp 2, .tmp 3] 0 [[]] (UQ s))
theorem ruseg1 {s : ByteArray} (hs : s.size ≤ 1000000000000) (m : Nat) (vs : List Value) (H : AHeap) (hI : uI s 1 [] m vs H) : Hd (ruSeg s m vs H) := by
  obtain ⟨i, B, rfl, rfl, hi, hB, hgo, rfl⟩ := hI
  have hbl : (bcells B).length = B.length := List.length_map _
  have ht : List.take (B.length * 1) (List.drop 0 (bcells B)) = bcells B := by rw [List.drop_zero, List.take_of_length_le (by omega)]
  have ht1 : List.take B.length (List.drop 0 (bcells B)) = bcells B := by rw [List.drop_zero, List.take_of_length_le (by omega)]
  constructor
  unfold ruSeg
  rw [ru1]
  refine ifK_dec (fun h => ?_) (fun h => ?_)
  · obtain ⟨b, hb, hd⟩ := dropAt (s := s) (i := i) (by omega)
    rw [hd] at hgo
    have hw1 : IntKind.wrap IntKind.i64 ((i : Int) + 1) = ((i + 1 : Nat) : Int) := by rw [wr_i64]; omega
    have hw2 : IntKind.wrap IntKind.i64 ((i : Int) + 2) = ((i + 2 : Nat) : Int) := by rw [wr_i64]; omega
    have hw3 : IntKind.wrap IntKind.i64 (((i + 2 : Nat) : Int) + 1) = ((i + 3 : Nat) : Int) := by rw [wr_i64]; omega
    have hw4 : IntKind.wrap IntKind.i64 ((s.size : Int) - i) = (s.size : Int) - i := by rw [wr_i64]; omega
    simp only [hb, hw1, hw2, hw3, hw4, ht, hexR_def]
    refine ifK_dec (fun _ => ?_) (fun h' => absurd ⟨by omega, h⟩ h')
    refine ifK_nd (fun h37 => ?_) (fun h37 => ?_)
    · have e37 : b = 37 := (u8_eq (n := 37) (by decide)).1 h37
      subst e37
      refine ifK_dec (fun h3 => ?_) (fun h3 => ?_)
      · refine uq_none ?_
        rw [← hgo, unGo_short]
        rw [List.length_drop, ba_len]; omega
      · obtain ⟨x, hx, hdx⟩ := dropAt (s := s) (i := i + 1) (by omega)
        obtain ⟨y, hy, hdy⟩ := dropAt (s := s) (i := i + 2) (by omega)
        rw [hdx, hdy] at hgo
        have bx := x.toNat_lt
        have by' := y.toNat_lt
        have wx := woth_bd x.toNat
        have wy := woth_bd y.toNat
        have hv : IntKind.wrap IntKind.i64 (IntKind.wrap IntKind.i64 (16 * woth x.toNat) + woth y.toNat) = 16 * woth x.toNat + woth y.toNat := by rw [wr_i64, wr_i64]; omega
        simp only [hx, hy, hv]
        refine ifK_dec (fun _ => ?_) (fun h' => absurd ⟨by omega, by omega⟩ h')
        refine ifK_dec (fun _ => ?_) (fun h' => absurd ⟨by omega, by omega⟩ h')
        refine ifK_dec (fun q1 => uq_none (by rw [← hgo, unGo_bad (.inl (by omega))])) (fun q1 => ?_)
        refine ifK_dec (fun _ => ?_) (fun h' => absurd ⟨by omega, by omega⟩ h')
        refine ifK_dec (fun _ => ?_) (fun h' => absurd ⟨by omega, by omega⟩ h')
        refine ifK_dec (fun q2 => uq_none (by rw [← hgo, unGo_bad (.inr (.inl q2))])) (fun q2 => ?_)
        refine ifK_dec (fun _ => ?_) (fun h' => absurd ⟨by omega, by omega⟩ h')
        refine ifK_dec (fun _ => ?_) (fun h' => absurd ⟨by omega, by omega⟩ h')
        refine ifK_dec (fun _ => ?_) (fun h' => absurd ⟨by omega, by omega⟩ h')
        refine ifK_dec (fun _ => ?_) (fun h' => absurd ⟨by omega, by omega⟩ h')
        have hc : ((hexC x y).toNat : Int) = 16 * woth x.toNat + woth y.toNat := by rw [hexC_nat, hexR_eq (by omega) (by omega) (by omega) (by omega)]
        have hcb : IntKind.wrap IntKind.u8 (16 * woth x.toNat + woth y.toNat) = (hexC x y).toNat := by rw [wr_u8, hc]; omega
        rw [hcb, ← hc]
        refine ifK_dec (fun q0 => uq_none (by rw [← hgo, unGo_bad (.inl (by omega))])) (fun q0 => ?_)
        refine ifK_dec (fun q3 => uq_none (by rw [← hgo, unGo_bad (.inr (.inr (.inl ((u8_eq (n := 127) (by decide)).1 q3))))])) (fun q3 => ?_)
        refine ifK_dec (fun q4 => uq_none (by rw [← hgo, unGo_bad (.inr (.inr (.inr ((u8_eq (n := 47) (by decide)).1 q4))))])) (fun q4 => ?_)
        rw [unGo_hex (fun hh => by
          rcases hh with hh | hh | hh | hh
          · omega
          · exact q2 hh
          · exact q3 ((u8_eq (n := 127) (by decide)).2 hh)
          · exact q4 ((u8_eq (n := 47) (by decide)).2 hh))] at hgo
        refine ifK_t (by simp) ?_
        refine ifK_dec (fun _ => ?_) (fun h' => absurd ⟨by omega, by omega, by omega, by omega⟩ h')
        refine ⟨s.size - (i + 3), by omega, i + 3, B ++ [hexC x y], ?_, ?_, by omega, by simp; omega, hgo, rfl⟩
        · rw [List.length_append]; rfl
        · have e : bcells B ++ [Value.int .u8 (hexC x y).toNat] = bcells (B ++ [hexC x y]) := by unfold bcells; rw [List.map_append]; rfl
          exact congrArg uH ((congrArg (List.map (renV [2])) e).trans (bcells_ren _ _))
    · have e37 : b ≠ 37 := fun h => h37 ((u8_eq (n := 37) (by decide)).2 h)
      rw [unGo_b e37] at hgo
      refine ifK_dec (fun _ => ?_) (fun h' => absurd ⟨by omega, h⟩ h')
      refine ifK_t (by simp) ?_
      refine ifK_dec (fun _ => ?_) (fun h' => absurd ⟨by omega, by omega, by omega, by omega⟩ h')
      refine ⟨s.size - (i + 1), by omega, i + 1, B ++ [b], ?_, ?_, by omega, by simp; omega, hgo, rfl⟩
      · rw [List.length_append]; rfl
      · have e : bcells B ++ [Value.int .u8 b.toNat] = bcells (B ++ [b]) := by unfold bcells; rw [List.map_append]; rfl
        exact congrArg uH ((congrArg (List.map (renV [2])) e).trans (bcells_ren _ _))
  · have hie : i = s.size := by omega
    rw [ht1, u8s_map, bytesFrom_map]
    refine ifK_t (by rw [Bool.and_true]; exact decide_eq_true (by omega)) ?_
    refine uq_some ?_
    rw [← hgo, hie, List.drop_of_length_le (by rw [ba_len]; exact Nat.le_refl _), unGo_nil]
theorem ruseg0 {s : ByteArray} (hs : s.size ≤ 1000000000000) (m : Nat) (vs : List Value) (H : AHeap) (hI : uI s 0 [] m vs H) : Hd (ruSeg s m vs H) := by
  obtain ⟨rfl, rfl, rfl⟩ := hI
  have hgo : unGo (s.data.toList.drop 0) [] = undoF s := rfl
  constructor
  unfold ruSeg
  rw [ru0]
  refine ifK_dec (fun h => ?_) (fun h => ?_)
  · obtain ⟨b, hb, hd⟩ := dropAt (s := s) (i := 0) (by omega)
    rw [hd] at hgo
    have hw1 : IntKind.wrap IntKind.i64 ((0 : Int) + 1) = ((0 + 1 : Nat) : Int) := by decide
    have hw2 : IntKind.wrap IntKind.i64 ((0 : Int) + 2) = ((0 + 2 : Nat) : Int) := by decide
    have hw3 : IntKind.wrap IntKind.i64 (((0 + 2 : Nat) : Int) + 1) = ((0 + 3 : Nat) : Int) := by decide
    have hw4 : IntKind.wrap IntKind.i64 ((s.size : Int) - 0) = (s.size : Int) := by rw [wr_i64]; omega
    have hb' : byteAt s 0 = b.toNat := hb
    simp only [hb', hw1, hw2, hw3, hw4, hexR_def]
    refine ifK_dec (fun _ => ?_) (fun h' => absurd ⟨by omega, h⟩ h')
    refine ifK_nd (fun h37 => ?_) (fun h37 => ?_)
    · have e37 : b = 37 := (u8_eq (n := 37) (by decide)).1 h37
      subst e37
      refine ifK_dec (fun h3 => ?_) (fun h3 => ?_)
      · refine uq_none ?_
        rw [← hgo, unGo_short]
        rw [List.length_drop, ba_len]; omega
      · obtain ⟨x, hx, hdx⟩ := dropAt (s := s) (i := 0 + 1) (by omega)
        obtain ⟨y, hy, hdy⟩ := dropAt (s := s) (i := 0 + 2) (by omega)
        rw [hdx, hdy] at hgo
        have bx := x.toNat_lt
        have by' := y.toNat_lt
        have wx := woth_bd x.toNat
        have wy := woth_bd y.toNat
        have hv : IntKind.wrap IntKind.i64 (IntKind.wrap IntKind.i64 (16 * woth x.toNat) + woth y.toNat) = 16 * woth x.toNat + woth y.toNat := by rw [wr_i64, wr_i64]; omega
        simp only [hx, hy, hv]
        refine ifK_dec (fun _ => ?_) (fun h' => absurd ⟨by omega, by omega⟩ h')
        refine ifK_dec (fun _ => ?_) (fun h' => absurd ⟨by omega, by omega⟩ h')
        refine ifK_dec (fun q1 => uq_none (by rw [← hgo, unGo_bad (.inl (by omega))])) (fun q1 => ?_)
        refine ifK_dec (fun _ => ?_) (fun h' => absurd ⟨by omega, by omega⟩ h')
        refine ifK_dec (fun _ => ?_) (fun h' => absurd ⟨by omega, by omega⟩ h')
        refine ifK_dec (fun q2 => uq_none (by rw [← hgo, unGo_bad (.inr (.inl q2))])) (fun q2 => ?_)
        refine ifK_dec (fun _ => ?_) (fun h' => absurd ⟨by omega, by omega⟩ h')
        refine ifK_dec (fun _ => ?_) (fun h' => absurd ⟨by omega, by omega⟩ h')
        refine ifK_dec (fun _ => ?_) (fun h' => absurd ⟨by omega, by omega⟩ h')
        refine ifK_dec (fun _ => ?_) (fun h' => absurd ⟨by omega, by omega⟩ h')
        have hc : ((hexC x y).toNat : Int) = 16 * woth x.toNat + woth y.toNat := by rw [hexC_nat, hexR_eq (by omega) (by omega) (by omega) (by omega)]
        have hcb : IntKind.wrap IntKind.u8 (16 * woth x.toNat + woth y.toNat) = (hexC x y).toNat := by rw [wr_u8, hc]; omega
        rw [hcb, ← hc]
        refine ifK_dec (fun q0 => uq_none (by rw [← hgo, unGo_bad (.inl (by omega))])) (fun q0 => ?_)
        refine ifK_dec (fun q3 => uq_none (by rw [← hgo, unGo_bad (.inr (.inr (.inl ((u8_eq (n := 127) (by decide)).1 q3))))])) (fun q3 => ?_)
        refine ifK_dec (fun q4 => uq_none (by rw [← hgo, unGo_bad (.inr (.inr (.inr ((u8_eq (n := 47) (by decide)).1 q4))))])) (fun q4 => ?_)
        rw [unGo_hex (fun hh => by
          rcases hh with hh | hh | hh | hh
          · omega
          · exact q2 hh
          · exact q3 ((u8_eq (n := 127) (by decide)).2 hh)
          · exact q4 ((u8_eq (n := 47) (by decide)).2 hh))] at hgo
        exact ⟨s.size - 3, by omega, 3, [hexC x y], rfl, rfl, by omega, by simp, hgo, rfl⟩
    · have e37 : b ≠ 37 := fun h => h37 ((u8_eq (n := 37) (by decide)).2 h)
      rw [unGo_b e37] at hgo
      refine ifK_dec (fun _ => ?_) (fun h' => absurd ⟨by omega, h⟩ h')
      exact ⟨s.size - 1, by omega, 1, [b], rfl, rfl, by omega, by simp, hgo, rfl⟩
  · refine uq_some ?_
    have : s.data.toList = [] := List.length_eq_zero_iff.1 (by rw [ba_len]; omega)
    rw [← hgo, List.drop_zero, this, unGo_nil]
theorem body20 : Tryd.f20.body = some (bodyOf Tryd.prog 20) := by kernel_rfl
theorem nt20 : Tryd.f20.ntmps = 75 := by kernel_rfl
theorem rs20 : Tryd.f20.results.toList = [.tmp 2, .tmp 3] := by kernel_rfl
theorem dr20 : allDraw (ptD.ok 20) (bodyOf Tryd.prog 20) = true := by kernel_rfl
theorem lo20 : loopsOn ruP ruB = 0 := by kernel_rfl
theorem ru_ok : BSumOk ptD.P 20 (newS unSpec) := by
  refine sumOk_new Tryd.func20 (by kernel_rfl) (by decide) fun args v os hs w cargs ha => ?_
  unfold unSpec at hs
  split at hs
  case h_2 => cases hs
  rename_i s
  have hb := unS_true hs
  have hsz := of_decide_eq_true hb
  rw [hb] at hs
  refine (calls_cutsG pdT pdF pdO pdM ruHint (f := 20) (k := 30) (n := 20) Tryd.func20 body20 nt20 rs20 dr20 (cuts := ruCuts) (I := uI s) (rts := [[]]) (Q := UQ s) (args := [.string s]) (Rel.empty w) ha ⟨?_⟩ ⟨⟨?_, ?_, trivial⟩, trivial⟩).mono ?_
  · show startA ptD ruHint 30 20 20 0 75 ruCuts _ ruB ([.string s] ++ List.replicate 74 undef) AHeap.empty (endGK ptD [.tmp 2, .tmp 3] 0 [[]] _)
    rw [ruS]
    exact ⟨s.size, trivial, rfl, rfl, rfl⟩
  · intro ms hms m vs H hi
    obtain rfl := List.eq_nil_of_length_eq_zero (hms.trans lo20)
    exact ruseg1 hsz m vs H hi
  · intro ms hms m vs H hi
    obtain rfl := List.eq_nil_of_length_eq_zero (hms.trans lo20)
    exact ruseg0 hsz m vs H hi
  · rintro e w' ⟨v', H', ⟨os', h1, rfl⟩, hp⟩
    rw [h1] at hs
    simp only [Option.some.injEq, Prod.mk.injEq, true_and] at hs
    obtain ⟨rfl, rfl⟩ := hs
    exact hp
end Go.Ev

/- The summary of the document's cut. -/
namespace Go.Ev
open Go Go.Proofs Go.RowKit
set_option linter.unusedVariables false
set_option linter.unusedSimpArgs false
set_option maxRecDepth 100000
set_option maxHeartbeats 4000000
theorem tL_inj : ∀ {A B : List ByteArray}, A.map tL = B.map tL → A = B := by
  intro A
  induction A with
  | nil => intro B h; cases B with
    | nil => rfl
    | cons b B => cases h
  | cons a A ih =>
    intro B h
    cases B with
    | nil => cases h
    | cons b B =>
      rw [List.map_cons, List.map_cons] at h
      injection h with h1 h2
      have e : a = b := ba_ext h1
      rw [e, ih h2]
def ctSpec : List Value → SpR
  | [.string s] => .ret (decide (s.size ≤ 1000000000000)) (.slice (some ⟨0, 0, none⟩) (pieces s 47).length (pieces s 47).length) [.cells ((pieces s 47).map Value.string) ⟨1, some 9, true⟩ .live []]
  | _ => .fail
abbrev CtQ (s : ByteArray) (v : Value) (H : AHeap) : Prop := v = slb 0 (pieces s 47).length ∧ H = cH0 ((pieces s 47).map .string)
def ctI (s : ByteArray) (id : Nat) (μ : List Nat) (m : Nat) (vs : List Value) (H : AHeap) : Prop :=
  match id with
  | 0 => ∃ i : Nat, vs = [.string s, nl, vi 0, vi i] ∧ H = AHeap.empty ∧ i ≤ s.size ∧ (∀ k, k < i → (tL s)[k]? ≠ some 47) ∧ m = s.size + 1 - i
  | 1 => ∃ (i a : Nat) (O : List ByteArray), vs = [.string s, slb 0 O.length, vi a, vi i] ∧ H = cH0 (O.map .string) ∧ O.length ≤ i ∧ i ≤ s.size + 1 ∧
      (i ≤ s.size ∧ a ≤ i ∧ (∀ k, a ≤ k → k < i → (tL s)[k]? ≠ some 47) ∧ O.map tL ++ splitL ((tL s).drop a) = splitL (tL s) ∨ i = s.size + 1 ∧ O.map tL = splitL (tL s)) ∧ m = s.size + 1 - i
  | _ => False
abbrev ctSeg (s : ByteArray) (m : Nat) (vs : List Value) (H : AHeap) : Prop := segA ptD ctHint 30 20 21 0 32 ctCuts (ofI (ctI s)) ctB ctP [] m [0,3,4,5] vs H (endGK ptD [.tmp 2] 0 [[(0,[])]] (CtQ s))
theorem run47 {l : List UInt8} {a b : Nat} (h : ∀ k, a ≤ k → k < b → l[k]? ≠ some 47) : ∀ x ∈ (l.take b).drop a, x ≠ 47 := by
  intro x hx hx47
  subst hx47
  obtain ⟨j, hj⟩ := List.mem_iff_getElem?.1 hx
  rw [List.getElem?_drop, List.getElem?_take] at hj
  split at hj
  · exact h (a + j) (by omega) (by assumption) hj
  · cases hj
theorem split_at {s : ByteArray} {a i : Nat} (ha : a ≤ i) (hi : i < s.size) (h47 : (tL s)[i]? = some 47) (h : ∀ k, a ≤ k → k < i → (tL s)[k]? ≠ some 47) : splitL ((tL s).drop a) = tL (s.extract a i) :: splitL ((tL s).drop (i + 1)) := by
  have hl : (tL s).length = s.size := ba_len s
  have hd : (tL s).drop i = 47 :: (tL s).drop (i + 1) := by
    rw [List.drop_eq_getElem_cons (by omega)]
    rw [List.getElem?_eq_getElem (by omega)] at h47
    rw [Option.some.inj h47]
  have e : tL (s.extract a i) = ((tL s).take i).drop a := toList_ext s a i
  have hsp : (tL s).drop a = ((tL s).take i).drop a ++ 47 :: (tL s).drop (i + 1) := by
    rw [← hd]
    conv => lhs; rw [← List.take_append_drop i (tL s)]
    rw [List.drop_append_of_le_length (by rw [List.length_take]; omega)]
  rw [hsp, splitL_app _ _ (run47 h), e]
theorem split_end {s : ByteArray} {a : Nat} (h : ∀ k, a ≤ k → k < s.size → (tL s)[k]? ≠ some 47) : splitL ((tL s).drop a) = [tL (s.extract a s.size)] := by
  have hl : (tL s).length = s.size := ba_len s
  have e : tL (s.extract a s.size) = (tL s).drop a := by
    show (s.extract a s.size).data.toList = _
    rw [toList_ext, List.take_of_length_le (by rw [ba_len]; exact Nat.le_refl _)]
  have hr := run47 h
  rw [List.take_of_length_le (by omega)] at hr
  rw [splitL_one _ hr, e]
theorem byte47 {s : ByteArray} {i : Nat} (hi : i < s.size) : (byteAt s (i : Int) = 47 ↔ (tL s)[i]? = some 47) := by
  obtain ⟨b, h1, h2⟩ := list_byte hi
  rw [h2, show (tL s)[i]? = some b from h1]
  constructor
  · intro h; rw [(u8_eq (n := 47) (by decide)).1 h]; rfl
  · intro h; rw [Option.some.inj h]; rfl
theorem ctseg1 {s : ByteArray} (hs : s.size ≤ 1000000000000) (m : Nat) (vs : List Value) (H : AHeap) (hI : ctI s 1 [] m vs H) : Hd (ctSeg s m vs H) := by
  obtain ⟨i, a, O, rfl, rfl, hO, hi, hc, rfl⟩ := hI
  have hml : (O.map Value.string).length = O.length := List.length_map _
  have ht : List.take (O.length * 1) (List.drop 0 (O.map Value.string)) = O.map Value.string := by rw [List.drop_zero, List.take_of_length_le (by omega)]
  have hw1 : IntKind.wrap IntKind.i64 ((i : Int) + 1) = ((i + 1 : Nat) : Int) := by rw [wr_i64]; omega
  constructor
  unfold ctSeg
  rw [ct1]
  simp only [hw1, ht, strs_ren, Int.toNat_natCast]
  have put : ∀ x : ByteArray, (O.map Value.string ++ [Value.string x]) = (O ++ [x]).map Value.string := fun x => by rw [List.map_append]; rfl
  refine ifK_dec (fun h => ?_) (fun h => ?_)
  · rcases hc with ⟨h1, h2, h3, h4⟩ | ⟨h1, _⟩
    case inr => omega
    refine ifK_dec (fun he => ?_) (fun he => ?_)
    · have hie : i = s.size := by omega
      refine ifK_dec (fun _ => ?_) (fun h' => absurd ⟨by omega, by omega, by omega⟩ h')
      refine ifK_t (by simp) ?_
      refine ifK_dec (fun _ => ?_) (fun h' => absurd ⟨by omega, by omega, by omega, by omega⟩ h')
      rw [put, strs_ren]
      refine ⟨s.size + 1 - (i + 1), by omega, i + 1, i + 1, O ++ [s.extract a i], ?_, rfl, by simp; omega, by omega, .inr ⟨by omega, ?_⟩, rfl⟩
      · rw [List.length_append]; rfl
      · rw [List.map_append, ← h4, split_end (fun k k1 k2 => h3 k k1 (by omega)), hie]; rfl
    · refine ifK_dec (fun _ => ?_) (fun h' => absurd ⟨by omega, by omega⟩ h')
      refine ifK_dec (fun h47 => ?_) (fun h47 => ?_)
      · have hb := (byte47 (by omega)).1 h47
        refine ifK_dec (fun _ => ?_) (fun h' => absurd ⟨by omega, by omega, by omega⟩ h')
        refine ifK_t (by simp) ?_
        refine ifK_dec (fun _ => ?_) (fun h' => absurd ⟨by omega, by omega, by omega, by omega⟩ h')
        rw [put, strs_ren]
        refine ⟨s.size + 1 - (i + 1), by omega, i + 1, i + 1, O ++ [s.extract a i], ?_, rfl, by simp; omega, by omega, .inl ⟨by omega, by omega, fun k k1 k2 => by omega, ?_⟩, rfl⟩
        · rw [List.length_append]; rfl
        · rw [List.map_append, ← h4, split_at h2 (by omega) hb h3, List.append_assoc]; rfl
      · have hb : (tL s)[i]? ≠ some 47 := fun h => h47 ((byte47 (by omega)).2 h)
        refine ⟨s.size + 1 - (i + 1), by omega, i + 1, a, O, rfl, rfl, by omega, by omega, .inl ⟨by omega, by omega, fun k k1 k2 => ?_, h4⟩, rfl⟩
        by_cases hk : k = i
        · subst hk; exact hb
        · exact h3 k k1 (by omega)
  · rcases hc with ⟨h1, _⟩ | ⟨_, h4⟩
    case inl => omega
    have e : O = pieces s 47 := tL_inj (h4.trans (pieces_eq s).symm)
    subst e
    exact ⟨rfl, rfl⟩
theorem ctseg0 {s : ByteArray} (hs : s.size ≤ 1000000000000) (m : Nat) (vs : List Value) (H : AHeap) (hI : ctI s 0 [] m vs H) : Hd (ctSeg s m vs H) := by
  obtain ⟨i, rfl, rfl, hi, h3, rfl⟩ := hI
  have hw1 : IntKind.wrap IntKind.i64 ((i : Int) + 1) = ((i + 1 : Nat) : Int) := by rw [wr_i64]; omega
  constructor
  unfold ctSeg
  rw [ct0]
  simp only [hw1, Int.toNat_natCast, show Int.toNat (0 : Int) = 0 from rfl]
  refine ifK_dec (fun h => ?_) (fun h => absurd (by omega) h)
  refine ifK_dec (fun he => ?_) (fun he => ?_)
  · have hie : i = s.size := by omega
    refine ifK_dec (fun _ => ?_) (fun h' => absurd ⟨by omega, by omega, by omega⟩ h')
    refine ⟨s.size + 1 - (i + 1), by omega, i + 1, i + 1, [s.extract 0 i], rfl, rfl, by simp, by omega, .inr ⟨by omega, ?_⟩, rfl⟩
    have e := split_end (s := s) (a := 0) (fun k k1 k2 => h3 k (by omega))
    rw [List.drop_zero] at e
    rw [e, hie]; rfl
  · refine ifK_dec (fun _ => ?_) (fun h' => absurd ⟨by omega, by omega⟩ h')
    refine ifK_dec (fun h47 => ?_) (fun h47 => ?_)
    · have hb := (byte47 (by omega)).1 h47
      refine ifK_dec (fun _ => ?_) (fun h' => absurd ⟨by omega, by omega, by omega⟩ h')
      refine ⟨s.size + 1 - (i + 1), by omega, i + 1, i + 1, [s.extract 0 i], rfl, rfl, by simp, by omega, .inl ⟨by omega, by omega, fun k k1 k2 => by omega, ?_⟩, rfl⟩
      have e := split_at (s := s) (a := 0) (i := i) (by omega) (by omega) hb (fun k k1 k2 => h3 k k2)
      rw [List.drop_zero] at e
      rw [e]; rfl
    · have hb : (tL s)[i]? ≠ some 47 := fun h => h47 ((byte47 (by omega)).2 h)
      refine ⟨s.size + 1 - (i + 1), by omega, i + 1, rfl, rfl, by omega, fun k k2 => ?_, rfl⟩
      by_cases hk : k = i
      · subst hk; exact hb
      · exact h3 k (by omega)
theorem body21 : Tryd.f21.body = some (bodyOf Tryd.prog 21) := by kernel_rfl
theorem nt21 : Tryd.f21.ntmps = 32 := by kernel_rfl
theorem rs21 : Tryd.f21.results.toList = [.tmp 2] := by kernel_rfl
theorem dr21 : allDraw (ptD.ok 21) (bodyOf Tryd.prog 21) = true := by kernel_rfl
theorem lo21 : loopsOn ctP ctB = 0 := by kernel_rfl
theorem ct_ok : BSumOk ptD.P 21 (newS ctSpec) := by
  refine sumOk_new Tryd.func21 (by kernel_rfl) (by decide) fun args v os hs w cargs ha => ?_
  unfold ctSpec at hs
  split at hs
  case h_2 => cases hs
  rename_i s
  simp only [SpR.get, Option.some.injEq, Prod.mk.injEq, decide_eq_true_eq] at hs
  obtain ⟨hs, rfl, rfl⟩ := hs
  refine (calls_cutsG pdT pdF pdO pdM ctHint (f := 21) (k := 30) (n := 20) Tryd.func21 body21 nt21 rs21 dr21 (cuts := ctCuts) (I := ctI s) (rts := [[(0,[])]]) (Q := CtQ s) (args := [.string s]) (Rel.empty w) ha ⟨?_⟩ ⟨⟨?_, ?_, trivial⟩, trivial⟩).mono ?_
  · show startA ptD ctHint 30 20 21 0 32 ctCuts _ ctB ([.string s] ++ List.replicate 31 undef) AHeap.empty (endGK ptD [.tmp 2] 0 [[(0,[])]] _)
    rw [ctS]
    exact ⟨s.size + 1, trivial, 0, rfl, rfl, Nat.zero_le _, fun k hk => by omega, rfl⟩
  · intro ms hms m vs H hi
    obtain rfl := List.eq_nil_of_length_eq_zero (hms.trans lo21)
    exact ctseg1 hs m vs H hi
  · intro ms hms m vs H hi
    obtain rfl := List.eq_nil_of_length_eq_zero (hms.trans lo21)
    exact ctseg0 hs m vs H hi
  · rintro e w' ⟨v', H', ⟨rfl, rfl⟩, hp⟩
    exact hp
end Go.Ev
