/- path.Escape: what its ways come to; no condition. -/
import Derived.Test.YtmjbfdidhakoaaaDoorPtMc
namespace Go.Ev
open Go Go.Proofs Go.RowKit
set_option linter.unusedVariables false
set_option maxRecDepth 100000
set_option maxHeartbeats 4000000
noncomputable abbrev esB : Code := bodyOf Tryd.prog 12
def esHint : FuncId → Tmp → Option Hint := fun f t => (look f [(12, [(22, Hint.full), (48, Hint.full)])]).bind (look t)
def esP : List Bool := [true, true, false, true, false]
def esCuts : Cuts := [(esP, [⟨1, [0,3,7,8], [(3,[])], false⟩, ⟨0, [0,3,7,8], [], false⟩])]
theorem esS (s : ByteArray) (R : RFun) (Q : Value → AHeap → Prop) :
   startA ptQ esHint 30 20 12 0 52 esCuts R esB ([.string s] ++ List.replicate 51 undef) AHeap.empty (endGK ptQ [.tmp 2] 0 [[]] Q)
   = (R 0 none [] [Value.string s, Value.slice none 0 0, vi (↑(ByteArray.size s) : Int), vi (0 : Int)] { size := 0, tr := Tr.nil }) := by kernel_rfl
theorem es0 (s : ByteArray) (m z : Nat) (i : Int) (R : RFun) (Q : Value → AHeap → Prop) :
   segA ptQ esHint 30 20 12 0 52 esCuts R esB esP [] m [0,3,7,8] [.string s, nl, vi z, vi i] AHeap.empty (endGK ptQ [.tmp 2] 0 [[]] Q)
   = (ifK (decide (i < (↑z : Int))) (ifK (decide ((0 : Int) ≤ i ∧ i < (↑(ByteArray.size s) : Int))) (ifK (decide ((97 : Int) ≤ byteAt s i)) (ifK (decide (byteAt s i ≤ (122 : Int))) (R 1 (some m) [] [Value.string s, Value.slice (some { block := 0, off := 0 }) 1 1, vi (↑z : Int), vi (IntKind.wrap IntKind.i64 (i + (1 : Int)))] { size := 1, tr := Tr.node (some (AObj.cells [Value.int IntKind.u8 (byteAt s i)] (⟨1, some 5, true⟩ : ET) St.live [])) Tr.nil Tr.nil }) (ifK (decide ((65 : Int) ≤ byteAt s i)) (ifK (decide (byteAt s i ≤ (90 : Int))) (R 1 (some m) [] [Value.string s, Value.slice (some { block := 0, off := 0 }) 1 1, vi (↑z : Int), vi (IntKind.wrap IntKind.i64 (i + (1 : Int)))] { size := 1, tr := Tr.node (some (AObj.cells [Value.int IntKind.u8 (byteAt s i)] (⟨1, some 5, true⟩ : ET) St.live [])) Tr.nil Tr.nil }) (ifK (decide ((48 : Int) ≤ byteAt s i)) (ifK (decide (byteAt s i ≤ (57 : Int))) (R 1 (some m) [] [Value.string s, Value.slice (some { block := 0, off := 0 }) 1 1, vi (↑z : Int), vi (IntKind.wrap IntKind.i64 (i + (1 : Int)))] { size := 1, tr := Tr.node (some (AObj.cells [Value.int IntKind.u8 (byteAt s i)] (⟨1, some 5, true⟩ : ET) St.live [])) Tr.nil Tr.nil }) (ifK (decide ((0 : Int) ≤ Lib.indexByte [(45 : UInt8), (46 : UInt8), (95 : UInt8), (126 : UInt8), (47 : UInt8)] (Nat.toUInt8 (Int.toNat (byteAt s i))))) (R 1 (some m) [] [Value.string s, Value.slice (some { block := 0, off := 0 }) 1 1, vi (↑z : Int), vi (IntKind.wrap IntKind.i64 (i + (1 : Int)))] { size := 1, tr := Tr.node (some (AObj.cells [Value.int IntKind.u8 (byteAt s i)] (⟨1, some 5, true⟩ : ET) St.live [])) Tr.nil Tr.nil }) (ifK (decide ((0 : Int) ≤ Int.fdiv (byteAt s i) ((2 : Int) ^ min (Int.toNat (4 : Int)) 8) ∧ Int.fdiv (byteAt s i) ((2 : Int) ^ min (Int.toNat (4 : Int)) 8) < (↑(ByteArray.size (⟨#[(48 : UInt8), (49 : UInt8), (50 : UInt8), (51 : UInt8), (52 : UInt8), (53 : UInt8), (54 : UInt8), (55 : UInt8), (56 : UInt8), (57 : UInt8), (65 : UInt8), (66 : UInt8), (67 : UInt8), (68 : UInt8), (69 : UInt8), (70 : UInt8)]⟩ : ByteArray)) : Int))) (ifK (decide ((0 : Int) ≤ IntKind.wrap IntKind.u8 (↑(BitVec.toNat (BitVec.ofInt (IntKind.bits IntKind.u8) (byteAt s i) &&& BitVec.ofInt (IntKind.bits IntKind.u8) (15 : Int))) : Int) ∧ IntKind.wrap IntKind.u8 (↑(BitVec.toNat (BitVec.ofInt (IntKind.bits IntKind.u8) (byteAt s i) &&& BitVec.ofInt (IntKind.bits IntKind.u8) (15 : Int))) : Int) < (↑(ByteArray.size (⟨#[(48 : UInt8), (49 : UInt8), (50 : UInt8), (51 : UInt8), (52 : UInt8), (53 : UInt8), (54 : UInt8), (55 : UInt8), (56 : UInt8), (57 : UInt8), (65 : UInt8), (66 : UInt8), (67 : UInt8), (68 : UInt8), (69 : UInt8), (70 : UInt8)]⟩ : ByteArray)) : Int))) (R 1 (some m) [] [Value.string s, Value.slice (some { block := 0, off := 0 }) 3 3, vi (↑z : Int), vi (IntKind.wrap IntKind.i64 (i + (1 : Int)))] { size := 1, tr := Tr.node (some (AObj.cells [Value.int IntKind.u8 (37 : Int), Value.int IntKind.u8 (byteAt (⟨#[(48 : UInt8), (49 : UInt8), (50 : UInt8), (51 : UInt8), (52 : UInt8), (53 : UInt8), (54 : UInt8), (55 : UInt8), (56 : UInt8), (57 : UInt8), (65 : UInt8), (66 : UInt8), (67 : UInt8), (68 : UInt8), (69 : UInt8), (70 : UInt8)]⟩ : ByteArray) (Int.fdiv (byteAt s i) ((2 : Int) ^ min (Int.toNat (4 : Int)) 8))), Value.int IntKind.u8 (byteAt (⟨#[(48 : UInt8), (49 : UInt8), (50 : UInt8), (51 : UInt8), (52 : UInt8), (53 : UInt8), (54 : UInt8), (55 : UInt8), (56 : UInt8), (57 : UInt8), (65 : UInt8), (66 : UInt8), (67 : UInt8), (68 : UInt8), (69 : UInt8), (70 : UInt8)]⟩ : ByteArray) (IntKind.wrap IntKind.u8 (↑(BitVec.toNat (BitVec.ofInt (IntKind.bits IntKind.u8) (byteAt s i) &&& BitVec.ofInt (IntKind.bits IntKind.u8) (15 : Int))) : Int)))] (⟨1, some 5, true⟩ : ET) St.live [])) Tr.nil Tr.nil }) False) False))) (ifK (decide ((0 : Int) ≤ Lib.indexByte [(45 : UInt8), (46 : UInt8), (95 : UInt8), (126 : UInt8), (47 : UInt8)] (Nat.toUInt8 (Int.toNat (byteAt s i))))) (R 1 (some m) [] [Value.string s, Value.slice (some { block := 0, off := 0 }) 1 1, vi (↑z : Int), vi (IntKind.wrap IntKind.i64 (i + (1 : Int)))] { size := 1, tr := Tr.node (some (AObj.cells [Value.int IntKind.u8 (byteAt s i)] (⟨1, some 5, true⟩ : ET) St.live [])) Tr.nil Tr.nil }) (ifK (decide ((0 : Int) ≤ Int.fdiv (byteAt s i) ((2 : Int) ^ min (Int.toNat (4 : Int)) 8) ∧ Int.fdiv (byteAt s i) ((2 : Int) ^ min (Int.toNat (4 : Int)) 8) < (↑(ByteArray.size (⟨#[(48 : UInt8), (49 : UInt8), (50 : UInt8), (51 : UInt8), (52 : UInt8), (53 : UInt8), (54 : UInt8), (55 : UInt8), (56 : UInt8), (57 : UInt8), (65 : UInt8), (66 : UInt8), (67 : UInt8), (68 : UInt8), (69 : UInt8), (70 : UInt8)]⟩ : ByteArray)) : Int))) (ifK (decide ((0 : Int) ≤ IntKind.wrap IntKind.u8 (↑(BitVec.toNat (BitVec.ofInt (IntKind.bits IntKind.u8) (byteAt s i) &&& BitVec.ofInt (IntKind.bits IntKind.u8) (15 : Int))) : Int) ∧ IntKind.wrap IntKind.u8 (↑(BitVec.toNat (BitVec.ofInt (IntKind.bits IntKind.u8) (byteAt s i) &&& BitVec.ofInt (IntKind.bits IntKind.u8) (15 : Int))) : Int) < (↑(ByteArray.size (⟨#[(48 : UInt8), (49 : UInt8), (50 : UInt8), (51 : UInt8), (52 : UInt8), (53 : UInt8), (54 : UInt8), (55 : UInt8), (56 : UInt8), (57 : UInt8), (65 : UInt8), (66 : UInt8), (67 : UInt8), (68 : UInt8), (69 : UInt8), (70 : UInt8)]⟩ : ByteArray)) : Int))) (R 1 (some m) [] [Value.string s, Value.slice (some { block := 0, off := 0 }) 3 3, vi (↑z : Int), vi (IntKind.wrap IntKind.i64 (i + (1 : Int)))] { size := 1, tr := Tr.node (some (AObj.cells [Value.int IntKind.u8 (37 : Int), Value.int IntKind.u8 (byteAt (⟨#[(48 : UInt8), (49 : UInt8), (50 : UInt8), (51 : UInt8), (52 : UInt8), (53 : UInt8), (54 : UInt8), (55 : UInt8), (56 : UInt8), (57 : UInt8), (65 : UInt8), (66 : UInt8), (67 : UInt8), (68 : UInt8), (69 : UInt8), (70 : UInt8)]⟩ : ByteArray) (Int.fdiv (byteAt s i) ((2 : Int) ^ min (Int.toNat (4 : Int)) 8))), Value.int IntKind.u8 (byteAt (⟨#[(48 : UInt8), (49 : UInt8), (50 : UInt8), (51 : UInt8), (52 : UInt8), (53 : UInt8), (54 : UInt8), (55 : UInt8), (56 : UInt8), (57 : UInt8), (65 : UInt8), (66 : UInt8), (67 : UInt8), (68 : UInt8), (69 : UInt8), (70 : UInt8)]⟩ : ByteArray) (IntKind.wrap IntKind.u8 (↑(BitVec.toNat (BitVec.ofInt (IntKind.bits IntKind.u8) (byteAt s i) &&& BitVec.ofInt (IntKind.bits IntKind.u8) (15 : Int))) : Int)))] (⟨1, some 5, true⟩ : ET) St.live [])) Tr.nil Tr.nil }) False) False)))) (ifK (decide ((48 : Int) ≤ byteAt s i)) (ifK (decide (byteAt s i ≤ (57 : Int))) (R 1 (some m) [] [Value.string s, Value.slice (some { block := 0, off := 0 }) 1 1, vi (↑z : Int), vi (IntKind.wrap IntKind.i64 (i + (1 : Int)))] { size := 1, tr := Tr.node (some (AObj.cells [Value.int IntKind.u8 (byteAt s i)] (⟨1, some 5, true⟩ : ET) St.live [])) Tr.nil Tr.nil }) (ifK (decide ((0 : Int) ≤ Lib.indexByte [(45 : UInt8), (46 : UInt8), (95 : UInt8), (126 : UInt8), (47 : UInt8)] (Nat.toUInt8 (Int.toNat (byteAt s i))))) (R 1 (some m) [] [Value.string s, Value.slice (some { block := 0, off := 0 }) 1 1, vi (↑z : Int), vi (IntKind.wrap IntKind.i64 (i + (1 : Int)))] { size := 1, tr := Tr.node (some (AObj.cells [Value.int IntKind.u8 (byteAt s i)] (⟨1, some 5, true⟩ : ET) St.live [])) Tr.nil Tr.nil }) (ifK (decide ((0 : Int) ≤ Int.fdiv (byteAt s i) ((2 : Int) ^ min (Int.toNat (4 : Int)) 8) ∧ Int.fdiv (byteAt s i) ((2 : Int) ^ min (Int.toNat (4 : Int)) 8) < (↑(ByteArray.size (⟨#[(48 : UInt8), (49 : UInt8), (50 : UInt8), (51 : UInt8), (52 : UInt8), (53 : UInt8), (54 : UInt8), (55 : UInt8), (56 : UInt8), (57 : UInt8), (65 : UInt8), (66 : UInt8), (67 : UInt8), (68 : UInt8), (69 : UInt8), (70 : UInt8)]⟩ : ByteArray)) : Int))) (ifK (decide ((0 : Int) ≤ IntKind.wrap IntKind.u8 (↑(BitVec.toNat (BitVec.ofInt (IntKind.bits IntKind.u8) (byteAt s i) &&& BitVec.ofInt (IntKind.bits IntKind.u8) (15 : Int))) : Int) ∧ IntKind.wrap IntKind.u8 (↑(BitVec.toNat (BitVec.ofInt (IntKind.bits IntKind.u8) (byteAt s i) &&& BitVec.ofInt (IntKind.bits IntKind.u8) (15 : Int))) : Int) < (↑(ByteArray.size (⟨#[(48 : UInt8), (49 : UInt8), (50 : UInt8), (51 : UInt8), (52 : UInt8), (53 : UInt8), (54 : UInt8), (55 : UInt8), (56 : UInt8), (57 : UInt8), (65 : UInt8), (66 : UInt8), (67 : UInt8), (68 : UInt8), (69 : UInt8), (70 : UInt8)]⟩ : ByteArray)) : Int))) (R 1 (some m) [] [Value.string s, Value.slice (some { block := 0, off := 0 }) 3 3, vi (↑z : Int), vi (IntKind.wrap IntKind.i64 (i + (1 : Int)))] { size := 1, tr := Tr.node (some (AObj.cells [Value.int IntKind.u8 (37 : Int), Value.int IntKind.u8 (byteAt (⟨#[(48 : UInt8), (49 : UInt8), (50 : UInt8), (51 : UInt8), (52 : UInt8), (53 : UInt8), (54 : UInt8), (55 : UInt8), (56 : UInt8), (57 : UInt8), (65 : UInt8), (66 : UInt8), (67 : UInt8), (68 : UInt8), (69 : UInt8), (70 : UInt8)]⟩ : ByteArray) (Int.fdiv (byteAt s i) ((2 : Int) ^ min (Int.toNat (4 : Int)) 8))), Value.int IntKind.u8 (byteAt (⟨#[(48 : UInt8), (49 : UInt8), (50 : UInt8), (51 : UInt8), (52 : UInt8), (53 : UInt8), (54 : UInt8), (55 : UInt8), (56 : UInt8), (57 : UInt8), (65 : UInt8), (66 : UInt8), (67 : UInt8), (68 : UInt8), (69 : UInt8), (70 : UInt8)]⟩ : ByteArray) (IntKind.wrap IntKind.u8 (↑(BitVec.toNat (BitVec.ofInt (IntKind.bits IntKind.u8) (byteAt s i) &&& BitVec.ofInt (IntKind.bits IntKind.u8) (15 : Int))) : Int)))] (⟨1, some 5, true⟩ : ET) St.live [])) Tr.nil Tr.nil }) False) False))) (ifK (decide ((0 : Int) ≤ Lib.indexByte [(45 : UInt8), (46 : UInt8), (95 : UInt8), (126 : UInt8), (47 : UInt8)] (Nat.toUInt8 (Int.toNat (byteAt s i))))) (R 1 (some m) [] [Value.string s, Value.slice (some { block := 0, off := 0 }) 1 1, vi (↑z : Int), vi (IntKind.wrap IntKind.i64 (i + (1 : Int)))] { size := 1, tr := Tr.node (some (AObj.cells [Value.int IntKind.u8 (byteAt s i)] (⟨1, some 5, true⟩ : ET) St.live [])) Tr.nil Tr.nil }) (ifK (decide ((0 : Int) ≤ Int.fdiv (byteAt s i) ((2 : Int) ^ min (Int.toNat (4 : Int)) 8) ∧ Int.fdiv (byteAt s i) ((2 : Int) ^ min (Int.toNat (4 : Int)) 8) < (↑(ByteArray.size (⟨#[(48 : UInt8), (49 : UInt8), (50 : UInt8), (51 : UInt8), (52 : UInt8), (53 : UInt8), (54 : UInt8), (55 : UInt8), (56 : UInt8), (57 : UInt8), (65 : UInt8), (66 : UInt8), (67 : UInt8), (68 : UInt8), (69 : UInt8), (70 : UInt8)]⟩ : ByteArray)) : Int))) (ifK (decide ((0 : Int) ≤ IntKind.wrap IntKind.u8 (↑(BitVec.toNat (BitVec.ofInt (IntKind.bits IntKind.u8) (byteAt s i) &&& BitVec.ofInt (IntKind.bits IntKind.u8) (15 : Int))) : Int) ∧ IntKind.wrap IntKind.u8 (↑(BitVec.toNat (BitVec.ofInt (IntKind.bits IntKind.u8) (byteAt s i) &&& BitVec.ofInt (IntKind.bits IntKind.u8) (15 : Int))) : Int) < (↑(ByteArray.size (⟨#[(48 : UInt8), (49 : UInt8), (50 : UInt8), (51 : UInt8), (52 : UInt8), (53 : UInt8), (54 : UInt8), (55 : UInt8), (56 : UInt8), (57 : UInt8), (65 : UInt8), (66 : UInt8), (67 : UInt8), (68 : UInt8), (69 : UInt8), (70 : UInt8)]⟩ : ByteArray)) : Int))) (R 1 (some m) [] [Value.string s, Value.slice (some { block := 0, off := 0 }) 3 3, vi (↑z : Int), vi (IntKind.wrap IntKind.i64 (i + (1 : Int)))] { size := 1, tr := Tr.node (some (AObj.cells [Value.int IntKind.u8 (37 : Int), Value.int IntKind.u8 (byteAt (⟨#[(48 : UInt8), (49 : UInt8), (50 : UInt8), (51 : UInt8), (52 : UInt8), (53 : UInt8), (54 : UInt8), (55 : UInt8), (56 : UInt8), (57 : UInt8), (65 : UInt8), (66 : UInt8), (67 : UInt8), (68 : UInt8), (69 : UInt8), (70 : UInt8)]⟩ : ByteArray) (Int.fdiv (byteAt s i) ((2 : Int) ^ min (Int.toNat (4 : Int)) 8))), Value.int IntKind.u8 (byteAt (⟨#[(48 : UInt8), (49 : UInt8), (50 : UInt8), (51 : UInt8), (52 : UInt8), (53 : UInt8), (54 : UInt8), (55 : UInt8), (56 : UInt8), (57 : UInt8), (65 : UInt8), (66 : UInt8), (67 : UInt8), (68 : UInt8), (69 : UInt8), (70 : UInt8)]⟩ : ByteArray) (IntKind.wrap IntKind.u8 (↑(BitVec.toNat (BitVec.ofInt (IntKind.bits IntKind.u8) (byteAt s i) &&& BitVec.ofInt (IntKind.bits IntKind.u8) (15 : Int))) : Int)))] (⟨1, some 5, true⟩ : ET) St.live [])) Tr.nil Tr.nil }) False) False))))) (ifK (decide ((65 : Int) ≤ byteAt s i)) (ifK (decide (byteAt s i ≤ (90 : Int))) (R 1 (some m) [] [Value.string s, Value.slice (some { block := 0, off := 0 }) 1 1, vi (↑z : Int), vi (IntKind.wrap IntKind.i64 (i + (1 : Int)))] { size := 1, tr := Tr.node (some (AObj.cells [Value.int IntKind.u8 (byteAt s i)] (⟨1, some 5, true⟩ : ET) St.live [])) Tr.nil Tr.nil }) (ifK (decide ((48 : Int) ≤ byteAt s i)) (ifK (decide (byteAt s i ≤ (57 : Int))) (R 1 (some m) [] [Value.string s, Value.slice (some { block := 0, off := 0 }) 1 1, vi (↑z : Int), vi (IntKind.wrap IntKind.i64 (i + (1 : Int)))] { size := 1, tr := Tr.node (some (AObj.cells [Value.int IntKind.u8 (byteAt s i)] (⟨1, some 5, true⟩ : ET) St.live [])) Tr.nil Tr.nil }) (ifK (decide ((0 : Int) ≤ Lib.indexByte [(45 : UInt8), (46 : UInt8), (95 : UInt8), (126 : UInt8), (47 : UInt8)] (Nat.toUInt8 (Int.toNat (byteAt s i))))) (R 1 (some m) [] [Value.string s, Value.slice (some { block := 0, off := 0 }) 1 1, vi (↑z : Int), vi (IntKind.wrap IntKind.i64 (i + (1 : Int)))] { size := 1, tr := Tr.node (some (AObj.cells [Value.int IntKind.u8 (byteAt s i)] (⟨1, some 5, true⟩ : ET) St.live [])) Tr.nil Tr.nil }) (ifK (decide ((0 : Int) ≤ Int.fdiv (byteAt s i) ((2 : Int) ^ min (Int.toNat (4 : Int)) 8) ∧ Int.fdiv (byteAt s i) ((2 : Int) ^ min (Int.toNat (4 : Int)) 8) < (↑(ByteArray.size (⟨#[(48 : UInt8), (49 : UInt8), (50 : UInt8), (51 : UInt8), (52 : UInt8), (53 : UInt8), (54 : UInt8), (55 : UInt8), (56 : UInt8), (57 : UInt8), (65 : UInt8), (66 : UInt8), (67 : UInt8), (68 : UInt8), (69 : UInt8), (70 : UInt8)]⟩ : ByteArray)) : Int))) (ifK (decide ((0 : Int) ≤ IntKind.wrap IntKind.u8 (↑(BitVec.toNat (BitVec.ofInt (IntKind.bits IntKind.u8) (byteAt s i) &&& BitVec.ofInt (IntKind.bits IntKind.u8) (15 : Int))) : Int) ∧ IntKind.wrap IntKind.u8 (↑(BitVec.toNat (BitVec.ofInt (IntKind.bits IntKind.u8) (byteAt s i) &&& BitVec.ofInt (IntKind.bits IntKind.u8) (15 : Int))) : Int) < (↑(ByteArray.size (⟨#[(48 : UInt8), (49 : UInt8), (50 : UInt8), (51 : UInt8), (52 : UInt8), (53 : UInt8), (54 : UInt8), (55 : UInt8), (56 : UInt8), (57 : UInt8), (65 : UInt8), (66 : UInt8), (67 : UInt8), (68 : UInt8), (69 : UInt8), (70 : UInt8)]⟩ : ByteArray)) : Int))) (R 1 (some m) [] [Value.string s, Value.slice (some { block := 0, off := 0 }) 3 3, vi (↑z : Int), vi (IntKind.wrap IntKind.i64 (i + (1 : Int)))] { size := 1, tr := Tr.node (some (AObj.cells [Value.int IntKind.u8 (37 : Int), Value.int IntKind.u8 (byteAt (⟨#[(48 : UInt8), (49 : UInt8), (50 : UInt8), (51 : UInt8), (52 : UInt8), (53 : UInt8), (54 : UInt8), (55 : UInt8), (56 : UInt8), (57 : UInt8), (65 : UInt8), (66 : UInt8), (67 : UInt8), (68 : UInt8), (69 : UInt8), (70 : UInt8)]⟩ : ByteArray) (Int.fdiv (byteAt s i) ((2 : Int) ^ min (Int.toNat (4 : Int)) 8))), Value.int IntKind.u8 (byteAt (⟨#[(48 : UInt8), (49 : UInt8), (50 : UInt8), (51 : UInt8), (52 : UInt8), (53 : UInt8), (54 : UInt8), (55 : UInt8), (56 : UInt8), (57 : UInt8), (65 : UInt8), (66 : UInt8), (67 : UInt8), (68 : UInt8), (69 : UInt8), (70 : UInt8)]⟩ : ByteArray) (IntKind.wrap IntKind.u8 (↑(BitVec.toNat (BitVec.ofInt (IntKind.bits IntKind.u8) (byteAt s i) &&& BitVec.ofInt (IntKind.bits IntKind.u8) (15 : Int))) : Int)))] (⟨1, some 5, true⟩ : ET) St.live [])) Tr.nil Tr.nil }) False) False))) (ifK (decide ((0 : Int) ≤ Lib.indexByte [(45 : UInt8), (46 : UInt8), (95 : UInt8), (126 : UInt8), (47 : UInt8)] (Nat.toUInt8 (Int.toNat (byteAt s i))))) (R 1 (some m) [] [Value.string s, Value.slice (some { block := 0, off := 0 }) 1 1, vi (↑z : Int), vi (IntKind.wrap IntKind.i64 (i + (1 : Int)))] { size := 1, tr := Tr.node (some (AObj.cells [Value.int IntKind.u8 (byteAt s i)] (⟨1, some 5, true⟩ : ET) St.live [])) Tr.nil Tr.nil }) (ifK (decide ((0 : Int) ≤ Int.fdiv (byteAt s i) ((2 : Int) ^ min (Int.toNat (4 : Int)) 8) ∧ Int.fdiv (byteAt s i) ((2 : Int) ^ min (Int.toNat (4 : Int)) 8) < (↑(ByteArray.size (⟨#[(48 : UInt8), (49 : UInt8), (50 : UInt8), (51 : UInt8), (52 : UInt8), (53 : UInt8), (54 : UInt8), (55 : UInt8), (56 : UInt8), (57 : UInt8), (65 : UInt8), (66 : UInt8), (67 : UInt8), (68 : UInt8), (69 : UInt8), (70 : UInt8)]⟩ : ByteArray)) : Int))) (ifK (decide ((0 : Int) ≤ IntKind.wrap IntKind.u8 (↑(BitVec.toNat (BitVec.ofInt (IntKind.bits IntKind.u8) (byteAt s i) &&& BitVec.ofInt (IntKind.bits IntKind.u8) (15 : Int))) : Int) ∧ IntKind.wrap IntKind.u8 (↑(BitVec.toNat (BitVec.ofInt (IntKind.bits IntKind.u8) (byteAt s i) &&& BitVec.ofInt (IntKind.bits IntKind.u8) (15 : Int))) : Int) < (↑(ByteArray.size (⟨#[(48 : UInt8), (49 : UInt8), (50 : UInt8), (51 : UInt8), (52 : UInt8), (53 : UInt8), (54 : UInt8), (55 : UInt8), (56 : UInt8), (57 : UInt8), (65 : UInt8), (66 : UInt8), (67 : UInt8), (68 : UInt8), (69 : UInt8), (70 : UInt8)]⟩ : ByteArray)) : Int))) (R 1 (some m) [] [Value.string s, Value.slice (some { block := 0, off := 0 }) 3 3, vi (↑z : Int), vi (IntKind.wrap IntKind.i64 (i + (1 : Int)))] { size := 1, tr := Tr.node (some (AObj.cells [Value.int IntKind.u8 (37 : Int), Value.int IntKind.u8 (byteAt (⟨#[(48 : UInt8), (49 : UInt8), (50 : UInt8), (51 : UInt8), (52 : UInt8), (53 : UInt8), (54 : UInt8), (55 : UInt8), (56 : UInt8), (57 : UInt8), (65 : UInt8), (66 : UInt8), (67 : UInt8), (68 : UInt8), (69 : UInt8), (70 : UInt8)]⟩ : ByteArray) (Int.fdiv (byteAt s i) ((2 : Int) ^ min (Int.toNat (4 : Int)) 8))), Value.int IntKind.u8 (byteAt (⟨#[(48 : UInt8), (49 : UInt8), (50 : UInt8), (51 : UInt8), (52 : UInt8), (53 : UInt8), (54 : UInt8), (55 : UInt8), (56 : UInt8), (57 : UInt8), (65 : UInt8), (66 : UInt8), (67 : UInt8), (68 : UInt8), (69 : UInt8), (70 : UInt8)]⟩ : ByteArray) (IntKind.wrap IntKind.u8 (↑(BitVec.toNat (BitVec.ofInt (IntKind.bits IntKind.u8) (byteAt s i) &&& BitVec.ofInt (IntKind.bits IntKind.u8) (15 : Int))) : Int)))] (⟨1, some 5, true⟩ : ET) St.live [])) Tr.nil Tr.nil }) False) False)))) (ifK (decide ((48 : Int) ≤ byteAt s i)) (ifK (decide (byteAt s i ≤ (57 : Int))) (R 1 (some m) [] [Value.string s, Value.slice (some { block := 0, off := 0 }) 1 1, vi (↑z : Int), vi (IntKind.wrap IntKind.i64 (i + (1 : Int)))] { size := 1, tr := Tr.node (some (AObj.cells [Value.int IntKind.u8 (byteAt s i)] (⟨1, some 5, true⟩ : ET) St.live [])) Tr.nil Tr.nil }) (ifK (decide ((0 : Int) ≤ Lib.indexByte [(45 : UInt8), (46 : UInt8), (95 : UInt8), (126 : UInt8), (47 : UInt8)] (Nat.toUInt8 (Int.toNat (byteAt s i))))) (R 1 (some m) [] [Value.string s, Value.slice (some { block := 0, off := 0 }) 1 1, vi (↑z : Int), vi (IntKind.wrap IntKind.i64 (i + (1 : Int)))] { size := 1, tr := Tr.node (some (AObj.cells [Value.int IntKind.u8 (byteAt s i)] (⟨1, some 5, true⟩ : ET) St.live [])) Tr.nil Tr.nil }) (ifK (decide ((0 : Int) ≤ Int.fdiv (byteAt s i) ((2 : Int) ^ min (Int.toNat (4 : Int)) 8) ∧ Int.fdiv (byteAt s i) ((2 : Int) ^ min (Int.toNat (4 : Int)) 8) < (↑(ByteArray.size (⟨#[(48 : UInt8), (49 : UInt8), (50 : UInt8), (51 : UInt8), (52 : UInt8), (53 : UInt8), (54 : UInt8), (55 : UInt8), (56 : UInt8), (57 : UInt8), (65 : UInt8), (66 : UInt8), (67 : UInt8), (68 : UInt8), (69 : UInt8), (70 : UInt8)]⟩ : ByteArray)) : Int))) (ifK (decide ((0 : Int) ≤ IntKind.wrap IntKind.u8 (↑(BitVec.toNat (BitVec.ofInt (IntKind.bits IntKind.u8) (byteAt s i) &&& BitVec.ofInt (IntKind.bits IntKind.u8) (15 : Int))) : Int) ∧ IntKind.wrap IntKind.u8 (↑(BitVec.toNat (BitVec.ofInt (IntKind.bits IntKind.u8) (byteAt s i) &&& BitVec.ofInt (IntKind.bits IntKind.u8) (15 : Int))) : Int) < (↑(ByteArray.size (⟨#[(48 : UInt8), (49 : UInt8), (50 : UInt8), (51 : UInt8), (52 : UInt8), (53 : UInt8), (54 : UInt8), (55 : UInt8), (56 : UInt8), (57 : UInt8), (65 : UInt8), (66 : UInt8), (67 : UInt8), (68 : UInt8), (69 : UInt8), (70 : UInt8)]⟩ : ByteArray)) : Int))) (R 1 (some m) [] [Value.string s, Value.slice (some { block := 0, off := 0 }) 3 3, vi (↑z : Int), vi (IntKind.wrap IntKind.i64 (i + (1 : Int)))] { size := 1, tr := Tr.node (some (AObj.cells [Value.int IntKind.u8 (37 : Int), Value.int IntKind.u8 (byteAt (⟨#[(48 : UInt8), (49 : UInt8), (50 : UInt8), (51 : UInt8), (52 : UInt8), (53 : UInt8), (54 : UInt8), (55 : UInt8), (56 : UInt8), (57 : UInt8), (65 : UInt8), (66 : UInt8), (67 : UInt8), (68 : UInt8), (69 : UInt8), (70 : UInt8)]⟩ : ByteArray) (Int.fdiv (byteAt s i) ((2 : Int) ^ min (Int.toNat (4 : Int)) 8))), Value.int IntKind.u8 (byteAt (⟨#[(48 : UInt8), (49 : UInt8), (50 : UInt8), (51 : UInt8), (52 : UInt8), (53 : UInt8), (54 : UInt8), (55 : UInt8), (56 : UInt8), (57 : UInt8), (65 : UInt8), (66 : UInt8), (67 : UInt8), (68 : UInt8), (69 : UInt8), (70 : UInt8)]⟩ : ByteArray) (IntKind.wrap IntKind.u8 (↑(BitVec.toNat (BitVec.ofInt (IntKind.bits IntKind.u8) (byteAt s i) &&& BitVec.ofInt (IntKind.bits IntKind.u8) (15 : Int))) : Int)))] (⟨1, some 5, true⟩ : ET) St.live [])) Tr.nil Tr.nil }) False) False))) (ifK (decide ((0 : Int) ≤ Lib.indexByte [(45 : UInt8), (46 : UInt8), (95 : UInt8), (126 : UInt8), (47 : UInt8)] (Nat.toUInt8 (Int.toNat (byteAt s i))))) (R 1 (some m) [] [Value.string s, Value.slice (some { block := 0, off := 0 }) 1 1, vi (↑z : Int), vi (IntKind.wrap IntKind.i64 (i + (1 : Int)))] { size := 1, tr := Tr.node (some (AObj.cells [Value.int IntKind.u8 (byteAt s i)] (⟨1, some 5, true⟩ : ET) St.live [])) Tr.nil Tr.nil }) (ifK (decide ((0 : Int) ≤ Int.fdiv (byteAt s i) ((2 : Int) ^ min (Int.toNat (4 : Int)) 8) ∧ Int.fdiv (byteAt s i) ((2 : Int) ^ min (Int.toNat (4 : Int)) 8) < (↑(ByteArray.size (⟨#[(48 : UInt8), (49 : UInt8), (50 : UInt8), (51 : UInt8), (52 : UInt8), (53 : UInt8), (54 : UInt8), (55 : UInt8), (56 : UInt8), (57 : UInt8), (65 : UInt8), (66 : UInt8), (67 : UInt8), (68 : UInt8), (69 : UInt8), (70 : UInt8)]⟩ : ByteArray)) : Int))) (ifK (decide ((0 : Int) ≤ IntKind.wrap IntKind.u8 (↑(BitVec.toNat (BitVec.ofInt (IntKind.bits IntKind.u8) (byteAt s i) &&& BitVec.ofInt (IntKind.bits IntKind.u8) (15 : Int))) : Int) ∧ IntKind.wrap IntKind.u8 (↑(BitVec.toNat (BitVec.ofInt (IntKind.bits IntKind.u8) (byteAt s i) &&& BitVec.ofInt (IntKind.bits IntKind.u8) (15 : Int))) : Int) < (↑(ByteArray.size (⟨#[(48 : UInt8), (49 : UInt8), (50 : UInt8), (51 : UInt8), (52 : UInt8), (53 : UInt8), (54 : UInt8), (55 : UInt8), (56 : UInt8), (57 : UInt8), (65 : UInt8), (66 : UInt8), (67 : UInt8), (68 : UInt8), (69 : UInt8), (70 : UInt8)]⟩ : ByteArray)) : Int))) (R 1 (some m) [] [Value.string s, Value.slice (some { block := 0, off := 0 }) 3 3, vi (↑z : Int), vi (IntKind.wrap IntKind.i64 (i + (1 : Int)))] { size := 1, tr := Tr.node (some (AObj.cells [Value.int IntKind.u8 (37 : Int), Value.int IntKind.u8 (byteAt (⟨#[(48 : UInt8), (49 : UInt8), (50 : UInt8), (51 : UInt8), (52 : UInt8), (53 : UInt8), (54 : UInt8), (55 : UInt8), (56 : UInt8), (57 : UInt8), (65 : UInt8), (66 : UInt8), (67 : UInt8), (68 : UInt8), (69 : UInt8), (70 : UInt8)]⟩ : ByteArray) (Int.fdiv (byteAt s i) ((2 : Int) ^ min (Int.toNat (4 : Int)) 8))), Value.int IntKind.u8 (byteAt (⟨#[(48 : UInt8), (49 : UInt8), (50 : UInt8), (51 : UInt8), (52 : UInt8), (53 : UInt8), (54 : UInt8), (55 : UInt8), (56 : UInt8), (57 : UInt8), (65 : UInt8), (66 : UInt8), (67 : UInt8), (68 : UInt8), (69 : UInt8), (70 : UInt8)]⟩ : ByteArray) (IntKind.wrap IntKind.u8 (↑(BitVec.toNat (BitVec.ofInt (IntKind.bits IntKind.u8) (byteAt s i) &&& BitVec.ofInt (IntKind.bits IntKind.u8) (15 : Int))) : Int)))] (⟨1, some 5, true⟩ : ET) St.live [])) Tr.nil Tr.nil }) False) False))))) False) (Q (Value.string (⟨⟨[]⟩⟩ : ByteArray)) { size := 0, tr := Tr.nil })) := by kernel_rfl
theorem es1 (s : ByteArray) (m n z : Nat) (i : Int) (B : List Value) (R : RFun) (Q : Value → AHeap → Prop) :
   segA ptQ esHint 30 20 12 0 52 esCuts R esB esP [] m [0,3,7,8] [.string s, slb 0 n, vi z, vi i] (uH B) (endGK ptQ [.tmp 2] 0 [[]] Q)
   = (ifK (decide (i < (↑z : Int))) (ifK (decide ((0 : Int) ≤ i ∧ i < (↑(ByteArray.size s) : Int))) (ifK (decide ((97 : Int) ≤ byteAt s i)) (ifK (decide (byteAt s i ≤ (122 : Int))) (ifK (n == n) (ifK (decide (0 + n * 1 = List.length B ∧ n ≤ n ∧ (n + 1) * 1 ≤ 140737488355328 ∧ n + 1 < 4611686018427387904)) (R 1 (some m) [] [Value.string s, Value.slice (some { block := 0, off := 0 }) (n + 1) (n + 1), vi (↑z : Int), vi (IntKind.wrap IntKind.i64 (i + (1 : Int)))] { size := 1, tr := Tr.node (some (AObj.cells (List.map (renV [2]) (List.take (n * 1) (List.drop 0 B) ++ [Value.int IntKind.u8 (byteAt s i)])) (⟨1, some 5, true⟩ : ET) St.live [])) Tr.nil Tr.nil }) False) False) (ifK (decide ((65 : Int) ≤ byteAt s i)) (ifK (decide (byteAt s i ≤ (90 : Int))) (ifK (n == n) (ifK (decide (0 + n * 1 = List.length B ∧ n ≤ n ∧ (n + 1) * 1 ≤ 140737488355328 ∧ n + 1 < 4611686018427387904)) (R 1 (some m) [] [Value.string s, Value.slice (some { block := 0, off := 0 }) (n + 1) (n + 1), vi (↑z : Int), vi (IntKind.wrap IntKind.i64 (i + (1 : Int)))] { size := 1, tr := Tr.node (some (AObj.cells (List.map (renV [2]) (List.take (n * 1) (List.drop 0 B) ++ [Value.int IntKind.u8 (byteAt s i)])) (⟨1, some 5, true⟩ : ET) St.live [])) Tr.nil Tr.nil }) False) False) (ifK (decide ((48 : Int) ≤ byteAt s i)) (ifK (decide (byteAt s i ≤ (57 : Int))) (ifK (n == n) (ifK (decide (0 + n * 1 = List.length B ∧ n ≤ n ∧ (n + 1) * 1 ≤ 140737488355328 ∧ n + 1 < 4611686018427387904)) (R 1 (some m) [] [Value.string s, Value.slice (some { block := 0, off := 0 }) (n + 1) (n + 1), vi (↑z : Int), vi (IntKind.wrap IntKind.i64 (i + (1 : Int)))] { size := 1, tr := Tr.node (some (AObj.cells (List.map (renV [2]) (List.take (n * 1) (List.drop 0 B) ++ [Value.int IntKind.u8 (byteAt s i)])) (⟨1, some 5, true⟩ : ET) St.live [])) Tr.nil Tr.nil }) False) False) (ifK (decide ((0 : Int) ≤ Lib.indexByte [(45 : UInt8), (46 : UInt8), (95 : UInt8), (126 : UInt8), (47 : UInt8)] (Nat.toUInt8 (Int.toNat (byteAt s i))))) (ifK (n == n) (ifK (decide (0 + n * 1 = List.length B ∧ n ≤ n ∧ (n + 1) * 1 ≤ 140737488355328 ∧ n + 1 < 4611686018427387904)) (R 1 (some m) [] [Value.string s, Value.slice (some { block := 0, off := 0 }) (n + 1) (n + 1), vi (↑z : Int), vi (IntKind.wrap IntKind.i64 (i + (1 : Int)))] { size := 1, tr := Tr.node (some (AObj.cells (List.map (renV [2]) (List.take (n * 1) (List.drop 0 B) ++ [Value.int IntKind.u8 (byteAt s i)])) (⟨1, some 5, true⟩ : ET) St.live [])) Tr.nil Tr.nil }) False) False) (ifK (decide ((0 : Int) ≤ Int.fdiv (byteAt s i) ((2 : Int) ^ min (Int.toNat (4 : Int)) 8) ∧ Int.fdiv (byteAt s i) ((2 : Int) ^ min (Int.toNat (4 : Int)) 8) < (↑(ByteArray.size (⟨#[(48 : UInt8), (49 : UInt8), (50 : UInt8), (51 : UInt8), (52 : UInt8), (53 : UInt8), (54 : UInt8), (55 : UInt8), (56 : UInt8), (57 : UInt8), (65 : UInt8), (66 : UInt8), (67 : UInt8), (68 : UInt8), (69 : UInt8), (70 : UInt8)]⟩ : ByteArray)) : Int))) (ifK (decide ((0 : Int) ≤ IntKind.wrap IntKind.u8 (↑(BitVec.toNat (BitVec.ofInt (IntKind.bits IntKind.u8) (byteAt s i) &&& BitVec.ofInt (IntKind.bits IntKind.u8) (15 : Int))) : Int) ∧ IntKind.wrap IntKind.u8 (↑(BitVec.toNat (BitVec.ofInt (IntKind.bits IntKind.u8) (byteAt s i) &&& BitVec.ofInt (IntKind.bits IntKind.u8) (15 : Int))) : Int) < (↑(ByteArray.size (⟨#[(48 : UInt8), (49 : UInt8), (50 : UInt8), (51 : UInt8), (52 : UInt8), (53 : UInt8), (54 : UInt8), (55 : UInt8), (56 : UInt8), (57 : UInt8), (65 : UInt8), (66 : UInt8), (67 : UInt8), (68 : UInt8), (69 : UInt8), (70 : UInt8)]⟩ : ByteArray)) : Int))) (ifK (n == n) (ifK (decide (0 + n * 1 = List.length B ∧ n ≤ n ∧ (n + 3) * 1 ≤ 140737488355328 ∧ n + 3 < 4611686018427387904)) (R 1 (some m) [] [Value.string s, Value.slice (some { block := 0, off := 0 }) (n + 3) (n + 3), vi (↑z : Int), vi (IntKind.wrap IntKind.i64 (i + (1 : Int)))] { size := 1, tr := Tr.node (some (AObj.cells (List.map (renV [2]) (List.take (n * 1) (List.drop 0 B) ++ [Value.int IntKind.u8 (37 : Int), Value.int IntKind.u8 (byteAt (⟨#[(48 : UInt8), (49 : UInt8), (50 : UInt8), (51 : UInt8), (52 : UInt8), (53 : UInt8), (54 : UInt8), (55 : UInt8), (56 : UInt8), (57 : UInt8), (65 : UInt8), (66 : UInt8), (67 : UInt8), (68 : UInt8), (69 : UInt8), (70 : UInt8)]⟩ : ByteArray) (Int.fdiv (byteAt s i) ((2 : Int) ^ min (Int.toNat (4 : Int)) 8))), Value.int IntKind.u8 (byteAt (⟨#[(48 : UInt8), (49 : UInt8), (50 : UInt8), (51 : UInt8), (52 : UInt8), (53 : UInt8), (54 : UInt8), (55 : UInt8), (56 : UInt8), (57 : UInt8), (65 : UInt8), (66 : UInt8), (67 : UInt8), (68 : UInt8), (69 : UInt8), (70 : UInt8)]⟩ : ByteArray) (IntKind.wrap IntKind.u8 (↑(BitVec.toNat (BitVec.ofInt (IntKind.bits IntKind.u8) (byteAt s i) &&& BitVec.ofInt (IntKind.bits IntKind.u8) (15 : Int))) : Int)))])) (⟨1, some 5, true⟩ : ET) St.live [])) Tr.nil Tr.nil }) False) False) False) False))) (ifK (decide ((0 : Int) ≤ Lib.indexByte [(45 : UInt8), (46 : UInt8), (95 : UInt8), (126 : UInt8), (47 : UInt8)] (Nat.toUInt8 (Int.toNat (byteAt s i))))) (ifK (n == n) (ifK (decide (0 + n * 1 = List.length B ∧ n ≤ n ∧ (n + 1) * 1 ≤ 140737488355328 ∧ n + 1 < 4611686018427387904)) (R 1 (some m) [] [Value.string s, Value.slice (some { block := 0, off := 0 }) (n + 1) (n + 1), vi (↑z : Int), vi (IntKind.wrap IntKind.i64 (i + (1 : Int)))] { size := 1, tr := Tr.node (some (AObj.cells (List.map (renV [2]) (List.take (n * 1) (List.drop 0 B) ++ [Value.int IntKind.u8 (byteAt s i)])) (⟨1, some 5, true⟩ : ET) St.live [])) Tr.nil Tr.nil }) False) False) (ifK (decide ((0 : Int) ≤ Int.fdiv (byteAt s i) ((2 : Int) ^ min (Int.toNat (4 : Int)) 8) ∧ Int.fdiv (byteAt s i) ((2 : Int) ^ min (Int.toNat (4 : Int)) 8) < (↑(ByteArray.size (⟨#[(48 : UInt8), (49 : UInt8), (50 : UInt8), (51 : UInt8), (52 : UInt8), (53 : UInt8), (54 : UInt8), (55 : UInt8), (56 : UInt8), (57 : UInt8), (65 : UInt8), (66 : UInt8), (67 : UInt8), (68 : UInt8), (69 : UInt8), (70 : UInt8)]⟩ : ByteArray)) : Int))) (ifK (decide ((0 : Int) ≤ IntKind.wrap IntKind.u8 (↑(BitVec.toNat (BitVec.ofInt (IntKind.bits IntKind.u8) (byteAt s i) &&& BitVec.ofInt (IntKind.bits IntKind.u8) (15 : Int))) : Int) ∧ IntKind.wrap IntKind.u8 (↑(BitVec.toNat (BitVec.ofInt (IntKind.bits IntKind.u8) (byteAt s i) &&& BitVec.ofInt (IntKind.bits IntKind.u8) (15 : Int))) : Int) < (↑(ByteArray.size (⟨#[(48 : UInt8), (49 : UInt8), (50 : UInt8), (51 : UInt8), (52 : UInt8), (53 : UInt8), (54 : UInt8), (55 : UInt8), (56 : UInt8), (57 : UInt8), (65 : UInt8), (66 : UInt8), (67 : UInt8), (68 : UInt8), (69 : UInt8), (70 : UInt8)]⟩ : ByteArray)) : Int))) (ifK (n == n) (ifK (decide (0 + n * 1 = List.length B ∧ n ≤ n ∧ (n + 3) * 1 ≤ 140737488355328 ∧ n + 3 < 4611686018427387904)) (R 1 (some m) [] [Value.string s, Value.slice (some { block := 0, off := 0 }) (n + 3) (n + 3), vi (↑z : Int), vi (IntKind.wrap IntKind.i64 (i + (1 : Int)))] { size := 1, tr := Tr.node (some (AObj.cells (List.map (renV [2]) (List.take (n * 1) (List.drop 0 B) ++ [Value.int IntKind.u8 (37 : Int), Value.int IntKind.u8 (byteAt (⟨#[(48 : UInt8), (49 : UInt8), (50 : UInt8), (51 : UInt8), (52 : UInt8), (53 : UInt8), (54 : UInt8), (55 : UInt8), (56 : UInt8), (57 : UInt8), (65 : UInt8), (66 : UInt8), (67 : UInt8), (68 : UInt8), (69 : UInt8), (70 : UInt8)]⟩ : ByteArray) (Int.fdiv (byteAt s i) ((2 : Int) ^ min (Int.toNat (4 : Int)) 8))), Value.int IntKind.u8 (byteAt (⟨#[(48 : UInt8), (49 : UInt8), (50 : UInt8), (51 : UInt8), (52 : UInt8), (53 : UInt8), (54 : UInt8), (55 : UInt8), (56 : UInt8), (57 : UInt8), (65 : UInt8), (66 : UInt8), (67 : UInt8), (68 : UInt8), (69 : UInt8), (70 : UInt8)]⟩ : ByteArray) (IntKind.wrap IntKind.u8 (↑(BitVec.toNat (BitVec.ofInt (IntKind.bits IntKind.u8) (byteAt s i) &&& BitVec.ofInt (IntKind.bits IntKind.u8) (15 : Int))) : Int)))])) (⟨1, some 5, true⟩ : ET) St.live [])) Tr.nil Tr.nil }) False) False) False) False)))) (ifK (decide ((48 : Int) ≤ byteAt s i)) (ifK (decide (byteAt s i ≤ (57 : Int))) (ifK (n == n) (ifK (decide (0 + n * 1 = List.length B ∧ n ≤ n ∧ (n + 1) * 1 ≤ 140737488355328 ∧ n + 1 < 4611686018427387904)) (R 1 (some m) [] [Value.string s, Value.slice (some { block := 0, off := 0 }) (n + 1) (n + 1), vi (↑z : Int), vi (IntKind.wrap IntKind.i64 (i + (1 : Int)))] { size := 1, tr := Tr.node (some (AObj.cells (List.map (renV [2]) (List.take (n * 1) (List.drop 0 B) ++ [Value.int IntKind.u8 (byteAt s i)])) (⟨1, some 5, true⟩ : ET) St.live [])) Tr.nil Tr.nil }) False) False) (ifK (decide ((0 : Int) ≤ Lib.indexByte [(45 : UInt8), (46 : UInt8), (95 : UInt8), (126 : UInt8), (47 : UInt8)] (Nat.toUInt8 (Int.toNat (byteAt s i))))) (ifK (n == n) (ifK (decide (0 + n * 1 = List.length B ∧ n ≤ n ∧ (n + 1) * 1 ≤ 140737488355328 ∧ n + 1 < 4611686018427387904)) (R 1 (some m) [] [Value.string s, Value.slice (some { block := 0, off := 0 }) (n + 1) (n + 1), vi (↑z : Int), vi (IntKind.wrap IntKind.i64 (i + (1 : Int)))] { size := 1, tr := Tr.node (some (AObj.cells (List.map (renV [2]) (List.take (n * 1) (List.drop 0 B) ++ [Value.int IntKind.u8 (byteAt s i)])) (⟨1, some 5, true⟩ : ET) St.live [])) Tr.nil Tr.nil }) False) False) (ifK (decide ((0 : Int) ≤ Int.fdiv (byteAt s i) ((2 : Int) ^ min (Int.toNat (4 : Int)) 8) ∧ Int.fdiv (byteAt s i) ((2 : Int) ^ min (Int.toNat (4 : Int)) 8) < (↑(ByteArray.size (⟨#[(48 : UInt8), (49 : UInt8), (50 : UInt8), (51 : UInt8), (52 : UInt8), (53 : UInt8), (54 : UInt8), (55 : UInt8), (56 : UInt8), (57 : UInt8), (65 : UInt8), (66 : UInt8), (67 : UInt8), (68 : UInt8), (69 : UInt8), (70 : UInt8)]⟩ : ByteArray)) : Int))) (ifK (decide ((0 : Int) ≤ IntKind.wrap IntKind.u8 (↑(BitVec.toNat (BitVec.ofInt (IntKind.bits IntKind.u8) (byteAt s i) &&& BitVec.ofInt (IntKind.bits IntKind.u8) (15 : Int))) : Int) ∧ IntKind.wrap IntKind.u8 (↑(BitVec.toNat (BitVec.ofInt (IntKind.bits IntKind.u8) (byteAt s i) &&& BitVec.ofInt (IntKind.bits IntKind.u8) (15 : Int))) : Int) < (↑(ByteArray.size (⟨#[(48 : UInt8), (49 : UInt8), (50 : UInt8), (51 : UInt8), (52 : UInt8), (53 : UInt8), (54 : UInt8), (55 : UInt8), (56 : UInt8), (57 : UInt8), (65 : UInt8), (66 : UInt8), (67 : UInt8), (68 : UInt8), (69 : UInt8), (70 : UInt8)]⟩ : ByteArray)) : Int))) (ifK (n == n) (ifK (decide (0 + n * 1 = List.length B ∧ n ≤ n ∧ (n + 3) * 1 ≤ 140737488355328 ∧ n + 3 < 4611686018427387904)) (R 1 (some m) [] [Value.string s, Value.slice (some { block := 0, off := 0 }) (n + 3) (n + 3), vi (↑z : Int), vi (IntKind.wrap IntKind.i64 (i + (1 : Int)))] { size := 1, tr := Tr.node (some (AObj.cells (List.map (renV [2]) (List.take (n * 1) (List.drop 0 B) ++ [Value.int IntKind.u8 (37 : Int), Value.int IntKind.u8 (byteAt (⟨#[(48 : UInt8), (49 : UInt8), (50 : UInt8), (51 : UInt8), (52 : UInt8), (53 : UInt8), (54 : UInt8), (55 : UInt8), (56 : UInt8), (57 : UInt8), (65 : UInt8), (66 : UInt8), (67 : UInt8), (68 : UInt8), (69 : UInt8), (70 : UInt8)]⟩ : ByteArray) (Int.fdiv (byteAt s i) ((2 : Int) ^ min (Int.toNat (4 : Int)) 8))), Value.int IntKind.u8 (byteAt (⟨#[(48 : UInt8), (49 : UInt8), (50 : UInt8), (51 : UInt8), (52 : UInt8), (53 : UInt8), (54 : UInt8), (55 : UInt8), (56 : UInt8), (57 : UInt8), (65 : UInt8), (66 : UInt8), (67 : UInt8), (68 : UInt8), (69 : UInt8), (70 : UInt8)]⟩ : ByteArray) (IntKind.wrap IntKind.u8 (↑(BitVec.toNat (BitVec.ofInt (IntKind.bits IntKind.u8) (byteAt s i) &&& BitVec.ofInt (IntKind.bits IntKind.u8) (15 : Int))) : Int)))])) (⟨1, some 5, true⟩ : ET) St.live [])) Tr.nil Tr.nil }) False) False) False) False))) (ifK (decide ((0 : Int) ≤ Lib.indexByte [(45 : UInt8), (46 : UInt8), (95 : UInt8), (126 : UInt8), (47 : UInt8)] (Nat.toUInt8 (Int.toNat (byteAt s i))))) (ifK (n == n) (ifK (decide (0 + n * 1 = List.length B ∧ n ≤ n ∧ (n + 1) * 1 ≤ 140737488355328 ∧ n + 1 < 4611686018427387904)) (R 1 (some m) [] [Value.string s, Value.slice (some { block := 0, off := 0 }) (n + 1) (n + 1), vi (↑z : Int), vi (IntKind.wrap IntKind.i64 (i + (1 : Int)))] { size := 1, tr := Tr.node (some (AObj.cells (List.map (renV [2]) (List.take (n * 1) (List.drop 0 B) ++ [Value.int IntKind.u8 (byteAt s i)])) (⟨1, some 5, true⟩ : ET) St.live [])) Tr.nil Tr.nil }) False) False) (ifK (decide ((0 : Int) ≤ Int.fdiv (byteAt s i) ((2 : Int) ^ min (Int.toNat (4 : Int)) 8) ∧ Int.fdiv (byteAt s i) ((2 : Int) ^ min (Int.toNat (4 : Int)) 8) < (↑(ByteArray.size (⟨#[(48 : UInt8), (49 : UInt8), (50 : UInt8), (51 : UInt8), (52 : UInt8), (53 : UInt8), (54 : UInt8), (55 : UInt8), (56 : UInt8), (57 : UInt8), (65 : UInt8), (66 : UInt8), (67 : UInt8), (68 : UInt8), (69 : UInt8), (70 : UInt8)]⟩ : ByteArray)) : Int))) (ifK (decide ((0 : Int) ≤ IntKind.wrap IntKind.u8 (↑(BitVec.toNat (BitVec.ofInt (IntKind.bits IntKind.u8) (byteAt s i) &&& BitVec.ofInt (IntKind.bits IntKind.u8) (15 : Int))) : Int) ∧ IntKind.wrap IntKind.u8 (↑(BitVec.toNat (BitVec.ofInt (IntKind.bits IntKind.u8) (byteAt s i) &&& BitVec.ofInt (IntKind.bits IntKind.u8) (15 : Int))) : Int) < (↑(ByteArray.size (⟨#[(48 : UInt8), (49 : UInt8), (50 : UInt8), (51 : UInt8), (52 : UInt8), (53 : UInt8), (54 : UInt8), (55 : UInt8), (56 : UInt8), (57 : UInt8), (65 : UInt8), (66 : UInt8), (67 : UInt8), (68 : UInt8), (69 : UInt8), (70 : UInt8)]⟩ : ByteArray)) : Int))) (ifK (n == n) (ifK (decide (0 + n * 1 = List.length B ∧ n ≤ n ∧ (n + 3) * 1 ≤ 140737488355328 ∧ n + 3 < 4611686018427387904)) (R 1 (some m) [] [Value.string s, Value.slice (some { block := 0, off := 0 }) (n + 3) (n + 3), vi (↑z : Int), vi (IntKind.wrap IntKind.i64 (i + (1 : Int)))] { size := 1, tr := Tr.node (some (AObj.cells (List.map (renV [2]) (List.take (n * 1) (List.drop 0 B) ++ [Value.int IntKind.u8 (37 : Int), Value.int IntKind.u8 (byteAt (⟨#[(48 : UInt8), (49 : UInt8), (50 : UInt8), (51 : UInt8), (52 : UInt8), (53 : UInt8), (54 : UInt8), (55 : UInt8), (56 : UInt8), (57 : UInt8), (65 : UInt8), (66 : UInt8), (67 : UInt8), (68 : UInt8), (69 : UInt8), (70 : UInt8)]⟩ : ByteArray) (Int.fdiv (byteAt s i) ((2 : Int) ^ min (Int.toNat (4 : Int)) 8))), Value.int IntKind.u8 (byteAt (⟨#[(48 : UInt8), (49 : UInt8), (50 : UInt8), (51 : UInt8), (52 : UInt8), (53 : UInt8), (54 : UInt8), (55 : UInt8), (56 : UInt8), (57 : UInt8), (65 : UInt8), (66 : UInt8), (67 : UInt8), (68 : UInt8), (69 : UInt8), (70 : UInt8)]⟩ : ByteArray) (IntKind.wrap IntKind.u8 (↑(BitVec.toNat (BitVec.ofInt (IntKind.bits IntKind.u8) (byteAt s i) &&& BitVec.ofInt (IntKind.bits IntKind.u8) (15 : Int))) : Int)))])) (⟨1, some 5, true⟩ : ET) St.live [])) Tr.nil Tr.nil }) False) False) False) False))))) (ifK (decide ((65 : Int) ≤ byteAt s i)) (ifK (decide (byteAt s i ≤ (90 : Int))) (ifK (n == n) (ifK (decide (0 + n * 1 = List.length B ∧ n ≤ n ∧ (n + 1) * 1 ≤ 140737488355328 ∧ n + 1 < 4611686018427387904)) (R 1 (some m) [] [Value.string s, Value.slice (some { block := 0, off := 0 }) (n + 1) (n + 1), vi (↑z : Int), vi (IntKind.wrap IntKind.i64 (i + (1 : Int)))] { size := 1, tr := Tr.node (some (AObj.cells (List.map (renV [2]) (List.take (n * 1) (List.drop 0 B) ++ [Value.int IntKind.u8 (byteAt s i)])) (⟨1, some 5, true⟩ : ET) St.live [])) Tr.nil Tr.nil }) False) False) (ifK (decide ((48 : Int) ≤ byteAt s i)) (ifK (decide (byteAt s i ≤ (57 : Int))) (ifK (n == n) (ifK (decide (0 + n * 1 = List.length B ∧ n ≤ n ∧ (n + 1) * 1 ≤ 140737488355328 ∧ n + 1 < 4611686018427387904)) (R 1 (some m) [] [Value.string s, Value.slice (some { block := 0, off := 0 }) (n + 1) (n + 1), vi (↑z : Int), vi (IntKind.wrap IntKind.i64 (i + (1 : Int)))] { size := 1, tr := Tr.node (some (AObj.cells (List.map (renV [2]) (List.take (n * 1) (List.drop 0 B) ++ [Value.int IntKind.u8 (byteAt s i)])) (⟨1, some 5, true⟩ : ET) St.live [])) Tr.nil Tr.nil }) False) False) (ifK (decide ((0 : Int) ≤ Lib.indexByte [(45 : UInt8), (46 : UInt8), (95 : UInt8), (126 : UInt8), (47 : UInt8)] (Nat.toUInt8 (Int.toNat (byteAt s i))))) (ifK (n == n) (ifK (decide (0 + n * 1 = List.length B ∧ n ≤ n ∧ (n + 1) * 1 ≤ 140737488355328 ∧ n + 1 < 4611686018427387904)) (R 1 (some m) [] [Value.string s, Value.slice (some { block := 0, off := 0 }) (n + 1) (n + 1), vi (↑z : Int), vi (IntKind.wrap IntKind.i64 (i + (1 : Int)))] { size := 1, tr := Tr.node (some (AObj.cells (List.map (renV [2]) (List.take (n * 1) (List.drop 0 B) ++ [Value.int IntKind.u8 (byteAt s i)])) (⟨1, some 5, true⟩ : ET) St.live [])) Tr.nil Tr.nil }) False) False) (ifK (decide ((0 : Int) ≤ Int.fdiv (byteAt s i) ((2 : Int) ^ min (Int.toNat (4 : Int)) 8) ∧ Int.fdiv (byteAt s i) ((2 : Int) ^ min (Int.toNat (4 : Int)) 8) < (↑(ByteArray.size (⟨#[(48 : UInt8), (49 : UInt8), (50 : UInt8), (51 : UInt8), (52 : UInt8), (53 : UInt8), (54 : UInt8), (55 : UInt8), (56 : UInt8), (57 : UInt8), (65 : UInt8), (66 : UInt8), (67 : UInt8), (68 : UInt8), (69 : UInt8), (70 : UInt8)]⟩ : ByteArray)) : Int))) (ifK (decide ((0 : Int) ≤ IntKind.wrap IntKind.u8 (↑(BitVec.toNat (BitVec.ofInt (IntKind.bits IntKind.u8) (byteAt s i) &&& BitVec.ofInt (IntKind.bits IntKind.u8) (15 : Int))) : Int) ∧ IntKind.wrap IntKind.u8 (↑(BitVec.toNat (BitVec.ofInt (IntKind.bits IntKind.u8) (byteAt s i) &&& BitVec.ofInt (IntKind.bits IntKind.u8) (15 : Int))) : Int) < (↑(ByteArray.size (⟨#[(48 : UInt8), (49 : UInt8), (50 : UInt8), (51 : UInt8), (52 : UInt8), (53 : UInt8), (54 : UInt8), (55 : UInt8), (56 : UInt8), (57 : UInt8), (65 : UInt8), (66 : UInt8), (67 : UInt8), (68 : UInt8), (69 : UInt8), (70 : UInt8)]⟩ : ByteArray)) : Int))) (ifK (n == n) (ifK (decide (0 + n * 1 = List.length B ∧ n ≤ n ∧ (n + 3) * 1 ≤ 140737488355328 ∧ n + 3 < 4611686018427387904)) (R 1 (some m) [] [Value.string s, Value.slice (some { block := 0, off := 0 }) (n + 3) (n + 3), vi (↑z : Int), vi (IntKind.wrap IntKind.i64 (i + (1 : Int)))] { size := 1, tr := Tr.node (some (AObj.cells (List.map (renV [2]) (List.take (n * 1) (List.drop 0 B) ++ [Value.int IntKind.u8 (37 : Int), Value.int IntKind.u8 (byteAt (⟨#[(48 : UInt8), (49 : UInt8), (50 : UInt8), (51 : UInt8), (52 : UInt8), (53 : UInt8), (54 : UInt8), (55 : UInt8), (56 : UInt8), (57 : UInt8), (65 : UInt8), (66 : UInt8), (67 : UInt8), (68 : UInt8), (69 : UInt8), (70 : UInt8)]⟩ : ByteArray) (Int.fdiv (byteAt s i) ((2 : Int) ^ min (Int.toNat (4 : Int)) 8))), Value.int IntKind.u8 (byteAt (⟨#[(48 : UInt8), (49 : UInt8), (50 : UInt8), (51 : UInt8), (52 : UInt8), (53 : UInt8), (54 : UInt8), (55 : UInt8), (56 : UInt8), (57 : UInt8), (65 : UInt8), (66 : UInt8), (67 : UInt8), (68 : UInt8), (69 : UInt8), (70 : UInt8)]⟩ : ByteArray) (IntKind.wrap IntKind.u8 (↑(BitVec.toNat (BitVec.ofInt (IntKind.bits IntKind.u8) (byteAt s i) &&& BitVec.ofInt (IntKind.bits IntKind.u8) (15 : Int))) : Int)))])) (⟨1, some 5, true⟩ : ET) St.live [])) Tr.nil Tr.nil }) False) False) False) False))) (ifK (decide ((0 : Int) ≤ Lib.indexByte [(45 : UInt8), (46 : UInt8), (95 : UInt8), (126 : UInt8), (47 : UInt8)] (Nat.toUInt8 (Int.toNat (byteAt s i))))) (ifK (n == n) (ifK (decide (0 + n * 1 = List.length B ∧ n ≤ n ∧ (n + 1) * 1 ≤ 140737488355328 ∧ n + 1 < 4611686018427387904)) (R 1 (some m) [] [Value.string s, Value.slice (some { block := 0, off := 0 }) (n + 1) (n + 1), vi (↑z : Int), vi (IntKind.wrap IntKind.i64 (i + (1 : Int)))] { size := 1, tr := Tr.node (some (AObj.cells (List.map (renV [2]) (List.take (n * 1) (List.drop 0 B) ++ [Value.int IntKind.u8 (byteAt s i)])) (⟨1, some 5, true⟩ : ET) St.live [])) Tr.nil Tr.nil }) False) False) (ifK (decide ((0 : Int) ≤ Int.fdiv (byteAt s i) ((2 : Int) ^ min (Int.toNat (4 : Int)) 8) ∧ Int.fdiv (byteAt s i) ((2 : Int) ^ min (Int.toNat (4 : Int)) 8) < (↑(ByteArray.size (⟨#[(48 : UInt8), (49 : UInt8), (50 : UInt8), (51 : UInt8), (52 : UInt8), (53 : UInt8), (54 : UInt8), (55 : UInt8), (56 : UInt8), (57 : UInt8), (65 : UInt8), (66 : UInt8), (67 : UInt8), (68 : UInt8), (69 : UInt8), (70 : UInt8)]⟩ : ByteArray)) : Int))) (ifK (decide ((0 : Int) ≤ IntKind.wrap IntKind.u8 (↑(BitVec.toNat (BitVec.ofInt (IntKind.bits IntKind.u8) (byteAt s i) &&& BitVec.ofInt (IntKind.bits IntKind.u8) (15 : Int))) : Int) ∧ IntKind.wrap IntKind.u8 (↑(BitVec.toNat (BitVec.ofInt (IntKind.bits IntKind.u8) (byteAt s i) &&& BitVec.ofInt (IntKind.bits IntKind.u8) (15 : Int))) : Int) < (↑(ByteArray.size (⟨#[(48 : UInt8), (49 : UInt8), (50 : UInt8), (51 : UInt8), (52 : UInt8), (53 : UInt8), (54 : UInt8), (55 : UInt8), (56 : UInt8), (57 : UInt8), (65 : UInt8), (66 : UInt8), (67 : UInt8), (68 : UInt8), (69 : UInt8), (70 : UInt8)]⟩ : ByteArray)) : Int))) (ifK (n == n) (ifK (decide (0 + n * 1 = List.length B ∧ n ≤ n ∧ (n + 3) * 1 ≤ 140737488355328 ∧ n + 3 < 4611686018427387904)) (R 1 (some m) [] [Value.string s, Value.slice (some { block := 0, off := 0 }) (n + 3) (n + 3), vi (↑z : Int), vi (IntKind.wrap IntKind.i64 (i + (1 : Int)))] { size := 1, tr := Tr.node (some (AObj.cells (List.map (renV [2]) (List.take (n * 1) (List.drop 0 B) ++ [Value.int IntKind.u8 (37 : Int), Value.int IntKind.u8 (byteAt (⟨#[(48 : UInt8), (49 : UInt8), (50 : UInt8), (51 : UInt8), (52 : UInt8), (53 : UInt8), (54 : UInt8), (55 : UInt8), (56 : UInt8), (57 : UInt8), (65 : UInt8), (66 : UInt8), (67 : UInt8), (68 : UInt8), (69 : UInt8), (70 : UInt8)]⟩ : ByteArray) (Int.fdiv (byteAt s i) ((2 : Int) ^ min (Int.toNat (4 : Int)) 8))), Value.int IntKind.u8 (byteAt (⟨#[(48 : UInt8), (49 : UInt8), (50 : UInt8), (51 : UInt8), (52 : UInt8), (53 : UInt8), (54 : UInt8), (55 : UInt8), (56 : UInt8), (57 : UInt8), (65 : UInt8), (66 : UInt8), (67 : UInt8), (68 : UInt8), (69 : UInt8), (70 : UInt8)]⟩ : ByteArray) (IntKind.wrap IntKind.u8 (↑(BitVec.toNat (BitVec.ofInt (IntKind.bits IntKind.u8) (byteAt s i) &&& BitVec.ofInt (IntKind.bits IntKind.u8) (15 : Int))) : Int)))])) (⟨1, some 5, true⟩ : ET) St.live [])) Tr.nil Tr.nil }) False) False) False) False)))) (ifK (decide ((48 : Int) ≤ byteAt s i)) (ifK (decide (byteAt s i ≤ (57 : Int))) (ifK (n == n) (ifK (decide (0 + n * 1 = List.length B ∧ n ≤ n ∧ (n + 1) * 1 ≤ 140737488355328 ∧ n + 1 < 4611686018427387904)) (R 1 (some m) [] [Value.string s, Value.slice (some { block := 0, off := 0 }) (n + 1) (n + 1), vi (↑z : Int), vi (IntKind.wrap IntKind.i64 (i + (1 : Int)))] { size := 1, tr := Tr.node (some (AObj.cells (List.map (renV [2]) (List.take (n * 1) (List.drop 0 B) ++ [Value.int IntKind.u8 (byteAt s i)])) (⟨1, some 5, true⟩ : ET) St.live [])) Tr.nil Tr.nil }) False) False) (ifK (decide ((0 : Int) ≤ Lib.indexByte [(45 : UInt8), (46 : UInt8), (95 : UInt8), (126 : UInt8), (47 : UInt8)] (Nat.toUInt8 (Int.toNat (byteAt s i))))) (ifK (n == n) (ifK (decide (0 + n * 1 = List.length B ∧ n ≤ n ∧ (n + 1) * 1 ≤ 140737488355328 ∧ n + 1 < 4611686018427387904)) (R 1 (some m) [] [Value.string s, Value.slice (some { block := 0, off := 0 }) (n + 1) (n + 1), vi (↑z : Int), vi (IntKind.wrap IntKind.i64 (i + (1 : Int)))] { size := 1, tr := Tr.node (some (AObj.cells (List.map (renV [2]) (List.take (n * 1) (List.drop 0 B) ++ [Value.int IntKind.u8 (byteAt s i)])) (⟨1, some 5, true⟩ : ET) St.live [])) Tr.nil Tr.nil }) False) False) (ifK (decide ((0 : Int) ≤ Int.fdiv (byteAt s i) ((2 : Int) ^ min (Int.toNat (4 : Int)) 8) ∧ Int.fdiv (byteAt s i) ((2 : Int) ^ min (Int.toNat (4 : Int)) 8) < (↑(ByteArray.size (⟨#[(48 : UInt8), (49 : UInt8), (50 : UInt8), (51 : UInt8), (52 : UInt8), (53 : UInt8), (54 : UInt8), (55 : UInt8), (56 : UInt8), (57 : UInt8), (65 : UInt8), (66 : UInt8), (67 : UInt8), (68 : UInt8), (69 : UInt8), (70 : UInt8)]⟩ : ByteArray)) : Int))) (ifK (decide ((0 : Int) ≤ IntKind.wrap IntKind.u8 (↑(BitVec.toNat (BitVec.ofInt (IntKind.bits IntKind.u8) (byteAt s i) &&& BitVec.ofInt (IntKind.bits IntKind.u8) (15 : Int))) : Int) ∧ IntKind.wrap IntKind.u8 (↑(BitVec.toNat (BitVec.ofInt (IntKind.bits IntKind.u8) (byteAt s i) &&& BitVec.ofInt (IntKind.bits IntKind.u8) (15 : Int))) : Int) < (↑(ByteArray.size (⟨#[(48 : UInt8), (49 : UInt8), (50 : UInt8), (51 : UInt8), (52 : UInt8), (53 : UInt8), (54 : UInt8), (55 : UInt8), (56 : UInt8), (57 : UInt8), (65 : UInt8), (66 : UInt8), (67 : UInt8), (68 : UInt8), (69 : UInt8), (70 : UInt8)]⟩ : ByteArray)) : Int))) (ifK (n == n) (ifK (decide (0 + n * 1 = List.length B ∧ n ≤ n ∧ (n + 3) * 1 ≤ 140737488355328 ∧ n + 3 < 4611686018427387904)) (R 1 (some m) [] [Value.string s, Value.slice (some { block := 0, off := 0 }) (n + 3) (n + 3), vi (↑z : Int), vi (IntKind.wrap IntKind.i64 (i + (1 : Int)))] { size := 1, tr := Tr.node (some (AObj.cells (List.map (renV [2]) (List.take (n * 1) (List.drop 0 B) ++ [Value.int IntKind.u8 (37 : Int), Value.int IntKind.u8 (byteAt (⟨#[(48 : UInt8), (49 : UInt8), (50 : UInt8), (51 : UInt8), (52 : UInt8), (53 : UInt8), (54 : UInt8), (55 : UInt8), (56 : UInt8), (57 : UInt8), (65 : UInt8), (66 : UInt8), (67 : UInt8), (68 : UInt8), (69 : UInt8), (70 : UInt8)]⟩ : ByteArray) (Int.fdiv (byteAt s i) ((2 : Int) ^ min (Int.toNat (4 : Int)) 8))), Value.int IntKind.u8 (byteAt (⟨#[(48 : UInt8), (49 : UInt8), (50 : UInt8), (51 : UInt8), (52 : UInt8), (53 : UInt8), (54 : UInt8), (55 : UInt8), (56 : UInt8), (57 : UInt8), (65 : UInt8), (66 : UInt8), (67 : UInt8), (68 : UInt8), (69 : UInt8), (70 : UInt8)]⟩ : ByteArray) (IntKind.wrap IntKind.u8 (↑(BitVec.toNat (BitVec.ofInt (IntKind.bits IntKind.u8) (byteAt s i) &&& BitVec.ofInt (IntKind.bits IntKind.u8) (15 : Int))) : Int)))])) (⟨1, some 5, true⟩ : ET) St.live [])) Tr.nil Tr.nil }) False) False) False) False))) (ifK (decide ((0 : Int) ≤ Lib.indexByte [(45 : UInt8), (46 : UInt8), (95 : UInt8), (126 : UInt8), (47 : UInt8)] (Nat.toUInt8 (Int.toNat (byteAt s i))))) (ifK (n == n) (ifK (decide (0 + n * 1 = List.length B ∧ n ≤ n ∧ (n + 1) * 1 ≤ 140737488355328 ∧ n + 1 < 4611686018427387904)) (R 1 (some m) [] [Value.string s, Value.slice (some { block := 0, off := 0 }) (n + 1) (n + 1), vi (↑z : Int), vi (IntKind.wrap IntKind.i64 (i + (1 : Int)))] { size := 1, tr := Tr.node (some (AObj.cells (List.map (renV [2]) (List.take (n * 1) (List.drop 0 B) ++ [Value.int IntKind.u8 (byteAt s i)])) (⟨1, some 5, true⟩ : ET) St.live [])) Tr.nil Tr.nil }) False) False) (ifK (decide ((0 : Int) ≤ Int.fdiv (byteAt s i) ((2 : Int) ^ min (Int.toNat (4 : Int)) 8) ∧ Int.fdiv (byteAt s i) ((2 : Int) ^ min (Int.toNat (4 : Int)) 8) < (↑(ByteArray.size (⟨#[(48 : UInt8), (49 : UInt8), (50 : UInt8), (51 : UInt8), (52 : UInt8), (53 : UInt8), (54 : UInt8), (55 : UInt8), (56 : UInt8), (57 : UInt8), (65 : UInt8), (66 : UInt8), (67 : UInt8), (68 : UInt8), (69 : UInt8), (70 : UInt8)]⟩ : ByteArray)) : Int))) (ifK (decide ((0 : Int) ≤ IntKind.wrap IntKind.u8 (↑(BitVec.toNat (BitVec.ofInt (IntKind.bits IntKind.u8) (byteAt s i) &&& BitVec.ofInt (IntKind.bits IntKind.u8) (15 : Int))) : Int) ∧ IntKind.wrap IntKind.u8 (↑(BitVec.toNat (BitVec.ofInt (IntKind.bits IntKind.u8) (byteAt s i) &&& BitVec.ofInt (IntKind.bits IntKind.u8) (15 : Int))) : Int) < (↑(ByteArray.size (⟨#[(48 : UInt8), (49 : UInt8), (50 : UInt8), (51 : UInt8), (52 : UInt8), (53 : UInt8), (54 : UInt8), (55 : UInt8), (56 : UInt8), (57 : UInt8), (65 : UInt8), (66 : UInt8), (67 : UInt8), (68 : UInt8), (69 : UInt8), (70 : UInt8)]⟩ : ByteArray)) : Int))) (ifK (n == n) (ifK (decide (0 + n * 1 = List.length B ∧ n ≤ n ∧ (n + 3) * 1 ≤ 140737488355328 ∧ n + 3 < 4611686018427387904)) (R 1 (some m) [] [Value.string s, Value.slice (some { block := 0, off := 0 }) (n + 3) (n + 3), vi (↑z : Int), vi (IntKind.wrap IntKind.i64 (i + (1 : Int)))] { size := 1, tr := Tr.node (some (AObj.cells (List.map (renV [2]) (List.take (n * 1) (List.drop 0 B) ++ [Value.int IntKind.u8 (37 : Int), Value.int IntKind.u8 (byteAt (⟨#[(48 : UInt8), (49 : UInt8), (50 : UInt8), (51 : UInt8), (52 : UInt8), (53 : UInt8), (54 : UInt8), (55 : UInt8), (56 : UInt8), (57 : UInt8), (65 : UInt8), (66 : UInt8), (67 : UInt8), (68 : UInt8), (69 : UInt8), (70 : UInt8)]⟩ : ByteArray) (Int.fdiv (byteAt s i) ((2 : Int) ^ min (Int.toNat (4 : Int)) 8))), Value.int IntKind.u8 (byteAt (⟨#[(48 : UInt8), (49 : UInt8), (50 : UInt8), (51 : UInt8), (52 : UInt8), (53 : UInt8), (54 : UInt8), (55 : UInt8), (56 : UInt8), (57 : UInt8), (65 : UInt8), (66 : UInt8), (67 : UInt8), (68 : UInt8), (69 : UInt8), (70 : UInt8)]⟩ : ByteArray) (IntKind.wrap IntKind.u8 (↑(BitVec.toNat (BitVec.ofInt (IntKind.bits IntKind.u8) (byteAt s i) &&& BitVec.ofInt (IntKind.bits IntKind.u8) (15 : Int))) : Int)))])) (⟨1, some 5, true⟩ : ET) St.live [])) Tr.nil Tr.nil }) False) False) False) False))))) False) (ifK (decide (0 + n ≤ List.length B) && u8s (List.take n (List.drop 0 B))) (Q (Value.string (⟨⟨bytesFrom (List.take n (List.drop 0 B))⟩⟩ : ByteArray)) { size := 0, tr := Tr.nil }) False)) := by kernel_rfl
end Go.Ev

/- The summary of path.Escape. -/
namespace Go.Ev
open Go Go.Proofs Go.RowKit
set_option linter.unusedVariables false
set_option linter.unusedSimpArgs false
set_option maxRecDepth 100000
set_option maxHeartbeats 4000000
abbrev hexB : ByteArray := ⟨#[(48 : UInt8), (49 : UInt8), (50 : UInt8), (51 : UInt8), (52 : UInt8), (53 : UInt8), (54 : UInt8), (55 : UInt8), (56 : UInt8), (57 : UInt8), (65 : UInt8), (66 : UInt8), (67 : UInt8), (68 : UInt8), (69 : UInt8), (70 : UInt8)]⟩
theorem hexB_sz : (↑(ByteArray.size hexB) : Int) = 16 := rfl
def plP (b : UInt8) : Prop := 97 ≤ b.toNat ∧ b.toNat ≤ 122 ∨ 65 ≤ b.toNat ∧ b.toNat ≤ 90 ∨ 48 ≤ b.toNat ∧ b.toNat ≤ 57 ∨ 0 ≤ Lib.indexByte [(45 : UInt8), (46 : UInt8), (95 : UInt8), (126 : UInt8), (47 : UInt8)] (Nat.toUInt8 (Int.toNat (b.toNat : Int)))
instance (b : UInt8) : Decidable (plP b) := by unfold plP; infer_instance
def hexU (b : UInt8) : UInt8 := UInt8.ofNat (byteAt hexB ((b.toNat / 16 : Nat) : Int)).toNat
def hexW (b : UInt8) : UInt8 := UInt8.ofNat (byteAt hexB ((b.toNat % 16 : Nat) : Int)).toNat
def escB (b : UInt8) : List UInt8 := if plP b then [b] else [37, hexU b, hexW b]
def escL (l : List UInt8) : List UInt8 := l.flatMap escB
def esO (s : ByteArray) : ByteArray := ⟨⟨escL s.data.toList⟩⟩
theorem of_byteAt (s : ByteArray) (i : Int) : ((UInt8.ofNat (byteAt s i).toNat).toNat : Int) = byteAt s i := by
  have := byteAt_bd s i
  rw [UInt8.toNat_ofNat']
  omega
theorem fd4 (b : UInt8) : Int.fdiv (b.toNat : Int) ((2 : Int) ^ min (Int.toNat (4 : Int)) 8) = ((b.toNat / 16 : Nat) : Int) := by
  rw [show (2 : Int) ^ min (Int.toNat (4 : Int)) 8 = 16 by decide, Int.fdiv_eq_ediv_of_nonneg _ (by decide)]
  omega
theorem and15_all : ∀ x : Fin 256, IntKind.wrap IntKind.u8 (↑(BitVec.toNat (BitVec.ofInt (IntKind.bits IntKind.u8) (x.val : Int) &&& BitVec.ofInt (IntKind.bits IntKind.u8) (15 : Int))) : Int) = ((x.val % 16 : Nat) : Int) := by decide +kernel
theorem and15 (b : UInt8) : IntKind.wrap IntKind.u8 (↑(BitVec.toNat (BitVec.ofInt (IntKind.bits IntKind.u8) (b.toNat : Int) &&& BitVec.ofInt (IntKind.bits IntKind.u8) (15 : Int))) : Int) = ((b.toNat % 16 : Nat) : Int) := and15_all ⟨b.toNat, b.toNat_lt⟩
theorem escB_len (b : UInt8) : (escB b).length ≤ 3 := by unfold escB; split <;> simp
theorem escL_len (l : List UInt8) : (escL l).length ≤ 3 * l.length := by
  induction l with
  | nil => exact Nat.le_refl _
  | cons b l ih =>
    have := escB_len b
    show ((escB b) ++ escL l).length ≤ _
    rw [List.length_append, List.length_cons]; omega
theorem esO_sz (s : ByteArray) : (esO s).size ≤ 3 * s.size := by
  have := escL_len s.data.toList
  rw [ba_len] at this
  exact this
abbrev EQs (s : ByteArray) (v : Value) (H : AHeap) : Prop := v = .string (esO s) ∧ H = AHeap.empty
def esI (s : ByteArray) (id : Nat) (μ : List Nat) (m : Nat) (vs : List Value) (H : AHeap) : Prop :=
  match id with
  | 0 => vs = [.string s, nl, vi s.size, vi 0] ∧ H = AHeap.empty ∧ m = s.size
  | 1 => ∃ (i : Nat) (B : List UInt8), vs = [.string s, slb 0 B.length, vi s.size, vi i] ∧ H = uH (bcells B) ∧ i ≤ s.size ∧ B = escL (s.data.toList.take i) ∧ m = s.size - i
  | _ => False
abbrev esSeg (s : ByteArray) (m : Nat) (vs : List Value) (H : AHeap) : Prop := segA ptQ esHint 30 20 12 0 52 esCuts (ofI (esI s)) esB esP [] m [0,3,7,8] vs H (endGK ptQ [.tmp 2] 0 [[]] (EQs s))
theorem esc_next {s : ByteArray} {i : Nat} {b : UInt8} (hi : i < s.size) (hb : byteAt s (i : Int) = b.toNat) : escL (s.data.toList.take (i + 1)) = escL (s.data.toList.take i) ++ escB b := by
  rw [take_next hi hb]
  unfold escL
  rw [List.flatMap_append]
  simp
theorem esseg1 {s : ByteArray} (hs : s.size ≤ 1000000000000) (m : Nat) (vs : List Value) (H : AHeap) (hI : esI s 1 [] m vs H) : Hd (esSeg s m vs H) := by
  obtain ⟨i, B, rfl, rfl, hi, hB, rfl⟩ := hI
  have hBl : B.length ≤ 3 * i := by rw [hB]; have := escL_len (s.data.toList.take i); rw [List.length_take] at this; omega
  have hbl : (bcells B).length = B.length := List.length_map _
  have ht : List.take (B.length * 1) (List.drop 0 (bcells B)) = bcells B := by rw [List.drop_zero, List.take_of_length_le (by omega)]
  have ht1 : List.take B.length (List.drop 0 (bcells B)) = bcells B := by rw [List.drop_zero, List.take_of_length_le (by omega)]
  constructor
  unfold esSeg
  rw [es1]
  refine ifK_dec (fun h => ?_) (fun h => ?_)
  · obtain ⟨b, hb, hd⟩ := dropAt (s := s) (i := i) (by omega)
    have hen := esc_next (s := s) (i := i) (by omega) hb
    have hw1 : IntKind.wrap IntKind.i64 ((i : Int) + 1) = ((i + 1 : Nat) : Int) := by rw [wr_i64]; omega
    have hb16 : b.toNat / 16 < 16 := by have := b.toNat_lt; omega
    simp only [hb, hw1, ht, fd4, and15]
    have leafA : plP b → ofI (esI s) 1 (some (s.size - i)) [] [.string s, slb 0 (B.length + 1), vi s.size, vi (i + 1 : Nat)] (uH ((bcells B ++ [Value.int .u8 b.toNat]).map (renV [2]))) := by
      intro hp
      have e : B ++ [b] = escL (s.data.toList.take (i + 1)) := by rw [hen, ← hB, escB, if_pos hp]
      refine ⟨s.size - (i + 1), by omega, i + 1, B ++ [b], ?_, ?_, by omega, e, rfl⟩
      · rw [List.length_append]; rfl
      · have e : bcells B ++ [Value.int .u8 b.toNat] = bcells (B ++ [b]) := by unfold bcells; rw [List.map_append]; rfl
        exact congrArg uH ((congrArg (List.map (renV [2])) e).trans (bcells_ren _ _))
    have leafB : ¬ plP b → ofI (esI s) 1 (some (s.size - i)) [] [.string s, slb 0 (B.length + 3), vi s.size, vi (i + 1 : Nat)] (uH ((bcells B ++ [Value.int .u8 37, Value.int .u8 (byteAt hexB ((b.toNat / 16 : Nat) : Int)), Value.int .u8 (byteAt hexB ((b.toNat % 16 : Nat) : Int))]).map (renV [2]))) := by
      intro hp
      have e : B ++ [37, hexU b, hexW b] = escL (s.data.toList.take (i + 1)) := by rw [hen, ← hB, escB, if_neg hp]
      refine ⟨s.size - (i + 1), by omega, i + 1, B ++ [37, hexU b, hexW b], ?_, ?_, by omega, e, rfl⟩
      · rw [List.length_append]; rfl
      · have e : bcells B ++ [Value.int .u8 37, Value.int .u8 (byteAt hexB ((b.toNat / 16 : Nat) : Int)), Value.int .u8 (byteAt hexB ((b.toNat % 16 : Nat) : Int))] = bcells (B ++ [37, hexU b, hexW b]) := by
          unfold bcells
          rw [List.map_append]
          show _ = _ ++ [Value.int .u8 37, Value.int .u8 (hexU b).toNat, Value.int .u8 (hexW b).toNat]
          unfold hexU hexW
          rw [of_byteAt, of_byteAt]
        exact congrArg uH ((congrArg (List.map (renV [2])) e).trans (bcells_ren _ _))
    refine ifK_dec (fun _ => ?_) (fun h' => absurd ⟨by omega, h⟩ h')
    have hA : plP b → ∀ K : Prop, ifK (B.length == B.length) (ifK (decide (0 + B.length * 1 = (bcells B).length ∧ B.length ≤ B.length ∧ (B.length + 1) * 1 ≤ 140737488355328 ∧ B.length + 1 < 4611686018427387904)) (ofI (esI s) 1 (some (s.size - i)) [] [.string s, slb 0 (B.length + 1), vi s.size, vi (i + 1 : Nat)] (uH ((bcells B ++ [Value.int .u8 b.toNat]).map (renV [2])))) False) K := by
      intro hp K
      refine ifK_t (by simp) ?_
      refine ifK_dec (fun _ => leafA hp) (fun h' => absurd ⟨by omega, by omega, by omega, by omega⟩ h')
    repeat' first
      | (refine hA ?_ _; unfold plP; omega)
      | (with_reducible refine ifK_dec (fun _ => ?_) (fun _ => ?_))
    all_goals first
      | exact leafA (by unfold plP; omega)
      | (refine ifK_t (by simp) ?_
         refine ifK_dec (fun _ => leafA (by unfold plP; omega)) (fun h' => absurd ⟨by omega, by omega, by omega, by omega⟩ h'))
      | (refine ifK_t (by simp) ?_
         refine ifK_dec (fun _ => leafB (by unfold plP; omega)) (fun h' => absurd ⟨by omega, by omega, by omega, by omega⟩ h'))
      | (exfalso; rename_i h'; rw [hexB_sz] at h'; omega)
      | (exfalso; omega)
  · have hie : i = s.size := by omega
    rw [ht1, u8s_map, bytesFrom_map]
    refine ifK_t (by rw [Bool.and_true]; exact decide_eq_true (by omega)) ?_
    rw [hie, List.take_of_length_le (by rw [ba_len]; exact Nat.le_refl _)] at hB
    exact ⟨by rw [hB]; rfl, rfl⟩
theorem esseg0 {s : ByteArray} (hs : s.size ≤ 1000000000000) (m : Nat) (vs : List Value) (H : AHeap) (hI : esI s 0 [] m vs H) : Hd (esSeg s m vs H) := by
  obtain ⟨rfl, rfl, rfl⟩ := hI
  constructor
  unfold esSeg
  rw [es0]
  refine ifK_dec (fun h => ?_) (fun h => ?_)
  · obtain ⟨b, hb, hd⟩ := dropAt (s := s) (i := 0) (by omega)
    have hen := esc_next (s := s) (i := 0) (by omega) hb
    have hw1 : IntKind.wrap IntKind.i64 ((0 : Int) + 1) = ((0 + 1 : Nat) : Int) := by decide
    have hb16 : b.toNat / 16 < 16 := by have := b.toNat_lt; omega
    have hb' : byteAt s 0 = b.toNat := hb
    simp only [hb', hw1, fd4, and15]
    have leafA : plP b → ofI (esI s) 1 (some s.size) [] [.string s, slb 0 1, vi s.size, vi (0 + 1 : Nat)] (uH [Value.int .u8 b.toNat]) := by
      intro hp
      have e : [b] = escL (s.data.toList.take (0 + 1)) := by rw [hen, escB, if_pos hp]; rfl
      exact ⟨s.size - 1, by omega, 1, [b], rfl, rfl, by omega, e, rfl⟩
    have leafB : ¬ plP b → ofI (esI s) 1 (some s.size) [] [.string s, slb 0 3, vi s.size, vi (0 + 1 : Nat)] (uH [Value.int .u8 37, Value.int .u8 (byteAt hexB ((b.toNat / 16 : Nat) : Int)), Value.int .u8 (byteAt hexB ((b.toNat % 16 : Nat) : Int))]) := by
      intro hp
      have e : [37, hexU b, hexW b] = escL (s.data.toList.take (0 + 1)) := by rw [hen, escB, if_neg hp]; rfl
      refine ⟨s.size - 1, by omega, 1, [37, hexU b, hexW b], rfl, ?_, by omega, e, rfl⟩
      have e : [Value.int .u8 37, Value.int .u8 (byteAt hexB ((b.toNat / 16 : Nat) : Int)), Value.int .u8 (byteAt hexB ((b.toNat % 16 : Nat) : Int))] = bcells [37, hexU b, hexW b] := by
        show _ = [Value.int .u8 37, Value.int .u8 (hexU b).toNat, Value.int .u8 (hexW b).toNat]
        unfold hexU hexW
        rw [of_byteAt, of_byteAt]
      exact congrArg uH e
    refine ifK_dec (fun _ => ?_) (fun h' => absurd ⟨by omega, h⟩ h')
    repeat' (with_reducible refine ifK_dec (fun _ => ?_) (fun _ => ?_))
    all_goals first
      | exact leafA (by unfold plP; omega)
      | exact leafB (by unfold plP; omega)
      | (exfalso; rename_i h'; rw [hexB_sz] at h'; omega)
      | (exfalso; omega)
  · have : s.data.toList = [] := List.length_eq_zero_iff.1 (by rw [ba_len]; omega)
    refine ⟨?_, rfl⟩
    unfold esO
    rw [this]; rfl
theorem body12 : Tryd.f12.body = some (bodyOf Tryd.prog 12) := by kernel_rfl
theorem nt12 : Tryd.f12.ntmps = 52 := by kernel_rfl
theorem rs12 : Tryd.f12.results.toList = [.tmp 2] := by kernel_rfl
theorem dr12 : allDraw (ptQ.ok 12) (bodyOf Tryd.prog 12) = true := by kernel_rfl
theorem lo12 : loopsOn esP esB = 0 := by kernel_rfl
def esSpec : List Value → SpR
  | [.string s] => .ret (decide (s.size ≤ 1000000000000)) (.string (esO s)) []
  | _ => .fail
theorem es_ok : BSumOk ptQ.P 12 (newS esSpec) := by
  refine sumOk_new Tryd.func12 (by kernel_rfl) (by decide) fun args v os hs w cargs ha => ?_
  unfold esSpec at hs
  split at hs
  case h_2 => cases hs
  rename_i s
  simp only [SpR.get, Option.some.injEq, Prod.mk.injEq, decide_eq_true_eq] at hs
  obtain ⟨hs, rfl, rfl⟩ := hs
  refine (calls_cutsG pqT pqF pqO pqM esHint (f := 12) (k := 30) (n := 20) Tryd.func12 body12 nt12 rs12 dr12 (cuts := esCuts) (I := esI s) (rts := [[]]) (Q := EQs s) (args := [.string s]) (Rel.empty w) ha ⟨?_⟩ ⟨⟨?_, ?_, trivial⟩, trivial⟩).mono ?_
  · show startA ptQ esHint 30 20 12 0 52 esCuts _ esB ([.string s] ++ List.replicate 51 undef) AHeap.empty (endGK ptQ [.tmp 2] 0 [[]] _)
    rw [esS]
    exact ⟨s.size, trivial, rfl, rfl, rfl⟩
  · intro ms hms m vs H hi
    obtain rfl := List.eq_nil_of_length_eq_zero (hms.trans lo12)
    exact esseg1 hs m vs H hi
  · intro ms hms m vs H hi
    obtain rfl := List.eq_nil_of_length_eq_zero (hms.trans lo12)
    exact esseg0 hs m vs H hi
  · rintro e w' ⟨v', H', ⟨rfl, rfl⟩, hp⟩
    exact hp
noncomputable def prSumms : List (Nat × BSumm) := (12, newS esSpec) :: pqSumms
theorem prSO : BSumsOk Tryd.prog prSumms := ⟨es_ok, pqSO⟩
noncomputable def ptR : Env := mkEnvB Tryd.prog ptPlans ptExts fun f => look f prSumms
theorem prT : ptR.TOk := tOkB_of (by kernel_rfl) ptX
theorem prF : ptR.FOk ptR.ok := fOkB_of (by kernel_rfl)
theorem prO : ptR.SOk := sOkB_of prSO
theorem prM : ptR.P.follows .mixedOrders = true := by kernel_rfl
end Go.Ev

/- The parts of a clean path, in plain lists. -/
namespace Go.Ev
open Go Go.Proofs Go.RowKit
set_option linter.unusedVariables false
set_option linter.unusedSimpArgs false
set_option maxRecDepth 100000
set_option maxHeartbeats 4000000
def goL : List (List UInt8) → List (List UInt8) → Bool → Option (List (List UInt8) × Bool)
  | [], K, f => some (K, f)
  | p :: ps, K, f => if p = [] then goL ps K true else if p = [46] then goL ps K true else
      if p = [46, 46] then (if K = [] then none else goL ps K.dropLast true) else goL ps (K ++ [p]) false
abbrev tL (x : ByteArray) : List UInt8 := x.data.toList
theorem seq_e (p : ByteArray) : (seq p eB = true) ↔ tL p = [] := by
  show ((p.data.toList == []) = true) ↔ _
  simp
theorem seq_dot (p : ByteArray) : (seq p dotB = true) ↔ tL p = [46] := by
  show ((p.data.toList == [46]) = true) ↔ _
  simp
theorem seq_dd (p : ByteArray) : (seq p ddB = true) ↔ tL p = [46, 46] := by
  show ((p.data.toList == [46, 46]) = true) ↔ _
  simp
theorem go_eq : ∀ (ps K : List ByteArray) (f : Bool), (clGo ps K f).map (fun r => (r.1.map tL, r.2)) = goL (ps.map tL) (K.map tL) f := by
  intro ps
  induction ps with
  | nil => intro K f; rfl
  | cons p ps ih =>
    intro K f
    rw [clGo, List.map_cons, goL]
    by_cases h1 : seq p eB = true
    · rw [if_pos h1, if_pos ((seq_e p).1 h1)]; exact ih _ _
    rw [if_neg h1, if_neg (fun h => h1 ((seq_e p).2 h))]
    by_cases h2 : seq p dotB = true
    · rw [if_pos h2, if_pos ((seq_dot p).1 h2)]; exact ih _ _
    rw [if_neg h2, if_neg (fun h => h2 ((seq_dot p).2 h))]
    by_cases h3 : seq p ddB = true
    · rw [if_pos h3, if_pos ((seq_dd p).1 h3)]
      by_cases h4 : K = []
      · subst h4; rfl
      · rw [if_neg (fun h => h4 (List.length_eq_zero_iff.1 h)), if_neg (fun h => h4 (List.map_eq_nil_iff.1 h)), ih, List.map_dropLast]
    · rw [if_neg h3, if_neg (fun h => h3 ((seq_dd p).2 h)), ih, List.map_append]; rfl
/-- The bytes of the path that parts make. -/
def outL (r : Option (List (List UInt8) × Bool)) : List UInt8 :=
  match r with
  | some (K, f) => 47 :: (Lib.join K [47] ++ (if f = true ∧ K ≠ [] then [47] else []))
  | none => []
theorem clO_list (r : Option (List ByteArray × Bool)) : tL (clO r) = outL (r.map fun r => (r.1.map tL, r.2)) := by
  cases r with
  | none => rfl
  | some r =>
    obtain ⟨K, f⟩ := r
    show tL (clO (some (K, f))) = 47 :: (Lib.join (K.map tL) [47] ++ (if f = true ∧ K.map tL ≠ [] then [47] else []))
    rw [clO]
    have ej : (joinB K slB).data.toList = Lib.join (K.map tL) [47] := rfl
    have es : slB.data.toList = [47] := rfl
    by_cases hc : f = true ∧ 0 < K.length
    · rw [if_pos hc, if_pos ⟨hc.1, by
        cases K with
        | nil => exact absurd hc.2 (by simp)
        | cons a K => simp⟩]
      show (slB ++ joinB K slB ++ slB).data.toList = _
      rw [ba_list2, ba_list2, ej, es]
      simp
    · rw [if_neg hc, if_neg (fun hn => hc ⟨hn.1, by
        cases K with
        | nil => exact absurd rfl hn.2
        | cons a K => simp⟩)]
      show (slB ++ joinB K slB).data.toList = _
      rw [ba_list2, ej, es]
      simp
/-- Of a text that stands for a path, without its query. -/
theorem rawOut_list (h : ByteArray) (hp : hasP h = true) (hu : unOk h = true) : tL (rawOut h) = outL (goL (splitL (tL (unO h))) [] false) ∧ (rawErr h = 0 ↔ (goL (splitL (tL (unO h))) [] false).isSome = true) := by
  have e := go_eq (pieces (unO h) 47) [] false
  have ep : (pieces (unO h) 47).map tL = splitL (tL (unO h)) := pieces_eq (unO h)
  rw [ep] at e
  have e' : (clGo (pieces (unO h) 47) [] false).map (fun r => (r.1.map tL, r.2)) = goL (splitL (tL (unO h))) [] false := e
  have hs : (goL (splitL (tL (unO h))) [] false).isSome = (clGo (pieces (unO h) 47) [] false).isSome := by rw [← e', Option.isSome_map]
  have hE : rawErr h = 0 ↔ (goL (splitL (tL (unO h))) [] false).isSome = true := by
    rw [hs]
    unfold rawErr
    rw [if_pos hp, if_pos hu]
    split
    · rename_i h1; exact ⟨fun _ => h1, fun _ => rfl⟩
    · rename_i h1; exact ⟨fun h => absurd h (by decide), fun h => absurd h h1⟩
  refine ⟨?_, hE⟩
  unfold rawOut
  by_cases h0 : rawErr h = 0
  · rw [if_pos h0, clO_list, e']
  · rw [if_neg h0]
    have : goL (splitL (tL (unO h))) [] false = none := by
      cases hq : goL (splitL (tL (unO h))) [] false with
      | none => rfl
      | some r => exact absurd (hE.2 (by rw [hq]; rfl)) h0
    rw [this]; rfl
/-! ### A clean path's parts are themselves -/
theorem goL_good : ∀ (L K : List (List UInt8)) (f : Bool) (ps : List (List UInt8)), (∀ x ∈ L, goodL x) → L ≠ [] → goL (L ++ ps) K f = goL ps (K ++ L) false := by
  intro L
  induction L with
  | nil => intro K f ps _ h; exact absurd rfl h
  | cons x L ih =>
    intro K f ps h _
    obtain ⟨h1, h2, h3, h4⟩ := h x (List.mem_cons_self ..)
    rw [List.cons_append, goL, if_neg h1, if_neg h2, if_neg h3]
    cases L with
    | nil => rfl
    | cons y L => rw [ih _ _ _ (fun z hz => h z (List.mem_cons_of_mem _ hz)) (by simp), List.append_assoc]; rfl
theorem splitL_tail (tl : List UInt8) (ht : tl = [] ∨ tl = [47]) : ∀ (L : List (List UInt8)) (x : List UInt8), (∀ b ∈ x, b ≠ 47) → (∀ y ∈ L, ∀ b ∈ y, b ≠ 47) → splitL (x ++ (tailJ L ++ tl)) = x :: (L ++ if tl = [] then [] else [[]]) := by
  intro L
  induction L with
  | nil =>
    intro x hx _
    rcases ht with rfl | rfl
    · show splitL (x ++ []) = _
      rw [List.append_nil, splitL_one x hx]; rfl
    · show splitL (x ++ 47 :: []) = _
      rw [splitL_app [] x hx]; rfl
  | cons y L ih =>
    intro x hx hL
    have e : tailJ (y :: L) ++ tl = 47 :: (y ++ (tailJ L ++ tl)) := by unfold tailJ; simp
    rw [e, splitL_app _ x hx, ih y (hL y (List.mem_cons_self ..)) (fun z hz => hL z (List.mem_cons_of_mem _ hz))]
    rfl
/-- A clean path is cleaned to itself. -/
theorem goL_clean (L : List (List UInt8)) (f : Bool) (hL : ∀ x ∈ L, goodL x) : outL (goL (splitL (outL (some (L, f)))) [] false) = outL (some (L, f)) ∧ (goL (splitL (outL (some (L, f)))) [] false).isSome = true := by
  show outL (goL (splitL (47 :: (Lib.join L [47] ++ (if f = true ∧ L ≠ [] then [47] else [])))) [] false) = 47 :: (Lib.join L [47] ++ (if f = true ∧ L ≠ [] then [47] else [])) ∧ _
  show _ ∧ (goL (splitL (47 :: (Lib.join L [47] ++ (if f = true ∧ L ≠ [] then [47] else [])))) [] false).isSome = true
  rw [splitL_slash, goL, if_pos rfl]
  cases L with
  | nil =>
    rw [if_neg (fun h => h.2 rfl)]
    exact ⟨rfl, rfl⟩
  | cons x L =>
    have hx := (hL x (List.mem_cons_self ..)).2.2.2
    have hy : ∀ y ∈ L, ∀ b ∈ y, b ≠ 47 := fun y hy => (hL y (List.mem_cons_of_mem _ hy)).2.2.2
    cases f with
    | true =>
      have e : (if true = true ∧ x :: L ≠ [] then [47] else ([] : List UInt8)) = [47] := if_pos ⟨rfl, by simp⟩
      have hs := splitL_tail [47] (.inr rfl) L x hx hy
      have hg := goL_good (x :: L) [] true [[]] hL (by simp)
      have hs2 : x :: (L ++ if ([47] : List UInt8) = [] then [] else [[]]) = (x :: L) ++ [[]] := by rw [if_neg (by simp)]; rfl
      rw [e, join_tail, List.append_assoc, hs, hs2, hg, List.nil_append, goL, if_pos rfl, goL]
      refine ⟨?_, rfl⟩
      show 47 :: (Lib.join (x :: L) [47] ++ (if true = true ∧ x :: L ≠ [] then [47] else [])) = _
      rw [e, join_tail, List.append_assoc]
    | false =>
      have e : (if false = true ∧ x :: L ≠ [] then [47] else ([] : List UInt8)) = [] := if_neg (fun h => absurd h.1 (by decide))
      have hs := splitL_tail [] (.inl rfl) L x hx hy
      have hg := goL_good (x :: L) [] true [] hL (by simp)
      have hs2 : x :: (L ++ if ([] : List UInt8) = [] then [] else [[]]) = (x :: L) ++ [] := by rw [if_pos rfl]; rfl
      rw [e, join_tail, List.append_assoc, hs, hs2, hg, List.nil_append, goL]
      refine ⟨?_, rfl⟩
      show 47 :: (Lib.join (x :: L) [47] ++ (if false = true ∧ x :: L ≠ [] then [47] else [])) = _
      rw [e, join_tail, List.append_assoc]
end Go.Ev

/- The law PathBack: what its ways come to; no condition. -/
namespace Go.Ev
open Go Go.Proofs Go.RowKit
set_option linter.unusedVariables false
set_option maxRecDepth 100000
set_option maxHeartbeats 4000000
noncomputable abbrev bkB : Code := bodyOf Tryd.prog 5
def bkP : List Bool := [true, true, true, true, false, true, false]
def bkCuts : Cuts := [(bkP, [⟨0, [3,6,7,8,9], [], false⟩])]
theorem bkS (t : ByteArray) (R : RFun) (Q : Value → Prop) :
   startA ptR noH 30 20 5 0 57 bkCuts R bkB ([.string t] ++ List.replicate 56 undef) AHeap.empty (endK ptR [.tmp 2] fun v _ => Q v)
   = (ifK (decide (ByteArray.size t ≤ 8000000)) (ifK (!decide (clErr t = (0 : Int))) (Q (Value.bool true)) (ifK (decide (ByteArray.size (clOut t) ≤ 1000000000000)) (ifK (decide (ByteArray.size (esO (clOut t)) ≤ 8000000)) (R 0 none [] [Value.string (clOut t), Value.string (clOut (esO (clOut t))), Value.string (clQry (esO (clOut t))), vi (clErr (esO (clOut t))), vi (0 : Int)] { size := 0, tr := Tr.nil }) False) False)) False) := by kernel_rfl
theorem bk0 (p q r : ByteArray) (e : Int) (m : Nat) (i : Int) (R : RFun) (Q : Value → Prop) :
   segA ptR noH 30 20 5 0 57 bkCuts R bkB bkP [] m [3,6,7,8,9] [.string p, .string q, .string r, vi e, vi i] AHeap.empty (endK ptR [.tmp 2] fun v _ => Q v)
   = (ifK (decide (i < (↑(ByteArray.size p) : Int))) (ifK (decide ((0 : Int) ≤ i ∧ i < (↑(ByteArray.size p) : Int))) (ifK (decide (byteAt p i < (32 : Int))) (Q (Value.bool true)) (ifK (decide ((0 : Int) ≤ i ∧ i < (↑(ByteArray.size p) : Int))) (ifK (decide (byteAt p i = (127 : Int))) (Q (Value.bool true)) (R 0 (some m) [] [Value.string p, Value.string q, Value.string r, vi e, vi (IntKind.wrap IntKind.i64 (i + (1 : Int)))] { size := 0, tr := Tr.nil })) False)) False) (ifK (seq q p) (ifK (seq r (⟨#[]⟩ : ByteArray)) (ifK (decide (e = (0 : Int))) (Q (Value.bool true)) (Q (Value.bool false))) (Q (Value.bool false))) (Q (Value.bool false)))) := by kernel_rfl
end Go.Ev

/- The law PathBack answers true at every text within some bound. -/
namespace Go.Ev
open Go Go.Proofs Go.RowKit
set_option linter.unusedVariables false
set_option linter.unusedSimpArgs false
set_option maxRecDepth 100000
set_option maxHeartbeats 4000000
/-! ### Escapes -/
theorem esc_all : ∀ x : Fin 256, (¬ plP (UInt8.ofNat x.val) → 32 ≤ x.val → x.val ≠ 127 → ¬ (woth (hexU (UInt8.ofNat x.val)).toNat < 2 ∨ woth (hexW (UInt8.ofNat x.val)).toNat < 0 ∨ hexC (hexU (UInt8.ofNat x.val)) (hexW (UInt8.ofNat x.val)) = 127 ∨ hexC (hexU (UInt8.ofNat x.val)) (hexW (UInt8.ofNat x.val)) = 47) ∧ hexC (hexU (UInt8.ofNat x.val)) (hexW (UInt8.ofNat x.val)) = UInt8.ofNat x.val) ∧
    (∀ c ∈ escB (UInt8.ofNat x.val), c ≠ 63) ∧ (plP (UInt8.ofNat x.val) → UInt8.ofNat x.val ≠ 37) := by decide +kernel
theorem esc_byte (b : UInt8) : (¬ plP b → okB b → ¬ (woth (hexU b).toNat < 2 ∨ woth (hexW b).toNat < 0 ∨ hexC (hexU b) (hexW b) = 127 ∨ hexC (hexU b) (hexW b) = 47) ∧ hexC (hexU b) (hexW b) = b) ∧ (∀ c ∈ escB b, c ≠ 63) ∧ (plP b → b ≠ 37) := by
  have h := esc_all ⟨b.toNat, b.toNat_lt⟩
  simp only [UInt8.ofNat_toNat] at h
  refine ⟨fun h1 h2 => h.1 h1 h2.1 (fun h3 => h2.2 ?_), h.2⟩
  have : b = UInt8.ofNat 127 := by rw [← h3]; simp
  exact this
theorem unGo_esc : ∀ (l out : List UInt8), (∀ b ∈ l, okB b) → unGo (escL l) out = some (out ++ l) := by
  intro l
  induction l with
  | nil => intro out _; rw [List.append_nil]; exact unGo_nil out
  | cons b l ih =>
    intro out h
    obtain ⟨e1, e2, e3⟩ := esc_byte b
    show unGo (escB b ++ escL l) out = _
    unfold escB
    by_cases hp : plP b
    · rw [if_pos hp]
      show unGo (b :: escL l) out = _
      rw [unGo_b (e3 hp), ih _ (fun c hc => h c (List.mem_cons_of_mem _ hc)), List.append_assoc]; rfl
    · rw [if_neg hp]
      obtain ⟨g1, g2⟩ := e1 hp (h b (List.mem_cons_self ..))
      show unGo (37 :: hexU b :: hexW b :: escL l) out = _
      rw [unGo_hex g1, g2, ih _ (fun c hc => h c (List.mem_cons_of_mem _ hc)), List.append_assoc]; rfl
theorem esc_no63 (l : List UInt8) : ∀ c ∈ escL l, c ≠ 63 := by
  intro c hc
  obtain ⟨b, _, hb⟩ := List.mem_flatMap.1 hc
  exact (esc_byte b).2.1 c hb
theorem back_law {t : ByteArray} (h : clErr t = 0) (hb : ∀ b ∈ tL (clOut t), okB b) : clErr (esO (clOut t)) = 0 ∧ clOut (esO (clOut t)) = clOut t ∧ clQry (esO (clOut t)) = eB := by
  obtain ⟨L, f, e, hL, _, _, _⟩ := clean_form h
  have hout : tL (clOut t) = outL (some (L, f)) := e
  obtain ⟨h1, h2⟩ := tw_all 63 (tL (esO (clOut t))) (esc_no63 _)
  have eh : headC 63 (esO (clOut t)) = esO (clOut t) := ba_ext h1
  have et : tailC 63 (esO (clOut t)) = eB := ba_ext h2
  have hP : hasP (esO (clOut t)) = true := by
    unfold hasP
    show ((escL (tL (clOut t))).head? == some 47) = true
    rw [hout]
    have : escB 47 = [47] := by decide
    show ((escB 47 ++ escL _).head? == some 47) = true
    rw [this]; rfl
  have hU : undoF (esO (clOut t)) = some (tL (clOut t)) := by
    show unGo (escL (tL (clOut t))) [] = _
    rw [unGo_esc _ _ hb]; rfl
  have hOk : unOk (esO (clOut t)) = true := by unfold unOk; rw [hU]; rfl
  have hO : tL (unO (esO (clOut t))) = tL (clOut t) := by
    show (undoF (esO (clOut t))).getD [] = _
    rw [hU]; rfl
  obtain ⟨r1, r2⟩ := rawOut_list (esO (clOut t)) hP hOk
  rw [hO, hout] at r1 r2
  obtain ⟨g1, g2⟩ := goL_clean L f (fun x hx => (hL x hx).1)
  have hE : clErr (esO (clOut t)) = 0 := by unfold clErr; rw [eh]; exact r2.2 g2
  refine ⟨hE, ?_, ?_⟩
  · unfold clOut
    rw [show headC 63 (esO (rawOut (headC 63 t))) = esO (rawOut (headC 63 t)) from eh]
    apply ba_ext
    have : tL (rawOut (esO (clOut t))) = tL (clOut t) := by rw [r1, g1, hout]
    exact this
  · unfold clQry
    rw [if_pos hE, et]
/-! ### How long a clean path is -/
def wt (L : List (List UInt8)) : Nat := (L.map fun x => x.length + 1).sum
theorem wt_cons (x : List UInt8) (L : List (List UInt8)) : wt (x :: L) = x.length + 1 + wt L := rfl
theorem wt_app (K L : List (List UInt8)) : wt (K ++ L) = wt K + wt L := by unfold wt; rw [List.map_append, List.sum_append]
theorem wt_drop (K : List (List UInt8)) : wt K.dropLast ≤ wt K := by
  cases hK : K.reverse with
  | nil =>
    have : K = [] := by simpa using hK
    subst this; exact Nat.le_refl _
  | cons x R =>
    have : K = R.reverse ++ [x] := by rw [← List.reverse_reverse K, hK]; simp
    subst this
    rw [List.dropLast_concat, wt_app]; omega
theorem goL_wt : ∀ (ps K : List (List UInt8)) (f : Bool) (r : List (List UInt8) × Bool), goL ps K f = some r → wt r.1 ≤ wt K + wt ps := by
  intro ps
  induction ps with
  | nil => intro K f r h; rw [goL] at h; cases h; exact Nat.le_add_right _ _
  | cons p ps ih =>
    intro K f r h
    rw [goL] at h
    rw [wt_cons]
    split at h
    · have := ih _ _ _ h; omega
    split at h
    · have := ih _ _ _ h; omega
    split at h
    · split at h
      · cases h
      · have := ih _ _ _ h
        have := wt_drop K; omega
    · have := ih _ _ _ h
      rw [wt_app, wt_cons] at this
      have e : wt [] = 0 := rfl
      omega
theorem splitL_wt : ∀ (l : List UInt8), wt (splitL l) = l.length + 1 := by
  intro l
  induction l with
  | nil => rfl
  | cons b l ih =>
    by_cases hb : b = 47
    · subst hb
      rw [splitL_slash, wt_cons, ih, List.length_cons]; simp; omega
    · obtain ⟨x, xs, h1, h2⟩ := splitL_byte hb l
      rw [h1, wt_cons] at ih
      rw [h2, wt_cons, List.length_cons, List.length_cons]; omega
theorem tailJ_wt (L : List (List UInt8)) : (tailJ L).length = wt L := by
  induction L with
  | nil => rfl
  | cons x L ih =>
    have e : tailJ (x :: L) = (47 :: x) ++ tailJ L := rfl
    rw [e, List.length_append, List.length_cons, ih, wt_cons]
theorem outL_len (r : Option (List (List UInt8) × Bool)) {n : Nat} (h : ∀ K f, r = some (K, f) → wt K ≤ n) : (outL r).length ≤ n + 1 := by
  cases r with
  | none => exact Nat.zero_le _
  | some r =>
    obtain ⟨K, f⟩ := r
    have hk := h K f rfl
    show (47 :: (Lib.join K [47] ++ (if f = true ∧ K ≠ [] then [47] else []))).length ≤ n + 1
    cases K with
    | nil =>
      rw [if_neg (fun h => h.2 rfl)]
      show 1 ≤ n + 1
      omega
    | cons x K =>
      rw [wt_cons] at hk
      rw [List.length_cons, List.length_append, join_tail, List.length_append, tailJ_wt]
      have : (if f = true ∧ x :: K ≠ [] then [47] else ([] : List UInt8)).length ≤ 1 := by split <;> simp
      omega
theorem clOut_tight (t : ByteArray) : (clOut t).size ≤ t.size + 2 := by
  have q1 := headC_sz 63 t
  have q2 := unO_sz (headC 63 t)
  rw [← ba_len]
  by_cases h : hasP (headC 63 t) = true ∧ unOk (headC 63 t) = true
  · obtain ⟨r1, _⟩ := rawOut_list (headC 63 t) h.1 h.2
    have e : (clOut t).data.toList = outL (goL (splitL (tL (unO (headC 63 t)))) [] false) := r1
    rw [e]
    refine Nat.le_trans (outL_len (n := t.size + 1) _ ?_) (Nat.le_refl _)
    intro K f hk
    have this : wt K ≤ _ := goL_wt _ _ _ _ hk
    rw [splitL_wt] at this
    have e2 : (tL (unO (headC 63 t))).length = (unO (headC 63 t)).size := ba_len _
    have e3 : wt [] = 0 := rfl
    omega
  · have : rawErr (headC 63 t) ≠ 0 := by
      unfold rawErr
      by_cases h1 : hasP (headC 63 t) = true
      · rw [if_pos h1, if_neg (fun h2 => h ⟨h1, h2⟩)]; decide
      · rw [if_neg h1]; decide
    have e : clOut t = eB := by unfold clOut rawOut; exact if_neg this
    rw [e]; exact Nat.zero_le _
/-! ### The law -/
def bkI (t : ByteArray) (id : Nat) (μ : List Nat) (m : Nat) (vs : List Value) (H : AHeap) : Prop :=
  match id with
  | 0 => ∃ i : Nat, vs = [.string (clOut t), .string (clOut (esO (clOut t))), .string (clQry (esO (clOut t))), vi (clErr (esO (clOut t))), vi i] ∧ H = AHeap.empty ∧ clErr t = 0 ∧ i ≤ (clOut t).size ∧ (∀ b ∈ (tL (clOut t)).take i, okB b) ∧ m = (clOut t).size - i
  | _ => False
theorem bkseg {t : ByteArray} (ht : t.size ≤ 2097152) (m : Nat) (vs : List Value) (H : AHeap) (hI : bkI t 0 [] m vs H) :
    Hd (segA ptR noH 30 20 5 0 57 bkCuts (ofI (bkI t)) bkB bkP [] m [3,6,7,8,9] vs H (endK ptR [.tmp 2] fun v _ => v = .bool true)) := by
  obtain ⟨i, rfl, rfl, h0, hi, hno, rfl⟩ := hI
  have hsz := clOut_tight t
  constructor
  rw [bk0]
  refine ifK_dec (fun h => ?_) (fun h => ?_)
  · obtain ⟨b, hb, hd⟩ := dropAt (s := clOut t) (i := i) (by omega)
    have hw : IntKind.wrap IntKind.i64 ((i : Int) + 1) = ((i + 1 : Nat) : Int) := by rw [wr_i64]; omega
    refine ifK_dec (fun _ => ?_) (fun h' => absurd ⟨by omega, h⟩ h')
    rw [hb, hw]
    refine ifK_dec (fun _ => rfl) (fun h32 => ?_)
    refine ifK_dec (fun _ => ?_) (fun h' => absurd ⟨by omega, h⟩ h')
    refine ifK_dec (fun _ => rfl) (fun h127 => ?_)
    refine ⟨(clOut t).size - (i + 1), by omega, i + 1, rfl, rfl, h0, by omega, ?_, rfl⟩
    intro x hx
    rw [take_next (by omega) hb] at hx
    rcases List.mem_append.1 hx with hx | hx
    · exact hno x hx
    · simp at hx; subst hx
      exact ⟨by omega, fun h => h127 ((u8_eq (n := 127) (by decide)).2 h)⟩
  · have hie : i = (clOut t).size := by omega
    rw [hie, List.take_of_length_le (by rw [ba_len]; exact Nat.le_refl _)] at hno
    obtain ⟨e1, e2, e3⟩ := back_law h0 hno
    rw [e2, e3]
    exact ifK_t (seq_self _) (ifK_t (seq_self _) (ifK_t (decide_eq_true e1) rfl))
theorem bkStart (t : ByteArray) (ht : t.size ≤ 2097152) : Hd (startA ptR noH 30 20 5 0 57 bkCuts (ofI (bkI t)) bkB ([.string t] ++ List.replicate 56 undef) AHeap.empty (endK ptR [.tmp 2] fun v _ => v = .bool true)) := by
  have hsz := clOut_tight t
  have hs2 := esO_sz (clOut t)
  constructor
  rw [bkS]
  refine ifK_dec (fun _ => ?_) (fun h' => absurd (by omega) h')
  refine ifK_nd (fun h0 => ?_) (fun h0 => rfl)
  refine ifK_dec (fun _ => ?_) (fun h' => absurd (by omega) h')
  refine ifK_dec (fun _ => ?_) (fun h' => absurd (by omega) h')
  exact ⟨(clOut t).size, trivial, 0, rfl, rfl, h0, Nat.zero_le _, by simp, rfl⟩
end Go.Ev
