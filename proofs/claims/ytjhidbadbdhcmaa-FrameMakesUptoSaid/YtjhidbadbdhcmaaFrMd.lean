/- FrM. -/
import Derived.Test.YtjhidbadbdhcmaaFrMc
import Derived.Test.YtjhidbadbdhcmaaFrMb
namespace Go.Ev
open Go Go.Proofs Go.RowKit
set_option linter.unusedVariables false
set_option maxRecDepth 100000
set_option maxHeartbeats 4000000
abbrev rowA (L : List Value) (T : ET) : AObj := .cells L T .ro []
def roH1 (L : List Value) (T : ET) : AHeap := { size := 1, tr := .node (some (rowA L T)) .nil .nil }
def roH2 (L : List Value) (T : ET) (M : List Value) (U : ET) : AHeap := { size := 2, tr := .node (some (rowA L T)) (.node (some (rowA M U)) .nil .nil) .nil }
def mHint : FuncId → Tmp → Option Hint := fun f t => (look f [(17, [(73, Hint.agg [.int .i64, .int .i64]), (78, Hint.agg [.int .i64, .int .i64])])]).bind (look t)
def mP : List Bool := [true,true,false,true,false]
def mCuts : Cuts := [(mP, [⟨0, [2,3,5], [(2,[]),(3,[])], false⟩])]
noncomputable abbrev mB : Code := bodyOf Try.prog 17
structure Pt where
  d : ByteArray
  pad : Int
  code : Int
  last : Int
  weight : Int
  only : Bool
  more : Int
abbrev ptL (p : Pt) (st : Value) : List Value := partsL p.d p.pad p.code p.last p.weight p.only p.more st
abbrev ptV (p : Pt) (st : Value) : Value := .agg ⟨ptL p st⟩
abbrev slo (b o n c : Nat) : Value := .slice (some ⟨b, o, none⟩) n c
theorem mNN (p q : Pt) (R : RFun) (Q : Value → AHeap → Prop) :
   startA frB mHint 30 20 17 0 80 [] R mB ([ptV p nl, ptV q nl] ++ List.replicate 78 undef) AHeap.empty (endGK frB [.tmp 4] 0 [[]] Q)
   = (ifK (!seq p.1 q.1) (Q (Value.bool false) { size := 0, tr := Tr.nil }) (ifK (!decide (p.2 = q.2)) (Q (Value.bool false) { size := 0, tr := Tr.nil }) (ifK (!decide (p.3 = q.3)) (Q (Value.bool false) { size := 0, tr := Tr.nil }) (ifK (!decide (p.4 = q.4)) (Q (Value.bool false) { size := 0, tr := Tr.nil }) (ifK (!decide (p.5 = q.5)) (Q (Value.bool false) { size := 0, tr := Tr.nil }) (ifK p.6 (ifK q.6 (ifK (!decide (p.7 = q.7)) (Q (Value.bool false) { size := 0, tr := Tr.nil }) (Q (Value.bool true) { size := 0, tr := Tr.nil })) (Q (Value.bool false) { size := 0, tr := Tr.nil })) (ifK q.6 (Q (Value.bool false) { size := 0, tr := Tr.nil }) (ifK (!decide (p.7 = q.7)) (Q (Value.bool false) { size := 0, tr := Tr.nil }) (Q (Value.bool true) { size := 0, tr := Tr.nil }))))))))) := by kernel_rfl
theorem mNB (p q : Pt) (n c : Nat) (L : List Value) (T : ET) (R : RFun) (Q : Value → AHeap → Prop) :
   startA frB mHint 30 20 17 1 80 [] R mB ([ptV p nl, ptV q (slo 0 0 n c)] ++ List.replicate 78 undef) (roH1 L T) (endGK frB [.tmp 4] 1 [[]] Q)
   = (ifK (!seq p.1 q.1) (Q (Value.bool false) { size := 1, tr := Tr.node (some (AObj.cells (List.map (renV [0]) L) T St.ro [])) Tr.nil Tr.nil }) (ifK (!decide (p.2 = q.2)) (Q (Value.bool false) { size := 1, tr := Tr.node (some (AObj.cells (List.map (renV [0]) L) T St.ro [])) Tr.nil Tr.nil }) (ifK (!decide (p.3 = q.3)) (Q (Value.bool false) { size := 1, tr := Tr.node (some (AObj.cells (List.map (renV [0]) L) T St.ro [])) Tr.nil Tr.nil }) (ifK (!decide (p.4 = q.4)) (Q (Value.bool false) { size := 1, tr := Tr.node (some (AObj.cells (List.map (renV [0]) L) T St.ro [])) Tr.nil Tr.nil }) (ifK (!decide (p.5 = q.5)) (Q (Value.bool false) { size := 1, tr := Tr.node (some (AObj.cells (List.map (renV [0]) L) T St.ro [])) Tr.nil Tr.nil }) (ifK p.6 (ifK q.6 (ifK (!decide (p.7 = q.7)) (Q (Value.bool false) { size := 1, tr := Tr.node (some (AObj.cells (List.map (renV [0]) L) T St.ro [])) Tr.nil Tr.nil }) (ifK (!decide ((↑0 : Int) = (↑n : Int))) (Q (Value.bool false) { size := 1, tr := Tr.node (some (AObj.cells (List.map (renV [0]) L) T St.ro [])) Tr.nil Tr.nil }) (Q (Value.bool true) { size := 1, tr := Tr.node (some (AObj.cells (List.map (renV [0]) L) T St.ro [])) Tr.nil Tr.nil }))) (Q (Value.bool false) { size := 1, tr := Tr.node (some (AObj.cells (List.map (renV [0]) L) T St.ro [])) Tr.nil Tr.nil })) (ifK q.6 (Q (Value.bool false) { size := 1, tr := Tr.node (some (AObj.cells (List.map (renV [0]) L) T St.ro [])) Tr.nil Tr.nil }) (ifK (!decide (p.7 = q.7)) (Q (Value.bool false) { size := 1, tr := Tr.node (some (AObj.cells (List.map (renV [0]) L) T St.ro [])) Tr.nil Tr.nil }) (ifK (!decide ((↑0 : Int) = (↑n : Int))) (Q (Value.bool false) { size := 1, tr := Tr.node (some (AObj.cells (List.map (renV [0]) L) T St.ro [])) Tr.nil Tr.nil }) (Q (Value.bool true) { size := 1, tr := Tr.node (some (AObj.cells (List.map (renV [0]) L) T St.ro [])) Tr.nil Tr.nil })))))))))) := by kernel_rfl
theorem mBN (p q : Pt) (n c : Nat) (L : List Value) (T : ET) (R : RFun) (Q : Value → AHeap → Prop) :
   startA frB mHint 30 20 17 1 80 [] R mB ([ptV p (slo 0 0 n c), ptV q nl] ++ List.replicate 78 undef) (roH1 L T) (endGK frB [.tmp 4] 1 [[]] Q)
   = (ifK (!seq p.1 q.1) (Q (Value.bool false) { size := 1, tr := Tr.node (some (AObj.cells (List.map (renV [0]) L) T St.ro [])) Tr.nil Tr.nil }) (ifK (!decide (p.2 = q.2)) (Q (Value.bool false) { size := 1, tr := Tr.node (some (AObj.cells (List.map (renV [0]) L) T St.ro [])) Tr.nil Tr.nil }) (ifK (!decide (p.3 = q.3)) (Q (Value.bool false) { size := 1, tr := Tr.node (some (AObj.cells (List.map (renV [0]) L) T St.ro [])) Tr.nil Tr.nil }) (ifK (!decide (p.4 = q.4)) (Q (Value.bool false) { size := 1, tr := Tr.node (some (AObj.cells (List.map (renV [0]) L) T St.ro [])) Tr.nil Tr.nil }) (ifK (!decide (p.5 = q.5)) (Q (Value.bool false) { size := 1, tr := Tr.node (some (AObj.cells (List.map (renV [0]) L) T St.ro [])) Tr.nil Tr.nil }) (ifK p.6 (ifK q.6 (ifK (!decide (p.7 = q.7)) (Q (Value.bool false) { size := 1, tr := Tr.node (some (AObj.cells (List.map (renV [0]) L) T St.ro [])) Tr.nil Tr.nil }) (ifK (!decide ((↑n : Int) = (↑0 : Int))) (Q (Value.bool false) { size := 1, tr := Tr.node (some (AObj.cells (List.map (renV [0]) L) T St.ro [])) Tr.nil Tr.nil }) (ifK (decide ((0 : Int) < (↑n : Int))) (ifK (decide ((0 : Int) ≤ (0 : Int) ∧ (0 : Int) < (↑n : Int))) (∃ n_1 n_2, LoadIs frB 39 (Value.pointer (some { block := 0, off := 0 })) { size := 3, tr := Tr.node (some (AObj.cells L T St.ro [])) (Tr.node (some (AObj.cells [Value.string p.1, Value.int IntKind.i64 p.2, Value.int IntKind.i64 p.3, Value.int IntKind.i64 p.4, Value.int IntKind.i64 p.5, Value.bool p.6, Value.int IntKind.i64 p.7, Value.slice (some { block := 0, off := 0 }) n c] (⟨0, none, true⟩ : ET) St.live [])) Tr.nil Tr.nil) (Tr.node (some (AObj.cells [Value.string q.1, Value.int IntKind.i64 q.2, Value.int IntKind.i64 q.3, Value.int IntKind.i64 q.4, Value.int IntKind.i64 q.5, Value.bool q.6, Value.int IntKind.i64 q.7, Value.slice none 0 0] (⟨0, none, true⟩ : ET) St.live [])) Tr.nil Tr.nil) } (Value.agg { toList := [Value.int IntKind.i64 n_1, Value.int IntKind.i64 n_2] }) ∧ False) False) (Q (Value.bool true) { size := 1, tr := Tr.node (some (AObj.cells (List.map (renV [0]) L) T St.ro [])) Tr.nil Tr.nil })))) (Q (Value.bool false) { size := 1, tr := Tr.node (some (AObj.cells (List.map (renV [0]) L) T St.ro [])) Tr.nil Tr.nil })) (ifK q.6 (Q (Value.bool false) { size := 1, tr := Tr.node (some (AObj.cells (List.map (renV [0]) L) T St.ro [])) Tr.nil Tr.nil }) (ifK (!decide (p.7 = q.7)) (Q (Value.bool false) { size := 1, tr := Tr.node (some (AObj.cells (List.map (renV [0]) L) T St.ro [])) Tr.nil Tr.nil }) (ifK (!decide ((↑n : Int) = (↑0 : Int))) (Q (Value.bool false) { size := 1, tr := Tr.node (some (AObj.cells (List.map (renV [0]) L) T St.ro [])) Tr.nil Tr.nil }) (ifK (decide ((0 : Int) < (↑n : Int))) (ifK (decide ((0 : Int) ≤ (0 : Int) ∧ (0 : Int) < (↑n : Int))) (∃ n_1 n_2, LoadIs frB 39 (Value.pointer (some { block := 0, off := 0 })) { size := 3, tr := Tr.node (some (AObj.cells L T St.ro [])) (Tr.node (some (AObj.cells [Value.string p.1, Value.int IntKind.i64 p.2, Value.int IntKind.i64 p.3, Value.int IntKind.i64 p.4, Value.int IntKind.i64 p.5, Value.bool p.6, Value.int IntKind.i64 p.7, Value.slice (some { block := 0, off := 0 }) n c] (⟨0, none, true⟩ : ET) St.live [])) Tr.nil Tr.nil) (Tr.node (some (AObj.cells [Value.string q.1, Value.int IntKind.i64 q.2, Value.int IntKind.i64 q.3, Value.int IntKind.i64 q.4, Value.int IntKind.i64 q.5, Value.bool q.6, Value.int IntKind.i64 q.7, Value.slice none 0 0] (⟨0, none, true⟩ : ET) St.live [])) Tr.nil Tr.nil) } (Value.agg { toList := [Value.int IntKind.i64 n_1, Value.int IntKind.i64 n_2] }) ∧ False) False) (Q (Value.bool true) { size := 1, tr := Tr.node (some (AObj.cells (List.map (renV [0]) L) T St.ro [])) Tr.nil Tr.nil }))))))))))) := by kernel_rfl
theorem mBB (p q : Pt) (n c n' c' : Nat) (L M : List Value) (T U : ET) (R : RFun) (Q : Value → AHeap → Prop) :
   startA frB mHint 30 20 17 2 80 mCuts R mB ([ptV p (slo 0 0 n c), ptV q (slo 1 0 n' c')] ++ List.replicate 78 undef) (roH2 L T M U) (endGK frB [.tmp 4] 2 [[]] Q)
   = (ifK (!seq p.1 q.1) (Q (Value.bool false) { size := 2, tr := Tr.node (some (AObj.cells (List.map (renV [0, 1]) L) T St.ro [])) (Tr.node (some (AObj.cells (List.map (renV [0, 1]) M) U St.ro [])) Tr.nil Tr.nil) Tr.nil }) (ifK (!decide (p.2 = q.2)) (Q (Value.bool false) { size := 2, tr := Tr.node (some (AObj.cells (List.map (renV [0, 1]) L) T St.ro [])) (Tr.node (some (AObj.cells (List.map (renV [0, 1]) M) U St.ro [])) Tr.nil Tr.nil) Tr.nil }) (ifK (!decide (p.3 = q.3)) (Q (Value.bool false) { size := 2, tr := Tr.node (some (AObj.cells (List.map (renV [0, 1]) L) T St.ro [])) (Tr.node (some (AObj.cells (List.map (renV [0, 1]) M) U St.ro [])) Tr.nil Tr.nil) Tr.nil }) (ifK (!decide (p.4 = q.4)) (Q (Value.bool false) { size := 2, tr := Tr.node (some (AObj.cells (List.map (renV [0, 1]) L) T St.ro [])) (Tr.node (some (AObj.cells (List.map (renV [0, 1]) M) U St.ro [])) Tr.nil Tr.nil) Tr.nil }) (ifK (!decide (p.5 = q.5)) (Q (Value.bool false) { size := 2, tr := Tr.node (some (AObj.cells (List.map (renV [0, 1]) L) T St.ro [])) (Tr.node (some (AObj.cells (List.map (renV [0, 1]) M) U St.ro [])) Tr.nil Tr.nil) Tr.nil }) (ifK p.6 (ifK q.6 (ifK (!decide (p.7 = q.7)) (Q (Value.bool false) { size := 2, tr := Tr.node (some (AObj.cells (List.map (renV [0, 1]) L) T St.ro [])) (Tr.node (some (AObj.cells (List.map (renV [0, 1]) M) U St.ro [])) Tr.nil Tr.nil) Tr.nil }) (ifK (!decide ((↑n : Int) = (↑n' : Int))) (Q (Value.bool false) { size := 2, tr := Tr.node (some (AObj.cells (List.map (renV [0, 1]) L) T St.ro [])) (Tr.node (some (AObj.cells (List.map (renV [0, 1]) M) U St.ro [])) Tr.nil Tr.nil) Tr.nil }) (R 0 none [] [Value.pointer (some { block := 2, off := 0 }), Value.pointer (some { block := 3, off := 0 }), Value.int IntKind.i64 (0 : Int)] { size := 4, tr := Tr.node (some (AObj.cells (List.map (renV [0, 1, 2, 3]) L) T St.ro [])) (Tr.node (some (AObj.cells (List.map (renV [0, 1, 2, 3]) M) U St.ro [])) (Tr.node (some (AObj.cells [Value.string q.1, Value.int IntKind.i64 q.2, Value.int IntKind.i64 q.3, Value.int IntKind.i64 q.4, Value.int IntKind.i64 q.5, Value.bool q.6, Value.int IntKind.i64 q.7, Value.slice (some { block := 1, off := 0 }) n' c'] (⟨0, none, true⟩ : ET) St.live [])) Tr.nil Tr.nil) Tr.nil) (Tr.node (some (AObj.cells [Value.string p.1, Value.int IntKind.i64 p.2, Value.int IntKind.i64 p.3, Value.int IntKind.i64 p.4, Value.int IntKind.i64 p.5, Value.bool p.6, Value.int IntKind.i64 p.7, Value.slice (some { block := 0, off := 0 }) n c] (⟨0, none, true⟩ : ET) St.live [])) Tr.nil Tr.nil) }))) (Q (Value.bool false) { size := 2, tr := Tr.node (some (AObj.cells (List.map (renV [0, 1]) L) T St.ro [])) (Tr.node (some (AObj.cells (List.map (renV [0, 1]) M) U St.ro [])) Tr.nil Tr.nil) Tr.nil })) (ifK q.6 (Q (Value.bool false) { size := 2, tr := Tr.node (some (AObj.cells (List.map (renV [0, 1]) L) T St.ro [])) (Tr.node (some (AObj.cells (List.map (renV [0, 1]) M) U St.ro [])) Tr.nil Tr.nil) Tr.nil }) (ifK (!decide (p.7 = q.7)) (Q (Value.bool false) { size := 2, tr := Tr.node (some (AObj.cells (List.map (renV [0, 1]) L) T St.ro [])) (Tr.node (some (AObj.cells (List.map (renV [0, 1]) M) U St.ro [])) Tr.nil Tr.nil) Tr.nil }) (ifK (!decide ((↑n : Int) = (↑n' : Int))) (Q (Value.bool false) { size := 2, tr := Tr.node (some (AObj.cells (List.map (renV [0, 1]) L) T St.ro [])) (Tr.node (some (AObj.cells (List.map (renV [0, 1]) M) U St.ro [])) Tr.nil Tr.nil) Tr.nil }) (R 0 none [] [Value.pointer (some { block := 2, off := 0 }), Value.pointer (some { block := 3, off := 0 }), Value.int IntKind.i64 (0 : Int)] { size := 4, tr := Tr.node (some (AObj.cells (List.map (renV [0, 1, 2, 3]) L) T St.ro [])) (Tr.node (some (AObj.cells (List.map (renV [0, 1, 2, 3]) M) U St.ro [])) (Tr.node (some (AObj.cells [Value.string q.1, Value.int IntKind.i64 q.2, Value.int IntKind.i64 q.3, Value.int IntKind.i64 q.4, Value.int IntKind.i64 q.5, Value.bool q.6, Value.int IntKind.i64 q.7, Value.slice (some { block := 1, off := 0 }) n' c'] (⟨0, none, true⟩ : ET) St.live [])) Tr.nil Tr.nil) Tr.nil) (Tr.node (some (AObj.cells [Value.string p.1, Value.int IntKind.i64 p.2, Value.int IntKind.i64 p.3, Value.int IntKind.i64 p.4, Value.int IntKind.i64 p.5, Value.bool p.6, Value.int IntKind.i64 p.7, Value.slice (some { block := 0, off := 0 }) n c] (⟨0, none, true⟩ : ET) St.live [])) Tr.nil Tr.nil) })))))))))) := by kernel_rfl
def mH (p q : Pt) (n c n' c' : Nat) (L M : List Value) (T U : ET) : AHeap := { size := 4, tr := .node (some (rowA L T)) (.node (some (rowA M U)) (.node (some (.cells (ptL q (slo 1 0 n' c')) ⟨0, none, true⟩ .live [])) .nil .nil) .nil) (.node (some (.cells (ptL p (slo 0 0 n c)) ⟨0, none, true⟩ .live [])) .nil .nil) }
theorem mS (p q : Pt) (n c n' c' m : Nat) (i : Int) (L M : List Value) (T U : ET) (R : RFun) (Q : Value → AHeap → Prop) :
   segA frB mHint 30 20 17 2 80 mCuts R mB mP [] m [2,3,5] [pt 2, pt 3, vi i] (mH p q n c n' c' L M T U) (endGK frB [.tmp 4] 2 [[]] Q)
   = (ifK (decide (i < (↑n : Int))) (ifK (decide ((0 : Int) ≤ i ∧ i < (↑n : Int))) (∃ n_1 n_2, LoadIs frB 39 (Value.pointer (some { block := 0, off := 0 + Int.toNat i * 2 })) { size := 4, tr := Tr.node (some (AObj.cells L T St.ro [])) (Tr.node (some (AObj.cells M U St.ro [])) (Tr.node (some (AObj.cells [Value.string q.1, Value.int IntKind.i64 q.2, Value.int IntKind.i64 q.3, Value.int IntKind.i64 q.4, Value.int IntKind.i64 q.5, Value.bool q.6, Value.int IntKind.i64 q.7, Value.slice (some { block := 1, off := 0 }) n' c'] (⟨0, none, true⟩ : ET) St.live [])) Tr.nil Tr.nil) Tr.nil) (Tr.node (some (AObj.cells [Value.string p.1, Value.int IntKind.i64 p.2, Value.int IntKind.i64 p.3, Value.int IntKind.i64 p.4, Value.int IntKind.i64 p.5, Value.bool p.6, Value.int IntKind.i64 p.7, Value.slice (some { block := 0, off := 0 }) n c] (⟨0, none, true⟩ : ET) St.live [])) Tr.nil Tr.nil) } (Value.agg { toList := [Value.int IntKind.i64 n_1, Value.int IntKind.i64 n_2] }) ∧ ifK (decide ((0 : Int) ≤ i ∧ i < (↑n' : Int))) (∃ n_3 n_4, LoadIs frB 39 (Value.pointer (some { block := 1, off := 0 + Int.toNat i * 2 })) { size := 4, tr := Tr.node (some (AObj.cells L T St.ro [])) (Tr.node (some (AObj.cells M U St.ro [])) (Tr.node (some (AObj.cells [Value.string q.1, Value.int IntKind.i64 q.2, Value.int IntKind.i64 q.3, Value.int IntKind.i64 q.4, Value.int IntKind.i64 q.5, Value.bool q.6, Value.int IntKind.i64 q.7, Value.slice (some { block := 1, off := 0 }) n' c'] (⟨0, none, true⟩ : ET) St.live [])) Tr.nil Tr.nil) Tr.nil) (Tr.node (some (AObj.cells [Value.string p.1, Value.int IntKind.i64 p.2, Value.int IntKind.i64 p.3, Value.int IntKind.i64 p.4, Value.int IntKind.i64 p.5, Value.bool p.6, Value.int IntKind.i64 p.7, Value.slice (some { block := 0, off := 0 }) n c] (⟨0, none, true⟩ : ET) St.live [])) Tr.nil Tr.nil) } (Value.agg { toList := [Value.int IntKind.i64 n_3, Value.int IntKind.i64 n_4] }) ∧ ifK (!(decide (n_1 = n_3) && (decide (n_2 = n_4) && true))) (Q (Value.bool false) { size := 2, tr := Tr.node (some (AObj.cells (List.map (renV [0, 1]) L) T St.ro [])) (Tr.node (some (AObj.cells (List.map (renV [0, 1]) M) U St.ro [])) Tr.nil Tr.nil) Tr.nil }) (R 0 (some m) [] [Value.pointer (some { block := 2, off := 0 }), Value.pointer (some { block := 3, off := 0 }), Value.int IntKind.i64 (IntKind.wrap IntKind.i64 (i + (1 : Int)))] { size := 4, tr := Tr.node (some (AObj.cells (List.map (renV [0, 1, 2, 3]) L) T St.ro [])) (Tr.node (some (AObj.cells (List.map (renV [0, 1, 2, 3]) M) U St.ro [])) (Tr.node (some (AObj.cells [Value.string q.1, Value.int IntKind.i64 q.2, Value.int IntKind.i64 q.3, Value.int IntKind.i64 q.4, Value.int IntKind.i64 q.5, Value.bool q.6, Value.int IntKind.i64 q.7, Value.slice (some { block := 1, off := 0 }) n' c'] (⟨0, none, true⟩ : ET) St.live [])) Tr.nil Tr.nil) Tr.nil) (Tr.node (some (AObj.cells [Value.string p.1, Value.int IntKind.i64 p.2, Value.int IntKind.i64 p.3, Value.int IntKind.i64 p.4, Value.int IntKind.i64 p.5, Value.bool p.6, Value.int IntKind.i64 p.7, Value.slice (some { block := 0, off := 0 }) n c] (⟨0, none, true⟩ : ET) St.live [])) Tr.nil Tr.nil) })) False) False) (Q (Value.bool true) { size := 2, tr := Tr.node (some (AObj.cells (List.map (renV [0, 1]) L) T St.ro [])) (Tr.node (some (AObj.cells (List.map (renV [0, 1]) M) U St.ro [])) Tr.nil Tr.nil) Tr.nil })) := by kernel_rfl
end Go.Ev

/- Same: its summary. -/
namespace Go.Ev
open Go Go.Proofs Go.RowKit
set_option linter.unusedVariables false
set_option maxRecDepth 100000
set_option maxHeartbeats 4000000
def allI64 : List Value → Bool
  | [] => true
  | .int .i64 _ :: l => allI64 l
  | _ => false
def intsOf : List Value → List Int
  | .int .i64 n :: l => n :: intsOf l
  | _ => []
theorem ints_eq : ∀ {L : List Value}, allI64 L = true → L = (intsOf L).map vi := by
  intro L
  induction L with
  | nil => intro _; rfl
  | cons v L ih =>
    intro h
    unfold allI64 at h
    split at h
    · rename_i e; cases e
    · rename_i e; cases e; unfold intsOf; rw [List.map_cons, ← ih h]
    · cases h
theorem vi_ren (d : List Nat) (xs : List Int) : (xs.map vi).map (renV d) = xs.map vi := by rw [List.map_map]; rfl
def ptEq (p q : Pt) : Bool := seq p.d q.d && (decide (p.pad = q.pad) && (decide (p.code = q.code) && (decide (p.last = q.last) && (decide (p.weight = q.weight) && (p.only == q.only && decide (p.more = q.more))))))
def sameSpec : List Value → AHeap → SpR
  | [.agg ⟨[.string d, .int .i64 pad, .int .i64 code, .int .i64 last, .int .i64 weight, .bool only, .int .i64 more, st]⟩, .agg ⟨[.string d', .int .i64 pad', .int .i64 code', .int .i64 last', .int .i64 weight', .bool only', .int .i64 more', st']⟩], HL =>
    match HL.size, st, st' with
    | 0, .slice none 0 0, .slice none 0 0 => .ret true (.bool (ptEq ⟨d, pad, code, last, weight, only, more⟩ ⟨d', pad', code', last', weight', only', more'⟩)) []
    | 1, .slice none 0 0, .slice (some ⟨0, 0, none⟩) n c => match HL.get 0 with | some (.cells L T .ro []) => .ret (allI64 L) (.bool (ptEq ⟨d, pad, code, last, weight, only, more⟩ ⟨d', pad', code', last', weight', only', more'⟩ && decide (n = 0))) [] | _ => .fail
    | 1, .slice (some ⟨0, 0, none⟩) n c, .slice none 0 0 => match HL.get 0 with | some (.cells L T .ro []) => .ret (allI64 L) (.bool (ptEq ⟨d, pad, code, last, weight, only, more⟩ ⟨d', pad', code', last', weight', only', more'⟩ && decide (n = 0))) [] | _ => .fail
    | 2, .slice (some ⟨0, 0, none⟩) n c, .slice (some ⟨1, 0, none⟩) n' c' =>
      match HL.get 0, HL.get 1 with
      | some (.cells L T .ro []), some (.cells M U .ro []) => .ret (allI64 L && (allI64 M && (decide (n * 2 ≤ L.length) && (decide (n' * 2 ≤ M.length) && decide (n ≤ 4611686018427387904)))))
          (.bool (ptEq ⟨d, pad, code, last, weight, only, more⟩ ⟨d', pad', code', last', weight', only', more'⟩ && (decide (n = n') && decide ((intsOf L).take (n * 2) = (intsOf M).take (n * 2))))) []
      | _, _ => .fail
    | _, _, _ => .fail
  | _, _ => .fail
def sameFoot : List Value → AHeap → Option (List Nat)
  | [.agg ⟨[_, _, _, _, _, _, _, st]⟩, .agg ⟨[_, _, _, _, _, _, _, st']⟩], _ =>
    match idV st, idV st' with
    | none, none => some []
    | some b, none => some [b]
    | none, some b => some [b]
    | some a, some b => some [a, b]
  | _, _ => none

theorem agr0 (H : AHeap) : roH (agc [] H) = AHeap.empty := rfl
theorem agr1 (H : AHeap) (a : Nat) : roH (agc [a] H) = { size := 1, tr := .node (some (roO (match H.get a with | some o => renO [a] o | none => .dead))) .nil .nil } := rfl
theorem agr2 (H : AHeap) (a b : Nat) : roH (agc [a, b] H) = { size := 2, tr := .node (some (roO (match H.get a with | some o => renO [a, b] o | none => .dead))) (.node (some (roO (match H.get b with | some o => renO [a, b] o | none => .dead))) .nil .nil) .nil } := by kernel_rfl

theorem body17 : Try.f17.body = some (bodyOf Try.prog 17) := by kernel_rfl
theorem nt17 : Try.f17.ntmps = 80 := by kernel_rfl
theorem rs17 : Try.f17.results.toList = [.tmp 4] := by kernel_rfl
theorem dr17 : allDraw (frB.ok 17) (bodyOf Try.prog 17) = true := by kernel_rfl
theorem lo17 : loopsOn mP mB = 0 := by kernel_rfl
theorem fbAgg39 : (frB.ty 39).map (fun i => (isAggD i.desc, i.size)) = some (true, 2) := by kernel_rfl

abbrev QB (HL : AHeap) (b : Bool) (v : Value) (H : AHeap) : Prop := v = .bool b ∧ H = HL
/-- The tests of the plain fields. -/
theorem ptEq_and (p q : Pt) (b : Bool) : (ptEq p q && b) = (seq p.d q.d && (decide (p.pad = q.pad) && (decide (p.code = q.code) && (decide (p.last = q.last) && (decide (p.weight = q.weight) && ((p.only == q.only) && (decide (p.more = q.more) && b))))))) := by
  unfold ptEq; simp only [Bool.and_assoc]
theorem pair_get (xs : List Int) (i : Nat) (h : i * 2 + 2 ≤ xs.length) : ∃ a b, xs[i * 2]? = some a ∧ xs[i * 2 + 1]? = some b ∧ ((xs.map vi).drop (i * 2)).take 2 = [vi a, vi b] := by
  refine ⟨_, _, List.getElem?_eq_getElem (by omega), List.getElem?_eq_getElem (by omega), ?_⟩
  rw [← List.map_drop, ← List.map_take]
  apply List.ext_getElem?
  intro j
  by_cases hj : j < 2
  · rw [List.getElem?_map, List.getElem?_take_of_lt hj, List.getElem?_drop]
    obtain rfl | rfl : j = 0 ∨ j = 1 := by omega
    · rw [List.getElem?_eq_getElem (by omega)]; rfl
    · rw [List.getElem?_eq_getElem (by omega)]; rfl
  · rw [List.getElem?_eq_none (by simp; omega), List.getElem?_eq_none (by simp; omega)]
theorem take_pair (xs : List Int) (i : Nat) {a b : Int} (h1 : xs[i * 2]? = some a) (h2 : xs[i * 2 + 1]? = some b) : xs.take ((i + 1) * 2) = xs.take (i * 2) ++ [a, b] := by
  have e : (i + 1) * 2 = i * 2 + 1 + 1 := by omega
  rw [e, List.take_add_one, List.take_add_one, h1, h2]
  simp
def mI (xs ys : List Int) (p q : Pt) (n c n' c' : Nat) (T U : ET) (id : Nat) (μ : List Nat) (m : Nat) (vs : List Value) (H : AHeap) : Prop :=
  match id with
  | 0 => ∃ i : Nat, vs = [pt 2, pt 3, vi i] ∧ H = mH p q n c n' c' (xs.map vi) (ys.map vi) T U ∧ i ≤ n ∧ n = n' ∧ ptEq p q = true ∧ xs.take (i * 2) = ys.take (i * 2) ∧ m = n - i
  | _ => False
theorem mSeg {xs ys : List Int} {p q : Pt} {n c n' c' : Nat} {T U : ET} (hx : n * 2 ≤ xs.length) (hy : n' * 2 ≤ ys.length) (hn : n ≤ 4611686018427387904) (m : Nat) (vs : List Value) (H : AHeap) (hI : mI xs ys p q n c n' c' T U 0 [] m vs H) :
    Hd (segA frB mHint 30 20 17 2 80 mCuts (ofI (mI xs ys p q n c n' c' T U)) mB mP [] m [2,3,5] vs H (endGK frB [.tmp 4] 2 [[]] (QB (roH2 (xs.map vi) T (ys.map vi) U) (ptEq p q && (decide (n = n') && decide (xs.take (n * 2) = ys.take (n * 2))))))) := by
  obtain ⟨i, rfl, rfl, hi, rfl, hpq, ht, rfl⟩ := hI
  constructor
  rw [mS]
  refine ifK_dec (fun h => ?_) (fun h => ?_)
  · obtain ⟨a, b, a1, a2, a3⟩ := pair_get xs i (by omega)
    obtain ⟨a', b', b1, b2, b3⟩ := pair_get ys i (by omega)
    refine ifK_dec (fun _ => ?_) (fun h' => absurd ⟨by omega, h⟩ h')
    have hl1 : 0 + Int.toNat (i : Int) * 2 = i * 2 := by rw [Int.toNat_natCast]; omega
    rw [hl1]
    refine ⟨a, b, ⟨by rw [aload_agg fbAgg39 rfl (by rw [List.length_map]; omega), a3]⟩, ?_⟩
    refine ifK_dec (fun _ => ?_) (fun h' => absurd ⟨by omega, h⟩ h')
    refine ⟨a', b', ⟨by rw [aload_agg fbAgg39 rfl (by rw [List.length_map]; omega), b3]⟩, ?_⟩
    by_cases hab : a = a' ∧ b = b'
    · obtain ⟨rfl, rfl⟩ := hab
      refine ifK_f (by simp) ?_
      have e : IntKind.wrap IntKind.i64 ((i : Int) + 1) = ((i + 1 : Nat) : Int) := by rw [wr_i64]; omega
      rw [e, vi_ren, vi_ren]
      exact ⟨n - (i + 1), by omega, i + 1, rfl, rfl, by omega, rfl, hpq, by rw [take_pair xs i a1 a2, take_pair ys i b1 b2, ht], rfl⟩
    · refine ifK_t (by simp; omega) ⟨?_, ?_⟩
      · have hne : xs.take (n * 2) ≠ ys.take (n * 2) := by
          intro he
          have g1 : (xs.take (n * 2))[i * 2]? = some a := by rw [List.getElem?_take_of_lt (by omega), a1]
          have g2 : (xs.take (n * 2))[i * 2 + 1]? = some b := by rw [List.getElem?_take_of_lt (by omega), a2]
          rw [he, List.getElem?_take_of_lt (by omega)] at g1 g2
          rw [b1] at g1
          rw [b2] at g2
          injection g1 with g1
          injection g2 with g2
          exact hab ⟨g1.symm, g2.symm⟩
        rw [decide_eq_false hne]
        simp
      · rw [vi_ren, vi_ren]; rfl
  · have hin : i = n := by omega
    subst hin
    refine ⟨?_, ?_⟩
    · rw [hpq, ht]; simp
    · rw [vi_ren, vi_ren]; rfl
theorem ptTree {p q : Pt} {F T : Prop} (hF : ptEq p q = false → F) (hT : ptEq p q = true → T) :
    ifK (!seq p.1 q.1) F (ifK (!decide (p.2 = q.2)) F (ifK (!decide (p.3 = q.3)) F (ifK (!decide (p.4 = q.4)) F (ifK (!decide (p.5 = q.5)) F (ifK p.6 (ifK q.6 (ifK (!decide (p.7 = q.7)) F T) F) (ifK q.6 F (ifK (!decide (p.7 = q.7)) F T))))))) := by
  cases h1 : seq p.d q.d with
  | false => exact hF (by simp [ptEq, h1])
  | true =>
  refine ifK_f rfl ?_
  by_cases h2 : p.pad = q.pad
  case neg => exact ifK_t (by simp [h2]) (hF (by simp [ptEq, h2]))
  refine ifK_f (by simp [h2]) ?_
  by_cases h3 : p.code = q.code
  case neg => exact ifK_t (by simp [h3]) (hF (by simp [ptEq, h3]))
  refine ifK_f (by simp [h3]) ?_
  by_cases h4 : p.last = q.last
  case neg => exact ifK_t (by simp [h4]) (hF (by simp [ptEq, h4]))
  refine ifK_f (by simp [h4]) ?_
  by_cases h5 : p.weight = q.weight
  case neg => exact ifK_t (by simp [h5]) (hF (by simp [ptEq, h5]))
  refine ifK_f (by simp [h5]) ?_
  by_cases h7 : p.more = q.more
  · cases h6 : p.only with
    | true =>
      cases h8 : q.only with
      | true => exact ifK_t rfl (ifK_t rfl (ifK_f (by simp [h7]) (hT (by simp [ptEq, h1, h2, h3, h4, h5, h6, h7, h8]))))
      | false => exact ifK_t rfl (ifK_f rfl (hF (by simp [ptEq, h6, h8])))
    | false =>
      cases h8 : q.only with
      | true => exact ifK_f rfl (ifK_t rfl (hF (by simp [ptEq, h6, h8])))
      | false => exact ifK_f rfl (ifK_f rfl (ifK_f (by simp [h7]) (hT (by simp [ptEq, h1, h2, h3, h4, h5, h6, h7, h8]))))
  · have k := hF (by simp [ptEq, h7])
    cases h6 : p.only with
    | true =>
      cases h8 : q.only with
      | true => exact ifK_t rfl (ifK_t rfl (ifK_t (by simp [h7]) k))
      | false => exact ifK_t rfl (ifK_f rfl k)
    | false =>
      cases h8 : q.only with
      | true => exact ifK_f rfl (ifK_t rfl k)
      | false => exact ifK_f rfl (ifK_f rfl (ifK_t (by simp [h7]) k))
theorem same_ok : BSumOk frB.P 17 (roS sameFoot sameSpec) := by
  refine sumOk_ro Try.func17 (by kernel_rfl) (by decide) ?_
  rintro args HL v os ⟨H0, args0, d, hd, hargs, rfl⟩ hs ρ w cargs hR hno ha
  unfold sameSpec at hs
  split at hs
  case h_2 => cases hs
  rename_i s pad code last weight only more st s' pad' code' last' weight' only' more' st'
  have hsz : (roH (agc d H0)).size = d.length := agc_size d H0
  have ha' : LRel ρ [ptV ⟨s, pad, code, last, weight, only, more⟩ st, ptV ⟨s', pad', code', last', weight', only', more'⟩ st'] cargs.toList := ha
  generalize hp : (⟨s, pad, code, last, weight, only, more⟩ : Pt) = p at *
  generalize hq : (⟨s', pad', code', last', weight', only', more'⟩ : Pt) = q at *
  have done : ∀ (HL : AHeap) (b : Bool), some (true, Value.bool b, ([] : List AObj)) = some (true, v, os) → (Calls Try.prog 17 cargs w fun e w' => ∃ v' H', QB HL b v' H' ∧ Post ρ HL w v' H' e w') → Calls Try.prog 17 cargs w (Post ρ HL w v (pushes HL os)) := by
    intro HL b h1 h2
    cases h1
    refine h2.mono ?_
    rintro e w' ⟨v', H', ⟨rfl, rfl⟩, hp⟩
    exact hp
  split at hs
  · -- both nil
    rename_i hz
    have hd0 : d = [] := List.eq_nil_of_length_eq_zero (by omega)
    subst hd0
    refine done AHeap.empty _ hs (calls_cutsG fbT fbF fbS fbM mHint (f := 17) (k := 30) (n := 20) Try.func17 body17 nt17 rs17 dr17 (cuts := []) (I := fun _ _ _ _ _ => False) (rts := [[]]) hR ha' ⟨?_⟩ trivial)
    show startA frB mHint 30 20 17 0 80 [] _ mB ([ptV p nl, ptV q nl] ++ List.replicate 78 undef) AHeap.empty (endGK frB [.tmp 4] 0 [[]] _)
    rw [mNN]
    exact ptTree (fun h => ⟨by rw [h], rfl⟩) (fun h => ⟨by rw [h], rfl⟩)
  · rename_i n c hz
    split at hs
    case h_2 => cases hs
    rename_i L T hL
    obtain ⟨a, rfl⟩ : ∃ a, d = [a] := List.length_eq_one_iff.1 (by omega)
    simp only [SpR.get, Option.some.injEq, Prod.mk.injEq] at hs
    obtain ⟨hI, rfl, rfl⟩ := hs
    rw [agr1] at hL hR ⊢
    have hL' : roO (match H0.get a with | some o => renO [a] o | none => .dead) = rowA L T := by injection hL
    rw [hL'] at hR ⊢
    have hx := ints_eq hI
    refine done (roH1 L T) _ rfl (calls_cutsG fbT fbF fbS fbM mHint (f := 17) (k := 30) (n := 20) Try.func17 body17 nt17 rs17 dr17 (cuts := []) (I := fun _ _ _ _ _ => False) (rts := [[]]) hR ha' ⟨?_⟩ trivial)
    show startA frB mHint 30 20 17 1 80 [] _ mB ([ptV p nl, ptV q (slo 0 0 n c)] ++ List.replicate 78 undef) (roH1 L T) (endGK frB [.tmp 4] 1 [[]] _)
    rw [mNB]
    have hr : List.map (renV [0]) L = L := by rw [hx, vi_ren]
    rw [hr]
    refine ptTree (fun h => ⟨by rw [h]; rfl, rfl⟩) (fun h => ?_)
    rw [h]
    by_cases hn : n = 0
    · exact ifK_f (by simp [hn]) ⟨by simp [hn], rfl⟩
    · exact ifK_t (by simp; omega) ⟨by simp [hn], rfl⟩
  · rename_i n c hz
    split at hs
    case h_2 => cases hs
    rename_i L T hL
    obtain ⟨a, rfl⟩ : ∃ a, d = [a] := List.length_eq_one_iff.1 (by omega)
    simp only [SpR.get, Option.some.injEq, Prod.mk.injEq] at hs
    obtain ⟨hI, rfl, rfl⟩ := hs
    rw [agr1] at hL hR ⊢
    have hL' : roO (match H0.get a with | some o => renO [a] o | none => .dead) = rowA L T := by injection hL
    rw [hL'] at hR ⊢
    have hx := ints_eq hI
    refine done (roH1 L T) _ rfl (calls_cutsG fbT fbF fbS fbM mHint (f := 17) (k := 30) (n := 20) Try.func17 body17 nt17 rs17 dr17 (cuts := []) (I := fun _ _ _ _ _ => False) (rts := [[]]) hR ha' ⟨?_⟩ trivial)
    show startA frB mHint 30 20 17 1 80 [] _ mB ([ptV p (slo 0 0 n c), ptV q nl] ++ List.replicate 78 undef) (roH1 L T) (endGK frB [.tmp 4] 1 [[]] _)
    rw [mBN]
    have hr : List.map (renV [0]) L = L := by rw [hx, vi_ren]
    rw [hr]
    refine ptTree (fun h => ⟨by rw [h]; rfl, rfl⟩) (fun h => ?_)
    rw [h]
    by_cases hn : n = 0
    · exact ifK_f (by simp [hn]) (ifK_f (by simp [hn]) ⟨by simp [hn], rfl⟩)
    · exact ifK_t (by simp; omega) ⟨by simp [hn], rfl⟩
  · rename_i n c n' c' hz
    split at hs
    case h_2 => cases hs
    rename_i L T M U hL hM
    obtain ⟨a, b, rfl⟩ : ∃ a b, d = [a, b] := by
      match d, hz.symm.trans hsz with
      | [a, b], _ => exact ⟨a, b, rfl⟩
    simp only [SpR.get, Option.some.injEq, Prod.mk.injEq, Bool.and_eq_true, decide_eq_true_eq] at hs
    obtain ⟨⟨hI, hJ, hn1, hn2, hn3⟩, rfl, rfl⟩ := hs
    rw [agr2] at hL hM hR ⊢
    have hL' : roO (match H0.get a with | some o => renO [a, b] o | none => .dead) = rowA L T := by injection hL
    have hM' : roO (match H0.get b with | some o => renO [a, b] o | none => .dead) = rowA M U := by injection hM
    rw [hL', hM'] at hR ⊢
    have hx := ints_eq hI
    have hy := ints_eq hJ
    generalize hxs : intsOf L = xs at *
    generalize hys : intsOf M = ys at *
    subst hx hy
    rw [List.length_map] at hn1 hn2
    refine done (roH2 (xs.map vi) T (ys.map vi) U) (ptEq p q && (decide (n = n') && decide (xs.take (n * 2) = ys.take (n * 2)))) rfl (calls_cutsG fbT fbF fbS fbM mHint (f := 17) (k := 30) (n := 20) Try.func17 body17 nt17 rs17 dr17 (cuts := mCuts) (I := mI xs ys p q n c n' c' T U) (rts := [[]]) hR ha' ⟨?_⟩ ⟨⟨?_, trivial⟩, trivial⟩)
    · show startA frB mHint 30 20 17 2 80 mCuts _ mB ([ptV p (slo 0 0 n c), ptV q (slo 1 0 n' c')] ++ List.replicate 78 undef) (roH2 (xs.map vi) T (ys.map vi) U) (endGK frB [.tmp 4] 2 [[]] _)
      rw [mBB]
      simp only [vi_ren]
      refine ptTree (fun h => ⟨by rw [h]; rfl, rfl⟩) (fun h => ?_)
      by_cases hn : n = n'
      · refine ifK_f (by simp [hn]) ?_
        exact ⟨n, trivial, 0, rfl, rfl, by omega, hn, h, by simp, by omega⟩
      · exact ifK_t (by simp; omega) ⟨by simp [hn, h], rfl⟩
    · intro ms hms m vs H hi
      obtain rfl := List.eq_nil_of_length_eq_zero (hms.trans lo17)
      exact mSeg hn1 hn2 hn3 m vs H hi
  · cases hs
end Go.Ev

/- FrP0. -/
namespace Go.Ev
open Go Go.Proofs Go.RowKit
set_option linter.unusedVariables false
set_option maxRecDepth 100000
set_option maxHeartbeats 4000000
theorem resWh (k : Int) (K : Value → Prop) :
   evalK frB (fun _ _ => none) 30 26 [vi k] AHeap.empty (fun v _ => K v)
   = (ifK (decide (k = (0 : Int))) (K (Value.tuple { toList := [Value.bool true, Value.bool true] })) (ifK (decide (k = (1 : Int))) (K (Value.tuple { toList := [Value.bool true, Value.bool true] })) (ifK (decide (k = (2 : Int))) (K (Value.tuple { toList := [Value.bool true, Value.bool true] })) (ifK (decide (k = (3 : Int))) (K (Value.tuple { toList := [Value.bool true, Value.bool true] })) (ifK (decide (k = (9 : Int))) (K (Value.tuple { toList := [Value.bool true, Value.bool true] })) (ifK (decide (k = (4 : Int))) (K (Value.tuple { toList := [Value.bool false, Value.bool true] })) (ifK (decide (k = (6 : Int))) (K (Value.tuple { toList := [Value.bool false, Value.bool true] })) (ifK (decide (k = (7 : Int))) (K (Value.tuple { toList := [Value.bool false, Value.bool true] })) (ifK (decide (k = (16 : Int))) (K (Value.tuple { toList := [Value.bool false, Value.bool true] })) (K (Value.tuple { toList := [Value.bool false, Value.bool false] }))))))))))) := by kernel_rfl
theorem resFl1 (k fl st : Int) (s : ByteArray) (K : Value → Prop) :
   evalK frB (fun _ _ => none) 30 47 [.agg #[vi k, vi fl, vi st, .string s], vi 1] AHeap.empty (fun v _ => K v)
   = (ifK (decide (Int.tmod fl (IntKind.wrap IntKind.i64 ((2 : Int) * (1 : Int))) < (0 : Int))) (ifK (decide ((1 : Int) ≤ IntKind.wrap IntKind.i64 (Int.tmod fl (IntKind.wrap IntKind.i64 ((2 : Int) * (1 : Int))) + IntKind.wrap IntKind.i64 ((2 : Int) * (1 : Int))))) (K (Value.bool true)) (K (Value.bool false))) (ifK (decide ((1 : Int) ≤ Int.tmod fl (IntKind.wrap IntKind.i64 ((2 : Int) * (1 : Int))))) (K (Value.bool true)) (K (Value.bool false)))) := by kernel_rfl
theorem resFl8 (k fl st : Int) (s : ByteArray) (K : Value → Prop) :
   evalK frB (fun _ _ => none) 30 47 [.agg #[vi k, vi fl, vi st, .string s], vi 8] AHeap.empty (fun v _ => K v)
   = (ifK (decide (Int.tmod fl (IntKind.wrap IntKind.i64 ((2 : Int) * (8 : Int))) < (0 : Int))) (ifK (decide ((8 : Int) ≤ IntKind.wrap IntKind.i64 (Int.tmod fl (IntKind.wrap IntKind.i64 ((2 : Int) * (8 : Int))) + IntKind.wrap IntKind.i64 ((2 : Int) * (8 : Int))))) (K (Value.bool true)) (K (Value.bool false))) (ifK (decide ((8 : Int) ≤ Int.tmod fl (IntKind.wrap IntKind.i64 ((2 : Int) * (8 : Int))))) (K (Value.bool true)) (K (Value.bool false)))) := by kernel_rfl
theorem resFl32 (k fl st : Int) (s : ByteArray) (K : Value → Prop) :
   evalK frB (fun _ _ => none) 30 47 [.agg #[vi k, vi fl, vi st, .string s], vi 32] AHeap.empty (fun v _ => K v)
   = (ifK (decide (Int.tmod fl (IntKind.wrap IntKind.i64 ((2 : Int) * (32 : Int))) < (0 : Int))) (ifK (decide ((32 : Int) ≤ IntKind.wrap IntKind.i64 (Int.tmod fl (IntKind.wrap IntKind.i64 ((2 : Int) * (32 : Int))) + IntKind.wrap IntKind.i64 ((2 : Int) * (32 : Int))))) (K (Value.bool true)) (K (Value.bool false))) (ifK (decide ((32 : Int) ≤ Int.tmod fl (IntKind.wrap IntKind.i64 ((2 : Int) * (32 : Int))))) (K (Value.bool true)) (K (Value.bool false)))) := by kernel_rfl
def whS (k : Int) : Bool := decide (k = 0) || (decide (k = 1) || (decide (k = 2) || (decide (k = 3) || decide (k = 9))))
def whK (k : Int) : Bool := whS k || (decide (k = 4) || (decide (k = 6) || (decide (k = 7) || decide (k = 16))))
def whG : List Value → Option (Bool × Value)
  | [.int .i64 k] => some (true, .tuple #[.bool (whS k), .bool (whK k)])
  | _ => none
theorem wh_ok : SumOk frB.P 26 (pureS whG) := by
  refine sumOk_evalK fbT fbF fbS fbM (fun _ _ => none) 30 Try.func26 (by kernel_rfl) (by decide) fun args v hg => ?_
  unfold whG at hg
  split at hg
  case h_2 => cases hg
  rename_i k
  simp only [Option.some.injEq, Prod.mk.injEq, true_and] at hg
  subst hg
  refine ⟨rfl, rfl, ?_⟩
  refine (resWh k _).mpr ?_
  unfold whK whS
  repeat' first
    | refine ifK_dec (fun h => ?_) (fun h => ?_)
    | (simp_all; done)
def flG : List Value → Option (Bool × Value)
  | [.agg ⟨[.int .i64 k, .int .i64 fl, .int .i64 st, .string s]⟩, .int .i64 b] => some (decide (b = 1 ∨ b = 8 ∨ b = 32), .bool (decide (fl / b % 2 = 1)))
  | _ => none
theorem fl_ok : SumOk frB.P 47 (pureS flG) := by
  refine sumOk_evalK fbT fbF fbS fbM (fun _ _ => none) 30 Try.func47 (by kernel_rfl) (by decide) fun args v hg => ?_
  unfold flG at hg
  split at hg
  case h_2 => cases hg
  rename_i k fl st s b
  simp only [Option.some.injEq, Prod.mk.injEq] at hg
  obtain ⟨hb, rfl⟩ := hg
  replace hb := of_decide_eq_true hb
  refine ⟨rfl, rfl, ?_⟩
  rcases hb with rfl | rfl | rfl
  · refine (resFl1 k fl st s _).mpr ?_
    have w2 : IntKind.wrap IntKind.i64 ((2 : Int) * (1 : Int)) = 2 := by decide
    rw [w2]
    have ht := tmod_e fl 2 (by omega)
    have w3 : IntKind.wrap IntKind.i64 (Int.tmod fl 2 + 2) = Int.tmod fl 2 + 2 := by rw [wr_i64]; split at ht <;> omega
    rw [w3]
    by_cases h : fl / 1 % 2 = 1
    · rw [decide_eq_true h]
      repeat' first
        | exact rfl
        | refine ifK_dec (fun _ => ?_) (fun _ => ?_)
      all_goals (exfalso; split at ht <;> omega)
    · rw [decide_eq_false h]
      repeat' first
        | exact rfl
        | refine ifK_dec (fun _ => ?_) (fun _ => ?_)
      all_goals (exfalso; split at ht <;> omega)
  · refine (resFl8 k fl st s _).mpr ?_
    have w2 : IntKind.wrap IntKind.i64 ((2 : Int) * (8 : Int)) = 16 := by decide
    rw [w2]
    have ht := tmod_e fl 16 (by omega)
    have w3 : IntKind.wrap IntKind.i64 (Int.tmod fl 16 + 16) = Int.tmod fl 16 + 16 := by rw [wr_i64]; split at ht <;> omega
    rw [w3]
    by_cases h : fl / 8 % 2 = 1
    · rw [decide_eq_true h]
      repeat' first
        | exact rfl
        | refine ifK_dec (fun _ => ?_) (fun _ => ?_)
      all_goals (exfalso; split at ht <;> omega)
    · rw [decide_eq_false h]
      repeat' first
        | exact rfl
        | refine ifK_dec (fun _ => ?_) (fun _ => ?_)
      all_goals (exfalso; split at ht <;> omega)
  · refine (resFl32 k fl st s _).mpr ?_
    have w2 : IntKind.wrap IntKind.i64 ((2 : Int) * (32 : Int)) = 64 := by decide
    rw [w2]
    have ht := tmod_e fl 64 (by omega)
    have w3 : IntKind.wrap IntKind.i64 (Int.tmod fl 64 + 64) = Int.tmod fl 64 + 64 := by rw [wr_i64]; split at ht <;> omega
    rw [w3]
    by_cases h : fl / 32 % 2 = 1
    · rw [decide_eq_true h]
      repeat' first
        | exact rfl
        | refine ifK_dec (fun _ => ?_) (fun _ => ?_)
      all_goals (exfalso; split at ht <;> omega)
    · rw [decide_eq_false h]
      repeat' first
        | exact rfl
        | refine ifK_dec (fun _ => ?_) (fun _ => ?_)
      all_goals (exfalso; split at ht <;> omega)
noncomputable def fpSumms : List (Nat × BSumm) := [(24, liftS (pureS numG)), (46, liftS cloneSum), (31, liftS (pureS bigG)), (14, liftS (pureS awG)), (20, liftS (pureS wrG)), (21, liftS (pureS wrG)), (12, liftS (pureS nxG)), (26, liftS (pureS whG)), (47, liftS (pureS flG)), (32, newS setSpec), (34, newS setSpec2), (17, roS sameFoot sameSpec)]
theorem fpSO : BSumsOk Try.prog fpSumms := ⟨num_ok.lift, frClone.lift, big_ok.lift, frAw.lift, w_ok.lift, rw_ok.lift, nx_ok.lift, wh_ok.lift, fl_ok.lift, set_ok, set2_ok, same_ok, trivial⟩
noncomputable def frP : Env := mkEnvB Try.prog frPlans frExts fun f => look f fpSumms
theorem fpT : frP.TOk := tOkB_of (by kernel_rfl) frX
theorem fpF : frP.FOk frP.ok := fOkB_of (by kernel_rfl)
theorem fpS : frP.SOk := sOkB_of fpSO
theorem fpM : frP.P.follows .mixedOrders = true := by kernel_rfl
noncomputable abbrev pB : Code := bodyOf Try.prog 15
noncomputable abbrev qB : Code := bodyOf Try.prog 16
def pNoHint : FuncId → Tmp → Option Hint := fun _ _ => none
end Go.Ev
