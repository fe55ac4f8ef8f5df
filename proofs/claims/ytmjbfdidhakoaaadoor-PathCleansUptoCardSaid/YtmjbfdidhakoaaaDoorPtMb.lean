/- path.Clean: what its ways come to; no condition. -/
import Derived.Test.YtmjbfdidhakoaaaDoorPtMa
namespace Go.Ev
open Go Go.Proofs Go.RowKit
set_option linter.unusedVariables false
set_option maxRecDepth 100000
set_option maxHeartbeats 4000000
noncomputable def pvSumms : List (Nat × BSumm) := (17, newS unSpec) :: pwSumms
theorem pvSO : BSumsOk Tryd.prog pvSumms := ⟨un_ok, pwSO⟩
noncomputable def ptV : Env := mkEnvB Tryd.prog ptPlans ptExts fun f => look f pvSumms
theorem pvT : ptV.TOk := tOkB_of (by kernel_rfl) ptX
theorem pvF : ptV.FOk ptV.ok := fOkB_of (by kernel_rfl)
theorem pvO : ptV.SOk := sOkB_of pvSO
theorem pvM : ptV.P.follows .mixedOrders = true := by kernel_rfl
noncomputable abbrev clB : Code := bodyOf Tryd.prog 8
def clHint : FuncId → Tmp → Option Hint := fun f t => (look f [(8, [(37, Hint.str)])]).bind (look t)
def clP : List Bool := [true, true, true, true, true, true, true, false, true, false]
def clCuts : Cuts := [(clP, [⟨1, [6,10,11,32,33,34], [(32,[]),(10,[])], false⟩, ⟨0, [6,10,11,32,33,34], [(32,[])], false⟩])]
def cH0 (P : List Value) : AHeap := { size := 1, tr := .node (some (.cells P ⟨1, some 9, true⟩ .live [])) .nil .nil }
def cH1 (P K : List Value) : AHeap := { size := 2, tr := .node (some (.cells P ⟨1, some 9, true⟩ .live [])) (.node (some (.cells K ⟨1, some 9, true⟩ .live [])) .nil .nil) .nil }
theorem clS (s : ByteArray) (R : RFun) (Q : Value → AHeap → Prop) :
   startA ptV clHint 30 20 8 0 70 clCuts R clB ([.string s] ++ List.replicate 69 undef) AHeap.empty (endGK ptV [.tmp 2, .tmp 3, .tmp 4] 0 [[]] Q)
   = (ifK (decide ((63 : UInt8) = (63 : UInt8) ∧ ByteArray.size s ≤ 1000000000000)) (ifK (hasC (63 : UInt8) s) (ifK (!hasP (headC (63 : UInt8) s)) (Q (Value.tuple { toList := [Value.string (⟨#[]⟩ : ByteArray), Value.string (⟨#[]⟩ : ByteArray), vi (1 : Int)] }) { size := 0, tr := Tr.nil }) (ifK (unOk (headC (63 : UInt8) s)) (ifK (decide (ByteArray.size (headC (63 : UInt8) s) ≤ 1000000000000)) (ifK (decide (ByteArray.size (unO (headC (63 : UInt8) s)) < 4294967281)) (R 0 none [] [Value.string (tailC (63 : UInt8) s), Value.slice none 0 0, Value.bool false, Value.slice (some { block := 0, off := 0 }) (List.length (pieces (unO (headC (63 : UInt8) s)) (47 : UInt8))) (List.length (pieces (unO (headC (63 : UInt8) s)) (47 : UInt8))), vi (↑(List.length (pieces (unO (headC (63 : UInt8) s)) (47 : UInt8))) : Int), vi (0 : Int)] { size := 1, tr := Tr.node (some (AObj.cells (List.map (renV [0]) (List.map (upV [0]) (List.map Value.string (pieces (unO (headC (63 : UInt8) s)) (47 : UInt8))))) (⟨1, some 9, true⟩ : ET) St.live [])) Tr.nil Tr.nil }) False) False) (ifK (decide (ByteArray.size (headC (63 : UInt8) s) ≤ 1000000000000)) (Q (Value.tuple { toList := [Value.string (⟨#[]⟩ : ByteArray), Value.string (⟨#[]⟩ : ByteArray), vi (170 : Int)] }) { size := 0, tr := Tr.nil }) False))) (ifK (!hasP (headC (63 : UInt8) s)) (Q (Value.tuple { toList := [Value.string (⟨#[]⟩ : ByteArray), Value.string (⟨#[]⟩ : ByteArray), vi (1 : Int)] }) { size := 0, tr := Tr.nil }) (ifK (unOk (headC (63 : UInt8) s)) (ifK (decide (ByteArray.size (headC (63 : UInt8) s) ≤ 1000000000000)) (ifK (decide (ByteArray.size (unO (headC (63 : UInt8) s)) < 4294967281)) (R 0 none [] [Value.string (tailC (63 : UInt8) s), Value.slice none 0 0, Value.bool false, Value.slice (some { block := 0, off := 0 }) (List.length (pieces (unO (headC (63 : UInt8) s)) (47 : UInt8))) (List.length (pieces (unO (headC (63 : UInt8) s)) (47 : UInt8))), vi (↑(List.length (pieces (unO (headC (63 : UInt8) s)) (47 : UInt8))) : Int), vi (0 : Int)] { size := 1, tr := Tr.node (some (AObj.cells (List.map (renV [0]) (List.map (upV [0]) (List.map Value.string (pieces (unO (headC (63 : UInt8) s)) (47 : UInt8))))) (⟨1, some 9, true⟩ : ET) St.live [])) Tr.nil Tr.nil }) False) False) (ifK (decide (ByteArray.size (headC (63 : UInt8) s) ≤ 1000000000000)) (Q (Value.tuple { toList := [Value.string (⟨#[]⟩ : ByteArray), Value.string (⟨#[]⟩ : ByteArray), vi (170 : Int)] }) { size := 0, tr := Tr.nil }) False)))) False) := by kernel_rfl
theorem cl0 (q : ByteArray) (f : Bool) (m n : Nat) (i : Int) (P : List Value) (R : RFun) (Q : Value → AHeap → Prop) :
   segA ptV clHint 30 20 8 0 70 clCuts R clB clP [] m [6,10,11,32,33,34] [.string q, nl, .bool f, slb 0 n, vi n, vi i] (cH0 P) (endGK ptV [.tmp 2, .tmp 3, .tmp 4] 0 [[]] Q)
   = (ifK (decide (i < (↑n : Int))) (ifK (decide ((0 : Int) ≤ i ∧ i < (↑n : Int))) (∃ s, LoadIs ptV 9 (Value.pointer (some { block := 0, off := 0 + Int.toNat i * 1 })) { size := 1, tr := Tr.node (some (AObj.cells P (⟨1, some (nat_lit 9), true⟩ : ET) St.live [])) Tr.nil Tr.nil } (Value.string s) ∧ ifK (seq s (⟨#[]⟩ : ByteArray)) (R 0 (some m) [] [Value.string q, Value.slice none 0 0, Value.bool true, Value.slice (some { block := 0, off := 0 }) n n, vi (↑n : Int), vi (IntKind.wrap IntKind.i64 (i + (1 : Int)))] { size := 1, tr := Tr.node (some (AObj.cells (List.map (renV [0]) P) (⟨1, some (nat_lit 9), true⟩ : ET) St.live [])) Tr.nil Tr.nil }) (ifK (seq s (⟨#[(46 : UInt8)]⟩ : ByteArray)) (R 0 (some m) [] [Value.string q, Value.slice none 0 0, Value.bool true, Value.slice (some { block := 0, off := 0 }) n n, vi (↑n : Int), vi (IntKind.wrap IntKind.i64 (i + (1 : Int)))] { size := 1, tr := Tr.node (some (AObj.cells (List.map (renV [0]) P) (⟨1, some (nat_lit 9), true⟩ : ET) St.live [])) Tr.nil Tr.nil }) (ifK (seq s (⟨#[(46 : UInt8), (46 : UInt8)]⟩ : ByteArray)) (Q (Value.tuple { toList := [Value.string (⟨#[]⟩ : ByteArray), Value.string (⟨#[]⟩ : ByteArray), vi (171 : Int)] }) { size := 0, tr := Tr.nil }) (R 1 (some m) [] [Value.string q, Value.slice (some { block := 1, off := 0 }) 1 1, Value.bool false, Value.slice (some { block := 0, off := 0 }) n n, vi (↑n : Int), vi (IntKind.wrap IntKind.i64 (i + (1 : Int)))] { size := 2, tr := Tr.node (some (AObj.cells (List.map (renV [0, 2]) P) (⟨1, some (nat_lit 9), true⟩ : ET) St.live [])) (Tr.node (some (AObj.cells [Value.string s] (⟨1, some 9, true⟩ : ET) St.live [])) Tr.nil Tr.nil) Tr.nil })))) False) (ifK f (Q (Value.tuple { toList := [Value.string ((⟨#[(47 : UInt8)]⟩ : ByteArray) ++ (⟨#[]⟩ : ByteArray)), Value.string q, vi (0 : Int)] }) { size := 0, tr := Tr.nil }) (Q (Value.tuple { toList := [Value.string ((⟨#[(47 : UInt8)]⟩ : ByteArray) ++ (⟨#[]⟩ : ByteArray)), Value.string q, vi (0 : Int)] }) { size := 0, tr := Tr.nil }))) := by kernel_rfl
theorem cl1 (q : ByteArray) (f : Bool) (m n k c : Nat) (i : Int) (P K : List Value) (R : RFun) (Q : Value → AHeap → Prop) :
   segA ptV clHint 30 20 8 0 70 clCuts R clB clP [] m [6,10,11,32,33,34] [.string q, .slice (some ⟨1, 0, none⟩) k c, .bool f, slb 0 n, vi n, vi i] (cH1 P K) (endGK ptV [.tmp 2, .tmp 3, .tmp 4] 0 [[]] Q)
   = (ifK (decide (i < (↑n : Int))) (ifK (decide ((0 : Int) ≤ i ∧ i < (↑n : Int))) (∃ s, LoadIs ptV 9 (Value.pointer (some { block := 0, off := 0 + Int.toNat i * 1 })) { size := 2, tr := Tr.node (some (AObj.cells P (⟨1, some (nat_lit 9), true⟩ : ET) St.live [])) (Tr.node (some (AObj.cells K (⟨1, some (nat_lit 9), true⟩ : ET) St.live [])) Tr.nil Tr.nil) Tr.nil } (Value.string s) ∧ ifK (seq s (⟨#[]⟩ : ByteArray)) (R 1 (some m) [] [Value.string q, Value.slice (some { block := 1, off := 0 }) k c, Value.bool true, Value.slice (some { block := 0, off := 0 }) n n, vi (↑n : Int), vi (IntKind.wrap IntKind.i64 (i + (1 : Int)))] { size := 2, tr := Tr.node (some (AObj.cells (List.map (renV [0, 1]) P) (⟨1, some (nat_lit 9), true⟩ : ET) St.live [])) (Tr.node (some (AObj.cells (List.map (renV [0, 1]) K) (⟨1, some (nat_lit 9), true⟩ : ET) St.live [])) Tr.nil Tr.nil) Tr.nil }) (ifK (seq s (⟨#[(46 : UInt8)]⟩ : ByteArray)) (R 1 (some m) [] [Value.string q, Value.slice (some { block := 1, off := 0 }) k c, Value.bool true, Value.slice (some { block := 0, off := 0 }) n n, vi (↑n : Int), vi (IntKind.wrap IntKind.i64 (i + (1 : Int)))] { size := 2, tr := Tr.node (some (AObj.cells (List.map (renV [0, 1]) P) (⟨1, some (nat_lit 9), true⟩ : ET) St.live [])) (Tr.node (some (AObj.cells (List.map (renV [0, 1]) K) (⟨1, some (nat_lit 9), true⟩ : ET) St.live [])) Tr.nil Tr.nil) Tr.nil }) (ifK (seq s (⟨#[(46 : UInt8), (46 : UInt8)]⟩ : ByteArray)) (ifK (decide ((↑k : Int) = (0 : Int))) (Q (Value.tuple { toList := [Value.string (⟨#[]⟩ : ByteArray), Value.string (⟨#[]⟩ : ByteArray), vi (171 : Int)] }) { size := 0, tr := Tr.nil }) (ifK (decide ((0 : Int) ≤ (0 : Int) ∧ (0 : Int) ≤ IntKind.wrap IntKind.i64 ((↑k : Int) - (1 : Int)) ∧ IntKind.wrap IntKind.i64 ((↑k : Int) - (1 : Int)) ≤ (↑c : Int))) (R 1 (some m) [] [Value.string q, Value.slice (some { block := 1, off := 0 }) (Int.toNat (IntKind.wrap IntKind.i64 ((↑k : Int) - (1 : Int))) - Int.toNat (0 : Int)) (c - Int.toNat (0 : Int)), Value.bool true, Value.slice (some { block := 0, off := 0 }) n n, vi (↑n : Int), vi (IntKind.wrap IntKind.i64 (i + (1 : Int)))] { size := 2, tr := Tr.node (some (AObj.cells (List.map (renV [0, 1]) P) (⟨1, some (nat_lit 9), true⟩ : ET) St.live [])) (Tr.node (some (AObj.cells (List.map (renV [0, 1]) K) (⟨1, some (nat_lit 9), true⟩ : ET) St.live [])) Tr.nil Tr.nil) Tr.nil }) False)) (ifK (k == c) (ifK (decide (0 + c * 1 = List.length K ∧ k ≤ c ∧ (k + 1) * 16 ≤ 140737488355328 ∧ k + 1 < 4611686018427387904)) (R 1 (some m) [] [Value.string q, Value.slice (some { block := 1, off := 0 }) (k + 1) (k + 1), Value.bool false, Value.slice (some { block := 0, off := 0 }) n n, vi (↑n : Int), vi (IntKind.wrap IntKind.i64 (i + (1 : Int)))] { size := 2, tr := Tr.node (some (AObj.cells (List.map (renV [0, 3]) P) (⟨1, some 9, true⟩ : ET) St.live [])) (Tr.node (some (AObj.cells (List.map (renV [0, 3]) (List.take (k * 1) (List.drop 0 K) ++ [Value.string s])) (⟨1, some 9, true⟩ : ET) St.live [])) Tr.nil Tr.nil) Tr.nil }) False) (ifK (decide (k + 1 ≤ c)) (ifK (decide (0 + k * 1 + List.length [Value.string s] ≤ List.length K)) (R 1 (some m) [] [Value.string q, Value.slice (some { block := 1, off := 0 }) (k + 1) c, Value.bool false, Value.slice (some { block := 0, off := 0 }) n n, vi (↑n : Int), vi (IntKind.wrap IntKind.i64 (i + (1 : Int)))] { size := 2, tr := Tr.node (some (AObj.cells (List.map (renV [0, 1]) P) (⟨1, some 9, true⟩ : ET) St.live [])) (Tr.node (some (AObj.cells (List.map (renV [0, 1]) (splice K (0 + k * 1) [Value.string s])) (⟨1, some 9, true⟩ : ET) St.live [])) Tr.nil Tr.nil) Tr.nil }) False) (ifK (decide (0 + c * 1 = List.length K ∧ k ≤ c ∧ (k + 1) * 16 ≤ 140737488355328 ∧ k + 1 < 4611686018427387904)) (R 1 (some m) [] [Value.string q, Value.slice (some { block := 1, off := 0 }) (k + 1) (k + 1), Value.bool false, Value.slice (some { block := 0, off := 0 }) n n, vi (↑n : Int), vi (IntKind.wrap IntKind.i64 (i + (1 : Int)))] { size := 2, tr := Tr.node (some (AObj.cells (List.map (renV [0, 3]) P) (⟨1, some 9, true⟩ : ET) St.live [])) (Tr.node (some (AObj.cells (List.map (renV [0, 3]) (List.take (k * 1) (List.drop 0 K) ++ [Value.string s])) (⟨1, some 9, true⟩ : ET) St.live [])) Tr.nil Tr.nil) Tr.nil }) False)))))) False) (ifK (allS (List.map (renV [1]) K) && decide (k ≤ List.length (List.map (renV [1]) K) ∧ k ≤ 140737488355328 ∧ ByteArray.size (joinB (List.take k (strsOf (List.map (renV [1]) K))) (⟨#[(47 : UInt8)]⟩ : ByteArray)) ≤ 140737488355328)) (ifK (decide (ByteArray.size (⟨#[(47 : UInt8)]⟩ : ByteArray) + ByteArray.size (joinB (List.take k (strsOf (List.map (renV [1]) K))) (⟨#[(47 : UInt8)]⟩ : ByteArray)) < 9223372036854775808)) (ifK f (ifK (decide ((0 : Int) < (↑k : Int))) (ifK (decide (ByteArray.size ((⟨#[(47 : UInt8)]⟩ : ByteArray) ++ joinB (List.take k (strsOf (List.map (renV [1]) K))) (⟨#[(47 : UInt8)]⟩ : ByteArray)) + ByteArray.size (⟨#[(47 : UInt8)]⟩ : ByteArray) < 9223372036854775808)) (Q (Value.tuple { toList := [Value.string ((⟨#[(47 : UInt8)]⟩ : ByteArray) ++ joinB (List.take k (strsOf (List.map (renV [1]) K))) (⟨#[(47 : UInt8)]⟩ : ByteArray) ++ (⟨#[(47 : UInt8)]⟩ : ByteArray)), Value.string q, vi (0 : Int)] }) { size := 0, tr := Tr.nil }) False) (Q (Value.tuple { toList := [Value.string ((⟨#[(47 : UInt8)]⟩ : ByteArray) ++ joinB (List.take k (strsOf (List.map (renV [1]) K))) (⟨#[(47 : UInt8)]⟩ : ByteArray)), Value.string q, vi (0 : Int)] }) { size := 0, tr := Tr.nil })) (Q (Value.tuple { toList := [Value.string ((⟨#[(47 : UInt8)]⟩ : ByteArray) ++ joinB (List.take k (strsOf (List.map (renV [1]) K))) (⟨#[(47 : UInt8)]⟩ : ByteArray)), Value.string q, vi (0 : Int)] }) { size := 0, tr := Tr.nil })) False) False)) := by kernel_rfl
end Go.Ev

/- The summary of path.Clean. -/
namespace Go.Ev
open Go Go.Proofs Go.RowKit
set_option linter.unusedVariables false
set_option linter.unusedSimpArgs false
set_option maxRecDepth 100000
set_option maxHeartbeats 4000000
abbrev eB : ByteArray := ⟨#[]⟩
abbrev slB : ByteArray := ⟨#[(47 : UInt8)]⟩
abbrev dotB : ByteArray := ⟨#[(46 : UInt8)]⟩
abbrev ddB : ByteArray := ⟨#[(46 : UInt8), (46 : UInt8)]⟩
def clGo : List ByteArray → List ByteArray → Bool → Option (List ByteArray × Bool)
  | [], K, f => some (K, f)
  | p :: ps, K, f => if seq p eB = true then clGo ps K true else if seq p dotB = true then clGo ps K true else
      if seq p ddB = true then (if K.length = 0 then none else clGo ps K.dropLast true) else clGo ps (K ++ [p]) false
/-- The path of a text's parts, if they are one. -/
def clO (r : Option (List ByteArray × Bool)) : ByteArray :=
  match r with
  | some (K, f) => if f = true ∧ 0 < K.length then slB ++ joinB K slB ++ slB else slB ++ joinB K slB
  | none => eB
/-- Of a path without its query: what is wrong, and the clean path. -/
def rawErr (h : ByteArray) : Int := if hasP h = true then (if unOk h = true then (if (clGo (pieces (unO h) 47) [] false).isSome = true then 0 else 171) else 170) else 1
def rawOut (h : ByteArray) : ByteArray := if rawErr h = 0 then clO (clGo (pieces (unO h) 47) [] false) else eB
def clErr (s : ByteArray) : Int := rawErr (headC 63 s)
def clOut (s : ByteArray) : ByteArray := rawOut (headC 63 s)
def clQry (s : ByteArray) : ByteArray := if clErr s = 0 then tailC 63 s else eB
abbrev clV (s : ByteArray) : Value := .tuple #[.string (clOut s), .string (clQry s), vi (clErr s)]
theorem clV_arg {s : ByteArray} (h : hasP (headC 63 s) = false) : clV s = .tuple #[.string eB, .string eB, vi 1] := by
  have e : clErr s = 1 := by unfold clErr rawErr; rw [if_neg (by rw [h]; decide)]
  have e' : rawErr (headC 63 s) = 1 := e
  unfold clV clOut clQry rawOut
  rw [e, e', if_neg (by decide), if_neg (by decide)]
theorem clV_esc {s : ByteArray} (h : hasP (headC 63 s) = true) (h2 : unOk (headC 63 s) = false) : clV s = .tuple #[.string eB, .string eB, vi 170] := by
  have e : clErr s = 170 := by unfold clErr rawErr; rw [if_pos h, if_neg (by rw [h2]; decide)]
  have e' : rawErr (headC 63 s) = 170 := e
  unfold clV clOut clQry rawOut
  rw [e, e', if_neg (by decide), if_neg (by decide)]
theorem clV_none {s : ByteArray} (h : hasP (headC 63 s) = true) (h2 : unOk (headC 63 s) = true) (h3 : clGo (pieces (unO (headC 63 s)) 47) [] false = none) : clV s = .tuple #[.string eB, .string eB, vi 171] := by
  have e : clErr s = 171 := by unfold clErr rawErr; rw [if_pos h, if_pos h2, h3]; rfl
  have e' : rawErr (headC 63 s) = 171 := e
  unfold clV clOut clQry rawOut
  rw [e, e', if_neg (by decide), if_neg (by decide)]
theorem clV_some {s : ByteArray} (h : hasP (headC 63 s) = true) (h2 : unOk (headC 63 s) = true) {r : List ByteArray × Bool} (h3 : clGo (pieces (unO (headC 63 s)) 47) [] false = some r) : clV s = .tuple #[.string (clO (some r)), .string (tailC 63 s), vi 0] := by
  have e : clErr s = 0 := by unfold clErr rawErr; rw [if_pos h, if_pos h2, h3]; rfl
  have e' : rawErr (headC 63 s) = 0 := e
  unfold clV clOut clQry rawOut
  rw [e, e', if_pos rfl, if_pos rfl, h3]
/-! ### Sizes -/
theorem pieces_sz (s : ByteArray) (c : UInt8) : ∀ x ∈ pieces s c, x.size ≤ s.size := by
  unfold pieces
  generalize Lib.countB s ⟨#[c]⟩ = k
  induction k generalizing s with
  | zero => intro x hx; rw [Lib.splitB_zero] at hx; simp at hx; subst hx; exact Nat.le_refl _
  | succ k ih =>
    intro x hx
    rcases Lib.indexB_cases s ⟨#[c]⟩ with h | ⟨i, h, h2⟩
    · rw [Lib.splitB_miss _ _ _ _ h] at hx; simp at hx; subst hx; exact Nat.le_refl _
    · rw [Lib.splitB_hit _ _ _ _ i h] at hx
      rcases List.mem_cons.1 hx with rfl | hx
      · rw [ByteArray.size_extract]; omega
      · have := ih _ x hx
        rw [ByteArray.size_extract] at this; omega
theorem joinB_sz (M : Nat) : ∀ (K : List ByteArray), (∀ x ∈ K, x.size ≤ M) → (joinB K slB).size ≤ K.length * (M + 1) := by
  intro K hK
  show (Lib.join (K.map (·.data.toList)) slB.data.toList).toArray.size ≤ _
  rw [List.size_toArray]
  induction K with
  | nil => exact Nat.zero_le _
  | cons x K ih =>
    have hx : x.data.toList.length ≤ M := by rw [ba_len]; exact hK x (List.mem_cons_self ..)
    have h := ih (fun y hy => hK y (List.mem_cons_of_mem _ hy))
    cases K with
    | nil =>
      show (Lib.join [x.data.toList] slB.data.toList).length ≤ 1 * (M + 1)
      rw [Lib.join_one]; omega
    | cons y K =>
      have e : Lib.join ((x :: y :: K).map (·.data.toList)) slB.data.toList = x.data.toList ++ (slB.data.toList ++ Lib.join ((y :: K).map (·.data.toList)) slB.data.toList) := by
        simp [Lib.join]
      rw [e]
      have e2 : slB.data.toList.length = 1 := rfl
      rw [List.length_append, List.length_append, e2]
      have e3 : (x :: y :: K).length * (M + 1) = (M + 1) + (y :: K).length * (M + 1) := by rw [List.length_cons, Nat.add_mul]; omega
      omega
theorem takeWhile_le (p : UInt8 → Bool) (l : List UInt8) : (l.takeWhile p).length ≤ l.length := by
  induction l with
  | nil => exact Nat.le_refl _
  | cons a l ih => rw [List.takeWhile_cons]; split <;> simp; omega
theorem headC_sz (c : UInt8) (s : ByteArray) : (headC c s).size ≤ s.size := by
  have := takeWhile_le (· != c) s.data.toList
  rw [ba_len] at this
  exact this
theorem unGo_sz : ∀ (n : Nat) (l out B : List UInt8), l.length ≤ n → unGo l out = some B → B.length ≤ out.length + l.length := by
  intro n
  induction n with
  | zero =>
    intro l out B hn h
    have : l = [] := List.length_eq_zero_iff.1 (by omega)
    subst this
    rw [unGo_nil] at h
    cases h; simp
  | succ n ih =>
    intro l out B hn h
    match l with
    | [] => rw [unGo_nil] at h; cases h; simp
    | b :: l =>
      simp at hn
      by_cases hb : b = 37
      · subst hb
        match l, hn with
        | [], _ => rw [unGo_short (by simp)] at h; cases h
        | [a], _ => rw [unGo_short (by simp)] at h; cases h
        | x :: y :: l, hn =>
          by_cases hh : woth x.toNat < 2 ∨ woth y.toNat < 0 ∨ hexC x y = 127 ∨ hexC x y = 47
          · rw [unGo_bad hh] at h; cases h
          · rw [unGo_hex hh] at h
            simp at hn
            have := ih l _ B (by omega) h
            simp at this ⊢; omega
      · rw [unGo_b hb] at h
        have := ih l _ B hn h
        simp at this ⊢; omega
theorem unO_sz (s : ByteArray) : (unO s).size ≤ s.size := by
  show ((undoF s).getD []).length ≤ s.size
  cases h : undoF s with
  | none => simp
  | some B =>
    have := unGo_sz _ _ _ _ (Nat.le_refl _) h
    rw [ba_len] at this
    simpa using this
end Go.Ev

/- The summary of path.Clean: its loop. -/
namespace Go.Ev
open Go Go.Proofs Go.RowKit
set_option linter.unusedVariables false
set_option linter.unusedSimpArgs false
set_option maxRecDepth 100000
set_option maxHeartbeats 4000000
theorem strs_ren (d : List Nat) (l : List ByteArray) : (l.map Value.string).map (renV d) = l.map Value.string := by rw [List.map_map]; rfl
theorem strs_up (d : List Nat) (l : List ByteArray) : (l.map Value.string).map (upV d) = l.map Value.string := by rw [List.map_map]; rfl
abbrev CQ (s : ByteArray) (v : Value) (H : AHeap) : Prop := v = clV s ∧ H = AHeap.empty
def cI (s : ByteArray) (P : List ByteArray) (id : Nat) (μ : List Nat) (m : Nat) (vs : List Value) (H : AHeap) : Prop :=
  match id with
  | 0 => ∃ (i : Nat) (f : Bool), vs = [.string (tailC 63 s), nl, .bool f, slb 0 P.length, vi P.length, vi i] ∧ H = cH0 (P.map .string) ∧ i ≤ P.length ∧ clGo (P.drop i) [] f = clGo P [] false ∧ m = P.length - i
  | 1 => ∃ (i : Nat) (f : Bool) (K G : List ByteArray), vs = [.string (tailC 63 s), .slice (some ⟨1, 0, none⟩) K.length (K ++ G).length, .bool f, slb 0 P.length, vi P.length, vi i] ∧ H = cH1 (P.map .string) ((K ++ G).map .string) ∧ i ≤ P.length ∧ (K ++ G).length ≤ i ∧
      (∀ x ∈ K, x ∈ P) ∧ clGo (P.drop i) K f = clGo P [] false ∧ m = P.length - i
  | _ => False
abbrev clSeg (s : ByteArray) (P : List ByteArray) (m : Nat) (vs : List Value) (H : AHeap) : Prop := segA ptV clHint 30 20 8 0 70 clCuts (ofI (cI s P)) clB clP [] m [6,10,11,32,33,34] vs H (endGK ptV [.tmp 2, .tmp 3, .tmp 4] 0 [[]] (CQ s))
theorem pvOne9 : (ptV.ty 9).map (fun i => isAggD i.desc) = some false := by kernel_rfl
theorem dropP {P : List ByteArray} {i : Nat} (h : i < P.length) : ∃ p, P[i]? = some p ∧ p ∈ P ∧ P.drop i = p :: P.drop (i + 1) :=
  ⟨P[i], List.getElem?_eq_getElem h, List.getElem_mem h, List.drop_eq_getElem_cons h⟩
theorem clGo_e {p : ByteArray} (h : seq p eB = true ∨ seq p dotB = true) (ps K : List ByteArray) (f : Bool) : clGo (p :: ps) K f = clGo ps K true := by
  rw [clGo]
  by_cases h1 : seq p eB = true
  · rw [if_pos h1]
  · rw [if_neg h1, if_pos (by rcases h with h | h; exact absurd h h1; exact h)]
theorem clGo_dd {p : ByteArray} (h1 : seq p eB = false) (h2 : seq p dotB = false) (h3 : seq p ddB = true) (ps K : List ByteArray) (f : Bool) : clGo (p :: ps) K f = if K.length = 0 then none else clGo ps K.dropLast true := by
  rw [clGo, if_neg (by rw [h1]; decide), if_neg (by rw [h2]; decide), if_pos h3]
theorem clGo_p {p : ByteArray} (h1 : seq p eB = false) (h2 : seq p dotB = false) (h3 : seq p ddB = false) (ps K : List ByteArray) (f : Bool) : clGo (p :: ps) K f = clGo ps (K ++ [p]) false := by
  rw [clGo, if_neg (by rw [h1]; decide), if_neg (by rw [h2]; decide), if_neg (by rw [h3]; decide)]
theorem clseg0 {s : ByteArray} (ha : hasP (headC 63 s) = true) (hu : unOk (headC 63 s) = true) (hP : (pieces (unO (headC 63 s)) 47).length ≤ 1000000000000) (m : Nat) (vs : List Value) (H : AHeap) (hI : cI s (pieces (unO (headC 63 s)) 47) 0 [] m vs H) : Hd (clSeg s (pieces (unO (headC 63 s)) 47) m vs H) := by
  have kn := clV_none ha hu
  have ks := fun r => clV_some ha hu (r := r)
  generalize pieces (unO (headC 63 s)) 47 = P at *
  obtain ⟨i, f, rfl, rfl, hi, hgo, rfl⟩ := hI
  constructor
  unfold clSeg
  rw [cl0]
  refine ifK_dec (fun h => ?_) (fun h => ?_)
  · obtain ⟨p, hp, hm, hd⟩ := dropP (P := P) (i := i) (by omega)
    rw [hd] at hgo
    have hw : IntKind.wrap IntKind.i64 ((i : Int) + 1) = ((i + 1 : Nat) : Int) := by rw [wr_i64]; omega
    refine ifK_dec (fun _ => ?_) (fun h' => absurd ⟨by omega, h⟩ h')
    refine ⟨p, ⟨?_⟩, ?_⟩
    · rw [aload_one pvOne9 rfl, List.getElem?_map, show 0 + Int.toNat (i : Int) * 1 = i by rw [Int.toNat_natCast]; omega, hp]; rfl
    rw [hw, strs_ren, strs_ren]
    refine ifKb (fun h1 => ?_) (fun h1 => ifKb (fun h2 => ?_) (fun h2 => ifKb (fun h3 => ?_) (fun h3 => ?_)))
    · rw [clGo_e (.inl h1)] at hgo
      exact ⟨P.length - (i + 1), by omega, i + 1, true, rfl, rfl, by omega, hgo, rfl⟩
    · rw [clGo_e (.inr h2)] at hgo
      exact ⟨P.length - (i + 1), by omega, i + 1, true, rfl, rfl, by omega, hgo, rfl⟩
    · rw [clGo_dd h1 h2 h3, if_pos (show ([] : List ByteArray).length = 0 from rfl)] at hgo
      exact ⟨(kn hgo.symm).symm, rfl⟩
    · rw [clGo_p h1 h2 h3] at hgo
      refine ⟨P.length - (i + 1), by omega, i + 1, false, [p], [], rfl, rfl, by omega, by simp, ?_, hgo, rfl⟩
      intro x hx; simp at hx; subst hx; exact hm
  · have hie : i = P.length := by omega
    rw [hie, List.drop_of_length_le (Nat.le_refl _)] at hgo
    have hk := ks _ hgo.symm
    have e : clO (some ([], f)) = slB ++ eB := by
      unfold clO
      simp only
      rw [if_neg (by simp)]
      rfl
    rw [e] at hk
    refine ifKb (fun h1 => ⟨hk.symm, rfl⟩) (fun h1 => ⟨hk.symm, rfl⟩)
theorem clseg1 {s : ByteArray} (ha : hasP (headC 63 s) = true) (hu : unOk (headC 63 s) = true) (hs : s.size ≤ 8000000) (m : Nat) (vs : List Value) (H : AHeap) (hI : cI s (pieces (unO (headC 63 s)) 47) 1 [] m vs H) : Hd (clSeg s (pieces (unO (headC 63 s)) 47) m vs H) := by
  have kn := clV_none ha hu
  have ks := fun r => clV_some ha hu (r := r)
  have q1 := headC_sz 63 s
  have q2 := unO_sz (headC 63 s)
  have q3 := pieces_le (unO (headC 63 s)) 47
  have q4 := pieces_sz (unO (headC 63 s)) 47
  have hM : ∀ x ∈ pieces (unO (headC 63 s)) 47, x.size ≤ 8000000 := fun x hx => by have := q4 x hx; omega
  have hP : (pieces (unO (headC 63 s)) 47).length ≤ 8000001 := by omega
  clear q1 q2 q3 q4
  generalize pieces (unO (headC 63 s)) 47 = P at *
  obtain ⟨i, f, K, G, rfl, rfl, hi, hKG, hKP, hgo, rfl⟩ := hI
  have hKl : K.length ≤ i := by rw [List.length_append] at hKG; omega
  have hj : (joinB K (⟨#[(47 : UInt8)]⟩ : ByteArray)).size ≤ K.length * (8000000 + 1) := joinB_sz 8000000 K (fun x hx => hM x (hKP x hx))
  have hj2 : K.length * (8000000 + 1) ≤ 8000001 * 8000001 := Nat.mul_le_mul (by omega) (Nat.le_refl _)
  have hml : ((K ++ G).map Value.string).length = (K ++ G).length := List.length_map _
  constructor
  unfold clSeg
  rw [cl1]
  refine ifK_dec (fun h => ?_) (fun h => ?_)
  · obtain ⟨p, hp, hm, hd⟩ := dropP (P := P) (i := i) (by omega)
    rw [hd] at hgo
    have hw : IntKind.wrap IntKind.i64 ((i : Int) + 1) = ((i + 1 : Nat) : Int) := by rw [wr_i64]; omega
    refine ifK_dec (fun _ => ?_) (fun h' => absurd ⟨by omega, h⟩ h')
    refine ⟨p, ⟨?_⟩, ?_⟩
    · rw [aload_one pvOne9 rfl, List.getElem?_map, show 0 + Int.toNat (i : Int) * 1 = i by rw [Int.toNat_natCast]; omega, hp]; rfl
    simp only [hw, strs_ren]
    refine ifKb (fun h1 => ?_) (fun h1 => ifKb (fun h2 => ?_) (fun h2 => ifKb (fun h3 => ?_) (fun h3 => ?_)))
    · rw [clGo_e (.inl h1)] at hgo
      exact ⟨P.length - (i + 1), by omega, i + 1, true, K, G, rfl, rfl, by omega, by omega, hKP, hgo, rfl⟩
    · rw [clGo_e (.inr h2)] at hgo
      exact ⟨P.length - (i + 1), by omega, i + 1, true, K, G, rfl, rfl, by omega, by omega, hKP, hgo, rfl⟩
    · rw [clGo_dd h1 h2 h3] at hgo
      refine ifK_dec (fun h4 => ?_) (fun h4 => ?_)
      · rw [if_pos (by omega)] at hgo
        exact ⟨(kn hgo.symm).symm, rfl⟩
      · rw [if_neg (by omega)] at hgo
        have hw2 : IntKind.wrap IntKind.i64 ((K.length : Int) - 1) = ((K.length - 1 : Nat) : Int) := by rw [wr_i64]; omega
        rw [hw2]
        refine ifK_dec (fun _ => ?_) (fun h' => absurd ⟨by omega, by omega, by rw [List.length_append]; omega⟩ h')
        have hK : K ≠ [] := fun hh => h4 (by rw [hh]; rfl)
        have e : K.dropLast ++ (K.getLast hK :: G) = K ++ G := by
          conv => rhs; rw [← List.dropLast_concat_getLast hK]
          rw [List.append_assoc]; rfl
        refine ⟨P.length - (i + 1), by omega, i + 1, true, K.dropLast, K.getLast hK :: G, ?_, ?_, by omega, ?_, ?_, hgo, rfl⟩
        · rw [e, List.length_dropLast]; rfl
        · rw [e]; rfl
        · rw [e]; omega
        · intro x hx; exact hKP x (List.dropLast_subset K hx)
    · rw [clGo_p h1 h2 h3] at hgo
      have hin : ∀ x ∈ K ++ [p], x ∈ P := by
        intro x hx
        rcases List.mem_append.1 hx with hx | hx
        · exact hKP x hx
        · simp at hx; subst hx; exact hm
      refine ifKb (fun h4 => ?_) (fun h4 => ?_)
      · have h4' : K.length = (K ++ G).length := by simpa using h4
        have hG : G = [] := List.length_eq_zero_iff.1 (by rw [List.length_append] at h4'; omega)
        subst hG
        refine ifK_dec (fun _ => ?_) (fun h' => absurd ⟨by rw [hml]; omega, by omega, by omega, by omega⟩ h')
        have e : List.take (K.length * 1) (List.drop 0 ((K ++ []).map Value.string)) ++ [Value.string p] = ((K ++ [p]) ++ []).map Value.string := by
          rw [List.drop_zero, List.take_of_length_le (by rw [List.length_map, List.length_append]; simp), List.append_nil, List.append_nil, List.map_append]; rfl
        refine ⟨P.length - (i + 1), by omega, i + 1, false, K ++ [p], [], ?_, ?_, by omega, ?_, hin, hgo, rfl⟩
        · rw [List.append_nil, List.length_append]; rfl
        · exact congrArg (cH1 (P.map .string)) ((congrArg (List.map (renV [0, 3])) e).trans (strs_ren _ _))
        · rw [List.append_nil, List.length_append]; simp; omega
      · have h4' : K.length ≠ (K ++ G).length := by simpa using h4
        obtain ⟨g, G', rfl⟩ : ∃ g G', G = g :: G' := by
          cases G with
          | nil => simp at h4'
          | cons g G' => exact ⟨g, G', rfl⟩
        refine ifK_dec (fun _ => ?_) (fun h' => absurd (by rw [List.length_append, List.length_cons]; omega) h')
        refine ifK_dec (fun _ => ?_) (fun h' => absurd (by have h7 := hml; rw [List.length_append, List.length_cons] at h7; show 0 + K.length * 1 + 1 ≤ _; omega) h')
        have e : splice ((K ++ g :: G').map Value.string) (0 + K.length * 1) [Value.string p] = ((K ++ [p]) ++ G').map Value.string := by
          show ((K ++ g :: G').map Value.string).set (0 + K.length * 1) (Value.string p) = _
          rw [show 0 + K.length * 1 = K.length by omega, ← List.map_set, List.set_append_right _ _ (Nat.le_refl _), Nat.sub_self]
          simp
        refine ⟨P.length - (i + 1), by omega, i + 1, false, K ++ [p], G', ?_, ?_, by omega, ?_, hin, hgo, rfl⟩
        · have e2 : (K ++ g :: G').length = ((K ++ [p]) ++ G').length := by rw [List.length_append, List.length_append, List.length_append, List.length_cons]; show _ = K.length + 1 + _; omega
          have e3 : (K ++ [p]).length = K.length + 1 := by simp
          rw [e2, e3]
        · exact congrArg (cH1 (P.map .string)) ((congrArg (List.map (renV [0, 1])) e).trans (strs_ren _ _))
        · simp at hKG ⊢; omega
  · have hie : i = P.length := by omega
    rw [hie, List.drop_of_length_le (Nat.le_refl _)] at hgo
    have hk := ks _ hgo.symm
    have htk : (K ++ G).take K.length = K := by rw [List.take_append_of_le_length (Nat.le_refl _), List.take_of_length_le (Nat.le_refl _)]
    have s1 : (⟨#[(47 : UInt8)]⟩ : ByteArray).size = 1 := rfl
    simp only [strs_ren, allS_map, strsOf_map, htk, hml, Bool.true_and, s1]
    refine ifK_dec (fun _ => ?_) (fun h' => absurd ⟨by rw [List.length_append]; omega, by omega, by omega⟩ h')
    refine ifK_dec (fun _ => ?_) (fun h' => absurd (by omega) h')
    refine ifKb (fun h5 => ifK_dec (fun h6 => ?_) (fun h6 => ?_)) (fun h5 => ?_)
    · refine ifK_dec (fun _ => ?_) (fun h' => absurd (by rw [ByteArray.size_append, s1]; omega) h')
      rw [clO] at hk
      rw [if_pos ⟨h5, by omega⟩] at hk
      exact ⟨hk.symm, rfl⟩
    · rw [clO] at hk
      rw [if_neg (fun h => h6 (by omega))] at hk
      exact ⟨hk.symm, rfl⟩
    · rw [clO] at hk
      rw [if_neg (fun h => by rw [h5] at h; exact absurd h.1 (by decide))] at hk
      exact ⟨hk.symm, rfl⟩
theorem body8 : Tryd.f8.body = some (bodyOf Tryd.prog 8) := by kernel_rfl
theorem nt8 : Tryd.f8.ntmps = 70 := by kernel_rfl
theorem rs8 : Tryd.f8.results.toList = [.tmp 2, .tmp 3, .tmp 4] := by kernel_rfl
theorem dr8 : allDraw (ptV.ok 8) (bodyOf Tryd.prog 8) = true := by kernel_rfl
theorem lo8 : loopsOn clP clB = 0 := by kernel_rfl
def clSpec : List Value → SpR
  | [.string s] => .ret (decide (s.size ≤ 8000000)) (clV s) []
  | _ => .fail
theorem clStart {s : ByteArray} (hs : s.size ≤ 8000000) (R : RFun) (hR : ∀ vs H, hasP (headC 63 s) = true → unOk (headC 63 s) = true → cI s (pieces (unO (headC 63 s)) 47) 0 [] (pieces (unO (headC 63 s)) 47).length vs H → R 0 none [] vs H) :
    Hd (startA ptV clHint 30 20 8 0 70 clCuts R clB ([.string s] ++ List.replicate 69 undef) AHeap.empty (endGK ptV [.tmp 2, .tmp 3, .tmp 4] 0 [[]] (CQ s))) := by
  have q1 := headC_sz 63 s
  have q2 := unO_sz (headC 63 s)
  constructor
  rw [clS]
  have main : ifK (!hasP (headC 63 s)) (CQ s (.tuple #[.string eB, .string eB, vi 1]) AHeap.empty) (ifK (unOk (headC 63 s)) (ifK (decide ((headC 63 s).size ≤ 1000000000000)) (ifK (decide ((unO (headC 63 s)).size < 4294967281)) (R 0 none [] [.string (tailC 63 s), nl, .bool false, slb 0 (pieces (unO (headC 63 s)) 47).length, vi (pieces (unO (headC 63 s)) 47).length, vi 0] (cH0 ((((pieces (unO (headC 63 s)) 47).map Value.string).map (upV [0])).map (renV [0])))) False) False) (ifK (decide ((headC 63 s).size ≤ 1000000000000)) (CQ s (.tuple #[.string eB, .string eB, vi 170]) AHeap.empty) False)) := by
    cases h1 : hasP (headC 63 s) with
    | false => exact ifK_t rfl ⟨(clV_arg h1).symm, rfl⟩
    | true =>
      refine ifK_f rfl (ifKb (fun h2 => ?_) (fun h2 => ?_))
      · refine ifK_dec (fun _ => ?_) (fun h' => absurd (by omega) h')
        refine ifK_dec (fun _ => ?_) (fun h' => absurd (by omega) h')
        rw [strs_up, strs_ren]
        exact hR _ _ h1 h2 ⟨0, false, rfl, rfl, Nat.zero_le _, by rw [List.drop_zero], rfl⟩
      · refine ifK_dec (fun _ => ?_) (fun h' => absurd (by omega) h')
        exact ⟨(clV_esc h1 h2).symm, rfl⟩
  refine ifK_t (decide_eq_true ⟨rfl, by omega⟩) (ifKb (fun _ => main) (fun _ => main))
theorem cl_ok : BSumOk ptV.P 8 (newS clSpec) := by
  refine sumOk_new Tryd.func8 (by kernel_rfl) (by decide) fun args v os hs w cargs ha => ?_
  unfold clSpec at hs
  split at hs
  case h_2 => cases hs
  rename_i s
  simp only [SpR.get, Option.some.injEq, Prod.mk.injEq, decide_eq_true_eq] at hs
  obtain ⟨hs, rfl, rfl⟩ := hs
  have q1 := headC_sz 63 s
  have q2 := unO_sz (headC 63 s)
  have q3 := pieces_le (unO (headC 63 s)) 47
  by_cases hh : hasP (headC 63 s) = true ∧ unOk (headC 63 s) = true
  · refine (calls_cutsG pvT pvF pvO pvM clHint (f := 8) (k := 30) (n := 20) Tryd.func8 body8 nt8 rs8 dr8 (cuts := clCuts) (I := cI s (pieces (unO (headC 63 s)) 47)) (rts := [[]]) (Q := CQ s) (args := [.string s]) (Rel.empty w) ha (clStart hs _ fun vs H h1 h2 hi => ⟨_, trivial, hi⟩) ⟨⟨?_, ?_, trivial⟩, trivial⟩).mono ?_
    · intro ms hms m vs H hi
      obtain rfl := List.eq_nil_of_length_eq_zero (hms.trans lo8)
      exact clseg1 hh.1 hh.2 hs m vs H hi
    · intro ms hms m vs H hi
      obtain rfl := List.eq_nil_of_length_eq_zero (hms.trans lo8)
      exact clseg0 hh.1 hh.2 (by omega) m vs H hi
    · rintro e w' ⟨v', H', ⟨rfl, rfl⟩, hp⟩
      exact hp
  · refine (calls_cutsG pvT pvF pvO pvM clHint (f := 8) (k := 30) (n := 20) Tryd.func8 body8 nt8 rs8 dr8 (cuts := clCuts) (I := fun _ _ _ _ _ => False) (rts := [[]]) (Q := CQ s) (args := [.string s]) (Rel.empty w) ha (clStart hs _ fun vs H h1 h2 hi => absurd ⟨h1, h2⟩ hh) ⟨⟨fun _ _ _ _ _ hi => hi.elim, fun _ _ _ _ _ hi => hi.elim, trivial⟩, trivial⟩).mono ?_
    rintro e w' ⟨v', H', ⟨rfl, rfl⟩, hp⟩
    exact hp
end Go.Ev
