/- disk.Path and the document's: what their ways come to; no condition. -/
import Derived.Test.YtkomaolfjmgppaaDoorDkMa
namespace Go.Ev
open Go Go.Proofs Go.RowKit
set_option linter.unusedVariables false
set_option maxRecDepth 100000
set_option maxHeartbeats 4000000
def dH0 (P : List Value) : AHeap := { size := 1, tr := .node (some (.cells P ⟨1, some 9, true⟩ .live [])) .nil .nil }
noncomputable abbrev dpB : Code := bodyOf Tryd.prog 8
def dpHint : FuncId → Tmp → Option Hint := fun f t => (look f [(8, [(37, Hint.str)])]).bind (look t)
def dpP1 : List Bool := [true, true, false, true, false]
def dpP2 : List Bool := [true, true, true, false, true, false]
def dpCuts : Cuts := [(dpP1, [⟨0, [0,15,16], [], false⟩]), (dpP2, [⟨1, [32,33,34], [(32,[])], false⟩])]
theorem dpS (s : ByteArray) (R : RFun) (Q : Value → AHeap → Prop) :
   startA dkA dpHint 30 20 8 0 44 dpCuts R dpB ([.string s] ++ List.replicate 43 undef) AHeap.empty (endGK dkA [.tmp 2] 0 [[]] Q)
   = (ifK (decide ((255 : Int) < (↑(ByteArray.size s) : Int))) (Q (Value.bool false) { size := 0, tr := Tr.nil }) (ifK (decide ((↑(ByteArray.size (⟨#[(47 : UInt8)]⟩ : ByteArray)) : Int) ≤ (↑(ByteArray.size s) : Int))) (ifK (decide ((0 : Int) ≤ (0 : Int) ∧ (0 : Int) ≤ (↑(ByteArray.size (⟨#[(47 : UInt8)]⟩ : ByteArray)) : Int) ∧ (↑(ByteArray.size (⟨#[(47 : UInt8)]⟩ : ByteArray)) : Int) ≤ (↑(ByteArray.size s) : Int))) (ifK (seq (ByteArray.extract s (Int.toNat (0 : Int)) (Int.toNat (↑(ByteArray.size (⟨#[(47 : UInt8)]⟩ : ByteArray)) : Int))) (⟨#[(47 : UInt8)]⟩ : ByteArray)) (R 0 none [] [Value.string s, vi (↑(ByteArray.size s) : Int), vi (0 : Int)] { size := 0, tr := Tr.nil }) (Q (Value.bool false) { size := 0, tr := Tr.nil })) False) (Q (Value.bool false) { size := 0, tr := Tr.nil }))) := by kernel_rfl
theorem dp0 (s : ByteArray) (m n : Nat) (i : Int) (R : RFun) (Q : Value → AHeap → Prop) :
   segA dkA dpHint 30 20 8 0 44 dpCuts R dpB dpP1 [] m [0,15,16] [.string s, vi n, vi i] AHeap.empty (endGK dkA [.tmp 2] 0 [[]] Q)
   = (ifK (decide (i < (↑n : Int))) (ifK (decide ((0 : Int) ≤ i ∧ i < (↑(ByteArray.size s) : Int))) (ifK (decide (byteAt s i < (32 : Int))) (Q (Value.bool false) { size := 0, tr := Tr.nil }) (ifK (decide ((0 : Int) ≤ i ∧ i < (↑(ByteArray.size s) : Int))) (ifK (decide ((126 : Int) < byteAt s i)) (Q (Value.bool false) { size := 0, tr := Tr.nil }) (R 0 (some m) [] [Value.string s, vi (↑n : Int), vi (IntKind.wrap IntKind.i64 (i + (1 : Int)))] { size := 0, tr := Tr.nil })) False)) False) (ifK (decide ((0 : Int) ≤ (1 : Int) ∧ (1 : Int) ≤ (↑(ByteArray.size s) : Int) ∧ (↑(ByteArray.size s) : Int) ≤ (↑(ByteArray.size s) : Int))) (ifK (decide (ByteArray.size (ByteArray.extract s (Int.toNat (1 : Int)) (Int.toNat (↑(ByteArray.size s) : Int))) < 4294967281)) (R 1 none [] [Value.slice (some { block := 0, off := 0 }) (List.length (pieces (ByteArray.extract s (Int.toNat (1 : Int)) (Int.toNat (↑(ByteArray.size s) : Int))) (47 : UInt8))) (List.length (pieces (ByteArray.extract s (Int.toNat (1 : Int)) (Int.toNat (↑(ByteArray.size s) : Int))) (47 : UInt8))), vi (↑(List.length (pieces (ByteArray.extract s (Int.toNat (1 : Int)) (Int.toNat (↑(ByteArray.size s) : Int))) (47 : UInt8))) : Int), vi (0 : Int)] { size := 1, tr := Tr.node (some (AObj.cells (List.map (renV [0]) (List.map (upV [0]) (List.map Value.string (pieces (ByteArray.extract s (Int.toNat (1 : Int)) (Int.toNat (↑(ByteArray.size s) : Int))) (47 : UInt8))))) (⟨1, some 9, true⟩ : ET) St.live [])) Tr.nil Tr.nil }) False) False)) := by kernel_rfl
theorem dp1 (m n : Nat) (i : Int) (P : List Value) (R : RFun) (Q : Value → AHeap → Prop) :
   segA dkA dpHint 30 20 8 0 44 dpCuts R dpB dpP2 [] m [32,33,34] [.slice (some ⟨0, 0, none⟩) n n, vi n, vi i] (dH0 P) (endGK dkA [.tmp 2] 0 [[]] Q)
   = (ifK (decide (i < (↑n : Int))) (ifK (decide ((0 : Int) ≤ i ∧ i < (↑n : Int))) (∃ s, LoadIs dkA 9 (Value.pointer (some { block := 0, off := 0 + Int.toNat i * 1 })) { size := 1, tr := Tr.node (some (AObj.cells P (⟨1, some (nat_lit 9), true⟩ : ET) St.live [])) Tr.nil Tr.nil } (Value.string s) ∧ ifK (seq s (⟨#[]⟩ : ByteArray)) (Q (Value.bool false) { size := 0, tr := Tr.nil }) (ifK (seq s (⟨#[(46 : UInt8)]⟩ : ByteArray)) (Q (Value.bool false) { size := 0, tr := Tr.nil }) (ifK (seq s (⟨#[(46 : UInt8), (46 : UInt8)]⟩ : ByteArray)) (Q (Value.bool false) { size := 0, tr := Tr.nil }) (R 1 (some m) [] [Value.slice (some { block := 0, off := 0 }) n n, vi (↑n : Int), vi (IntKind.wrap IntKind.i64 (i + (1 : Int)))] { size := 1, tr := Tr.node (some (AObj.cells (List.map (renV [0]) P) (⟨1, some (nat_lit 9), true⟩ : ET) St.live [])) Tr.nil Tr.nil })))) False) (Q (Value.bool true) { size := 0, tr := Tr.nil })) := by kernel_rfl
noncomputable abbrev drB : Code := bodyOf Tryd.prog 9
def drHint : FuncId → Tmp → Option Hint := fun f t => none
def drP : List Bool := [true, true, true, false, true, false]
def drCuts : Cuts := [(drP, [⟨0, [0,3,4], [], false⟩])]
theorem drS (s : ByteArray) (R : RFun) (Q : Value → AHeap → Prop) :
   startA dkA drHint 30 20 9 0 61 drCuts R drB ([.string s] ++ List.replicate 60 undef) AHeap.empty (endGK dkA [.tmp 2] 0 [[]] Q)
   = (ifK (decide ((255 : Int) < (↑(ByteArray.size s) : Int))) (Q (Value.bool false) { size := 0, tr := Tr.nil }) (ifK (decide ((↑(ByteArray.size s) : Int) < (2 : Int))) (Q (Value.bool false) { size := 0, tr := Tr.nil }) (ifK (decide ((0 : Int) ≤ (0 : Int) ∧ (0 : Int) < (↑(ByteArray.size s) : Int))) (ifK (!decide (byteAt s (0 : Int) = (47 : Int))) (Q (Value.bool false) { size := 0, tr := Tr.nil }) (R 0 none [] [Value.string s, vi (1 : Int), vi (1 : Int)] { size := 0, tr := Tr.nil })) False))) := by kernel_rfl
theorem dr0 (s : ByteArray) (m : Nat) (a i : Int) (R : RFun) (Q : Value → AHeap → Prop) :
   segA dkA drHint 30 20 9 0 61 drCuts R drB drP [] m [0,3,4] [.string s, vi a, vi i] AHeap.empty (endGK dkA [.tmp 2] 0 [[]] Q)
   = (ifK (decide (i ≤ (↑(ByteArray.size s) : Int))) (ifK (decide (i < (↑(ByteArray.size s) : Int))) (ifK (decide ((0 : Int) ≤ i ∧ i < (↑(ByteArray.size s) : Int))) (ifK (!decide (byteAt s i = (47 : Int))) (ifK (decide ((0 : Int) ≤ i ∧ i < (↑(ByteArray.size s) : Int))) (ifK (decide (byteAt s i < (32 : Int))) (Q (Value.bool false) { size := 0, tr := Tr.nil }) (ifK (decide ((0 : Int) ≤ i ∧ i < (↑(ByteArray.size s) : Int))) (ifK (decide ((126 : Int) < byteAt s i)) (Q (Value.bool false) { size := 0, tr := Tr.nil }) (R 0 (some m) [] [Value.string s, vi a, vi (IntKind.wrap IntKind.i64 (i + (1 : Int)))] { size := 0, tr := Tr.nil })) False)) False) (ifK (decide ((0 : Int) ≤ a ∧ a ≤ i ∧ i ≤ (↑(ByteArray.size s) : Int))) (ifK (seq (ByteArray.extract s (Int.toNat a) (Int.toNat i)) (⟨#[]⟩ : ByteArray)) (Q (Value.bool false) { size := 0, tr := Tr.nil }) (ifK (seq (ByteArray.extract s (Int.toNat a) (Int.toNat i)) (⟨#[(46 : UInt8)]⟩ : ByteArray)) (Q (Value.bool false) { size := 0, tr := Tr.nil }) (ifK (seq (ByteArray.extract s (Int.toNat a) (Int.toNat i)) (⟨#[(46 : UInt8), (46 : UInt8)]⟩ : ByteArray)) (Q (Value.bool false) { size := 0, tr := Tr.nil }) (R 0 (some m) [] [Value.string s, vi (IntKind.wrap IntKind.i64 (i + (1 : Int))), vi (IntKind.wrap IntKind.i64 (i + (1 : Int)))] { size := 0, tr := Tr.nil })))) False)) False) (ifK (decide ((0 : Int) ≤ a ∧ a ≤ i ∧ i ≤ (↑(ByteArray.size s) : Int))) (ifK (seq (ByteArray.extract s (Int.toNat a) (Int.toNat i)) (⟨#[]⟩ : ByteArray)) (Q (Value.bool false) { size := 0, tr := Tr.nil }) (ifK (seq (ByteArray.extract s (Int.toNat a) (Int.toNat i)) (⟨#[(46 : UInt8)]⟩ : ByteArray)) (Q (Value.bool false) { size := 0, tr := Tr.nil }) (ifK (seq (ByteArray.extract s (Int.toNat a) (Int.toNat i)) (⟨#[(46 : UInt8), (46 : UInt8)]⟩ : ByteArray)) (Q (Value.bool false) { size := 0, tr := Tr.nil }) (R 0 (some m) [] [Value.string s, vi (IntKind.wrap IntKind.i64 (i + (1 : Int))), vi (IntKind.wrap IntKind.i64 (i + (1 : Int)))] { size := 0, tr := Tr.nil })))) False)) (Q (Value.bool true) { size := 0, tr := Tr.nil })) := by kernel_rfl
end Go.Ev

/- The summaries of disk.Path and of the document's. -/
namespace Go.Ev
open Go Go.Proofs Go.RowKit
set_option linter.unusedVariables false
set_option linter.unusedSimpArgs false
set_option maxRecDepth 100000
set_option maxHeartbeats 4000000
def okC (b : UInt8) : Bool := decide (32 ≤ b.toNat) && decide (b.toNat ≤ 126)
def okL (x : List UInt8) : Bool := !(decide (x = [] ∨ x = [46] ∨ x = [46, 46]))
def pathB (s : ByteArray) : Bool := decide (s.size ≤ 255) && (decide ((tL s).head? = some 47) && ((tL s).all okC && (splitL ((tL s).drop 1)).all okL))
theorem okL_e {x : ByteArray} (h : seq x eB = true) : okL (tL x) = false := by unfold okL; rw [(seq_e x).1 h]; rfl
theorem okL_dot {x : ByteArray} (h : seq x dotB = true) : okL (tL x) = false := by unfold okL; rw [(seq_dot x).1 h]; rfl
theorem okL_dd {x : ByteArray} (h : seq x ddB = true) : okL (tL x) = false := by unfold okL; rw [(seq_dd x).1 h]; rfl
theorem okL_t {x : ByteArray} (h1 : seq x eB = false) (h2 : seq x dotB = false) (h3 : seq x ddB = false) : okL (tL x) = true := by
  unfold okL
  rw [decide_eq_false]
  · rfl
  · rintro (h | h | h)
    · rw [(seq_e x).2 h] at h1; cases h1
    · rw [(seq_dot x).2 h] at h2; cases h2
    · rw [(seq_dd x).2 h] at h3; cases h3
theorem head47 {s : ByteArray} (h : 0 < s.size) : ((tL s).head? = some 47) ↔ byteAt s 0 = 47 := by
  obtain ⟨b, hb, hd⟩ := dropAt (s := s) (i := 0) (by omega)
  rw [List.drop_zero] at hd
  have hb' : byteAt s 0 = b.toNat := hb
  rw [show tL s = b :: (tL s).drop 1 from hd, List.head?_cons, hb']
  constructor
  · intro h; rw [Option.some.inj h]; rfl
  · intro h; rw [(u8_eq (n := 47) (by decide)).1 h]; rfl
theorem ext1 (s : ByteArray) : tL (s.extract 1 s.size) = (tL s).drop 1 := by
  rw [show tL (s.extract 1 s.size) = ((tL s).take s.size).drop 1 from toList_ext s 1 s.size, List.take_of_length_le (by rw [ba_len]; exact Nat.le_refl _)]
theorem pathB_long {s : ByteArray} (h : 255 < s.size) : pathB s = false := by unfold pathB; rw [decide_eq_false (by omega)]; rfl
theorem pathB_head {s : ByteArray} (h : ¬ (tL s).head? = some 47) : pathB s = false := by unfold pathB; rw [decide_eq_false (p := (tL s).head? = some 47) h]; simp
theorem pathB_eq {s : ByteArray} (h : s.size ≤ 255) (h2 : (tL s).head? = some 47) : pathB s = ((tL s).all okC && (splitL ((tL s).drop 1)).all okL) := by unfold pathB; rw [decide_eq_true h, decide_eq_true h2]; rfl
abbrev DQ (s : ByteArray) (v : Value) (H : AHeap) : Prop := v = .bool (pathB s) ∧ H = AHeap.empty
theorem dq_f {s : ByteArray} (h : pathB s = false) : DQ s (.bool false) AHeap.empty := ⟨by rw [h], rfl⟩
theorem dq_t {s : ByteArray} (h : pathB s = true) : DQ s (.bool true) AHeap.empty := ⟨by rw [h], rfl⟩
abbrev dP (s : ByteArray) : List ByteArray := pieces (s.extract 1 s.size) 47
def dpI (s : ByteArray) (id : Nat) (μ : List Nat) (m : Nat) (vs : List Value) (H : AHeap) : Prop :=
  match id with
  | 0 => ∃ i : Nat, vs = [.string s, vi s.size, vi i] ∧ H = AHeap.empty ∧ s.size ≤ 255 ∧ (tL s).head? = some 47 ∧ i ≤ s.size ∧ pathB s = (((tL s).drop i).all okC && (splitL ((tL s).drop 1)).all okL) ∧ m = s.size - i
  | 1 => ∃ i : Nat, vs = [slb 0 (dP s).length, vi (dP s).length, vi i] ∧ H = dH0 ((dP s).map .string) ∧ (dP s).length ≤ 1000 ∧ i ≤ (dP s).length ∧ pathB s = (((dP s).map tL).drop i).all okL ∧ m = (dP s).length - i
  | _ => False
theorem daOne9 : (dkA.ty 9).map (fun i => isAggD i.desc) = some false := by kernel_rfl
theorem u8_lt {b : UInt8} {n : Int} : ((b.toNat : Nat) : Int) < n ↔ ((b.toNat : Nat) : Int) < n := Iff.rfl
theorem dpseg0 {s : ByteArray} (m : Nat) (vs : List Value) (H : AHeap) (hI : dpI s 0 [] m vs H) : Hd (segA dkA dpHint 30 20 8 0 44 dpCuts (ofI (dpI s)) dpB dpP1 [] m [0,15,16] vs H (endGK dkA [.tmp 2] 0 [[]] (DQ s))) := by
  obtain ⟨i, rfl, rfl, hs, hh, hi, hb, rfl⟩ := hI
  have hw1 : IntKind.wrap IntKind.i64 ((i : Int) + 1) = ((i + 1 : Nat) : Int) := by rw [wr_i64]; omega
  constructor
  rw [dp0]
  refine ifK_dec (fun h => ?_) (fun h => ?_)
  · obtain ⟨b, hb2, hd⟩ := dropAt (s := s) (i := i) (by omega)
    rw [show (tL s).drop i = b :: (tL s).drop (i + 1) from hd, List.all_cons] at hb
    rw [hw1, hb2]
    refine ifK_dec (fun _ => ?_) (fun h' => absurd ⟨by omega, h⟩ h')
    refine ifK_dec (fun h1 => dq_f ?_) (fun h1 => ?_)
    · rw [hb]; unfold okC; rw [decide_eq_false (by omega)]; rfl
    refine ifK_dec (fun _ => ?_) (fun h' => absurd ⟨by omega, h⟩ h')
    refine ifK_dec (fun h2 => dq_f ?_) (fun h2 => ?_)
    · rw [hb]; unfold okC; rw [decide_eq_false (p := b.toNat ≤ 126) (by omega)]; simp
    have ok : okC b = true := by unfold okC; rw [decide_eq_true (by omega), decide_eq_true (by omega)]; rfl
    rw [ok, Bool.true_and] at hb
    exact ⟨s.size - (i + 1), by omega, i + 1, rfl, rfl, hs, hh, by omega, hb, rfl⟩
  · have hie : i = s.size := by omega
    have hp : 0 < s.size := by
      have : (tL s) ≠ [] := fun e => by rw [e] at hh; cases hh
      have := List.length_pos_iff.2 this
      rw [ba_len] at this; omega
    rw [hie, List.drop_of_length_le (by rw [ba_len]; exact Nat.le_refl _)] at hb
    have hpl := pieces_le (s.extract 1 s.size) 47
    have hz : (s.extract 1 s.size).size = s.size - 1 := by rw [ByteArray.size_extract]; omega
    have e := pieces_eq (s.extract 1 s.size)
    rw [show (s.extract 1 s.size).data.toList = (tL s).drop 1 from ext1 s] at e
    simp only [Int.toNat_natCast, show Int.toNat (1 : Int) = 1 from rfl, strs_up, strs_ren]
    refine ifK_dec (fun _ => ?_) (fun h' => absurd ⟨by omega, by omega, by omega⟩ h')
    refine ifK_dec (fun _ => ?_) (fun h' => absurd (by omega) h')
    refine ⟨(dP s).length, trivial, 0, rfl, rfl, by show (pieces _ 47).length ≤ _; omega, Nat.zero_le _, ?_, rfl⟩
    rw [List.drop_zero, hb, ← e]; rfl
theorem dpseg1 {s : ByteArray} (m : Nat) (vs : List Value) (H : AHeap) (hI : dpI s 1 [] m vs H) : Hd (segA dkA dpHint 30 20 8 0 44 dpCuts (ofI (dpI s)) dpB dpP2 [] m [32,33,34] vs H (endGK dkA [.tmp 2] 0 [[]] (DQ s))) := by
  obtain ⟨i, rfl, rfl, hl, hi, hb, rfl⟩ := hI
  have hw1 : IntKind.wrap IntKind.i64 ((i : Int) + 1) = ((i + 1 : Nat) : Int) := by rw [wr_i64]; omega
  constructor
  rw [dp1]
  refine ifK_dec (fun h => ?_) (fun h => ?_)
  · have hlt : i < (dP s).length := by omega
    have hp : (dP s)[i]? = some (dP s)[i] := List.getElem?_eq_getElem hlt
    have hd : ((dP s).map tL).drop i = tL (dP s)[i] :: ((dP s).map tL).drop (i + 1) := by
      rw [← List.map_drop, List.drop_eq_getElem_cons hlt, List.map_cons, List.map_drop]
    rw [hd, List.all_cons] at hb
    refine ifK_dec (fun _ => ?_) (fun h' => absurd ⟨by omega, h⟩ h')
    refine ⟨(dP s)[i], ⟨?_⟩, ?_⟩
    · rw [aload_one daOne9 (L := (dP s).map .string) (T := ⟨1, some 9, true⟩) (st := .live) (anc := []) rfl, List.getElem?_map, show 0 + Int.toNat (i : Int) * 1 = i by rw [Int.toNat_natCast]; omega, hp]; rfl
    rw [hw1, strs_ren]
    refine ifKb (fun t1 => dq_f (by rw [hb, okL_e t1]; rfl)) (fun t1 => ?_)
    refine ifKb (fun t2 => dq_f (by rw [hb, okL_dot t2]; rfl)) (fun t2 => ?_)
    refine ifKb (fun t3 => dq_f (by rw [hb, okL_dd t3]; rfl)) (fun t3 => ?_)
    rw [okL_t t1 t2 t3, Bool.true_and] at hb
    exact ⟨(dP s).length - (i + 1), by omega, i + 1, rfl, rfl, hl, by omega, hb, rfl⟩
  · have hie : i = (dP s).length := by omega
    rw [hie, List.drop_of_length_le (by rw [List.length_map]; exact Nat.le_refl _)] at hb
    exact dq_t hb
def dpSpec : List Value → SpR
  | [.string s] => .ret true (.bool (pathB s)) []
  | _ => .fail
theorem ext01 {s : ByteArray} (h : 0 < s.size) : seq (s.extract 0 1) ⟨#[(47 : UInt8)]⟩ = decide (byteAt s 0 = 47) := by
  obtain ⟨b, hb, hd⟩ := dropAt (s := s) (i := 0) (by omega)
  rw [List.drop_zero] at hd
  have hb' : byteAt s 0 = b.toNat := hb
  have e : tL (s.extract 0 1) = [b] := by rw [show tL (s.extract 0 1) = ((tL s).take 1).drop 0 from toList_ext s 0 1, show tL s = b :: (tL s).drop 1 from hd]; rfl
  show ((s.extract 0 1).data.toList == [47]) = _
  rw [show (s.extract 0 1).data.toList = [b] from e, hb']
  by_cases h : b = 47
  · subst h; rfl
  · have : decide ((b.toNat : Int) = 47) = false := decide_eq_false (fun h' => h ((u8_eq (n := 47) (by decide)).1 h'))
    rw [this]
    simpa using h
theorem body8 : Tryd.f8.body = some (bodyOf Tryd.prog 8) := by kernel_rfl
theorem nt8 : Tryd.f8.ntmps = 44 := by kernel_rfl
theorem rs8 : Tryd.f8.results.toList = [.tmp 2] := by kernel_rfl
theorem dr8 : allDraw (dkA.ok 8) (bodyOf Tryd.prog 8) = true := by kernel_rfl
theorem lo8a : loopsOn dpP1 dpB = 0 := by kernel_rfl
theorem lo8b : loopsOn dpP2 dpB = 0 := by kernel_rfl
theorem dp_ok : BSumOk dkA.P 8 (newS dpSpec) := by
  refine sumOk_new Tryd.func8 (by kernel_rfl) (by decide) fun args v os hs w cargs ha => ?_
  unfold dpSpec at hs
  split at hs
  case h_2 => cases hs
  rename_i s
  simp only [SpR.get, Option.some.injEq, Prod.mk.injEq, true_and] at hs
  obtain ⟨rfl, rfl⟩ := hs
  refine (calls_cutsG daT daF daO daM dpHint (f := 8) (k := 30) (n := 20) Tryd.func8 body8 nt8 rs8 dr8 (cuts := dpCuts) (I := dpI s) (rts := [[]]) (Q := DQ s) (args := [.string s]) (Rel.empty w) ha ⟨?_⟩ ⟨⟨?_, trivial⟩, ⟨?_, trivial⟩, trivial⟩).mono ?_
  · show startA dkA dpHint 30 20 8 0 44 dpCuts _ dpB ([.string s] ++ List.replicate 43 undef) AHeap.empty (endGK dkA [.tmp 2] 0 [[]] _)
    rw [dpS]
    have s1 : (⟨#[(47 : UInt8)]⟩ : ByteArray).size = 1 := rfl
    rw [s1]
    refine ifK_dec (fun h => dq_f (pathB_long (by omega))) (fun h => ?_)
    refine ifK_dec (fun h1 => ?_) (fun h1 => ?_)
    · refine ifK_dec (fun _ => ?_) (fun h' => absurd ⟨by omega, by omega, by omega⟩ h')
      rw [show (s.extract (Int.toNat 0) (Int.toNat ((1 : Nat) : Int))) = s.extract 0 1 from rfl, ext01 (by omega)]
      refine ifK_dec (fun h47 => ?_) (fun h47 => ?_)
      · have hh := (head47 (s := s) (by omega)).2 h47
        exact ⟨s.size, trivial, 0, rfl, rfl, by omega, hh, Nat.zero_le _, by rw [List.drop_zero, pathB_eq (by omega) hh], rfl⟩
      · exact dq_f (pathB_head (fun hh => h47 ((head47 (by omega)).1 hh)))
    · refine dq_f (pathB_head (fun hh => ?_))
      have : (tL s) = [] := List.length_eq_zero_iff.1 (by rw [ba_len]; omega)
      rw [this] at hh; cases hh
  · intro ms hms m vs H hi
    obtain rfl := List.eq_nil_of_length_eq_zero (hms.trans lo8a)
    exact dpseg0 m vs H hi
  · intro ms hms m vs H hi
    obtain rfl := List.eq_nil_of_length_eq_zero (hms.trans lo8b)
    exact dpseg1 m vs H hi
  · rintro e w' ⟨v', H', ⟨rfl, rfl⟩, hp⟩
    exact hp
/-! ### The document's -/
def drI (s : ByteArray) (id : Nat) (μ : List Nat) (m : Nat) (vs : List Value) (H : AHeap) : Prop :=
  match id with
  | 0 => ∃ i a : Nat, vs = [.string s, vi a, vi i] ∧ H = AHeap.empty ∧ s.size ≤ 255 ∧ i ≤ s.size + 1 ∧ a ≤ i ∧
      (i ≤ s.size ∧ (∀ k, a ≤ k → k < i → (tL s)[k]? ≠ some 47) ∧ pathB s = (((tL s).drop i).all okC && (splitL ((tL s).drop a)).all okL) ∨ i = s.size + 1 ∧ pathB s = true) ∧ m = s.size + 1 - i
  | _ => False
theorem drseg {s : ByteArray} (m : Nat) (vs : List Value) (H : AHeap) (hI : drI s 0 [] m vs H) : Hd (segA dkA drHint 30 20 9 0 61 drCuts (ofI (drI s)) drB drP [] m [0,3,4] vs H (endGK dkA [.tmp 2] 0 [[]] (DQ s))) := by
  obtain ⟨i, a, rfl, rfl, hs, hi, ha, hc, rfl⟩ := hI
  have hw1 : IntKind.wrap IntKind.i64 ((i : Int) + 1) = ((i + 1 : Nat) : Int) := by rw [wr_i64]; omega
  constructor
  rw [dr0]
  simp only [hw1, Int.toNat_natCast]
  refine ifK_dec (fun h => ?_) (fun h => ?_)
  · rcases hc with ⟨h1, h2, h3⟩ | ⟨h1, _⟩
    case inr => omega
    have part : ∀ (R : List (List UInt8)), splitL ((tL s).drop a) = tL (s.extract a i) :: R → ((tL s).drop i).all okC = ((tL s).drop (i + 1)).all okC →
        (pathB s = (((tL s).drop (i + 1)).all okC && R.all okL) → ofI (drI s) 0 (some (s.size + 1 - i)) [] [.string s, vi (i + 1 : Nat), vi (i + 1 : Nat)] AHeap.empty) →
        ifK (decide ((0 : Int) ≤ (a : Int) ∧ (a : Int) ≤ (i : Int) ∧ (i : Int) ≤ (s.size : Int))) (ifK (seq (s.extract a i) eB) (DQ s (.bool false) AHeap.empty) (ifK (seq (s.extract a i) dotB) (DQ s (.bool false) AHeap.empty) (ifK (seq (s.extract a i) ddB) (DQ s (.bool false) AHeap.empty)
          (ofI (drI s) 0 (some (s.size + 1 - i)) [] [.string s, vi (i + 1 : Nat), vi (i + 1 : Nat)] AHeap.empty)))) False := by
      intro R e1 e2 e3
      rw [e1, e2, List.all_cons] at h3
      refine ifK_dec (fun _ => ?_) (fun h' => absurd ⟨by omega, by omega, by omega⟩ h')
      refine ifKb (fun t1 => dq_f (by rw [h3, okL_e t1]; simp)) (fun t1 => ?_)
      refine ifKb (fun t2 => dq_f (by rw [h3, okL_dot t2]; simp)) (fun t2 => ?_)
      refine ifKb (fun t3 => dq_f (by rw [h3, okL_dd t3]; simp)) (fun t3 => ?_)
      rw [okL_t t1 t2 t3, Bool.true_and] at h3
      exact e3 h3
    refine ifK_dec (fun hlt => ?_) (fun hlt => ?_)
    · obtain ⟨b, hb2, hd⟩ := dropAt (s := s) (i := i) (by omega)
      have hd' : ((tL s).drop i).all okC = (okC b && ((tL s).drop (i + 1)).all okC) := by rw [show (tL s).drop i = b :: (tL s).drop (i + 1) from hd, List.all_cons]
      refine ifK_dec (fun _ => ?_) (fun h' => absurd ⟨by omega, by omega⟩ h')
      refine ifK_nd (fun h47 => ?_) (fun h47 => ?_)
      · have e47 := (byte47 (s := s) (i := i) (by omega)).1 h47
        have eb : b = 47 := (u8_eq (n := 47) (by decide)).1 (by rw [← hb2]; exact h47)
        subst eb
        refine part _ (split_at ha (by omega) e47 h2) (by rw [hd']; rfl) (fun e => ?_)
        exact ⟨s.size + 1 - (i + 1), by omega, i + 1, i + 1, rfl, rfl, hs, by omega, Nat.le_refl _, .inl ⟨by omega, fun k k1 k2 => by omega, e⟩, rfl⟩
      · have n47 : (tL s)[i]? ≠ some 47 := fun h => h47 ((byte47 (s := s) (i := i) (by omega)).2 h)
        rw [hd'] at h3
        rw [hb2]
        refine ifK_dec (fun _ => ?_) (fun h' => absurd ⟨by omega, by omega⟩ h')
        refine ifK_dec (fun h1 => dq_f ?_) (fun h1 => ?_)
        · rw [h3]; unfold okC; rw [decide_eq_false (by omega)]; rfl
        refine ifK_dec (fun _ => ?_) (fun h' => absurd ⟨by omega, by omega⟩ h')
        refine ifK_dec (fun h2 => dq_f ?_) (fun h2' => ?_)
        · rw [h3]; unfold okC; rw [decide_eq_false (p := b.toNat ≤ 126) (by omega)]; simp
        have ok : okC b = true := by unfold okC; rw [decide_eq_true (by omega), decide_eq_true (by omega)]; rfl
        rw [ok, Bool.true_and] at h3
        refine ⟨s.size + 1 - (i + 1), by omega, i + 1, a, rfl, rfl, hs, by omega, by omega, .inl ⟨by omega, fun k k1 k2 => ?_, h3⟩, rfl⟩
        by_cases hk : k = i
        · subst hk; exact n47
        · exact h2 k k1 (by omega)
    · have hie : i = s.size := by omega
      refine part [] (by rw [split_end (fun k k1 k2 => h2 k k1 (by omega)), hie]) (by rw [List.drop_of_length_le (by rw [ba_len]; omega), List.drop_of_length_le (by rw [ba_len]; omega)]) (fun e => ?_)
      rw [List.drop_of_length_le (by rw [ba_len]; omega)] at e
      exact ⟨s.size + 1 - (i + 1), by omega, i + 1, i + 1, rfl, rfl, hs, by omega, Nat.le_refl _, .inr ⟨by omega, e⟩, rfl⟩
  · rcases hc with ⟨h1, _⟩ | ⟨_, h2⟩
    case inl => omega
    exact dq_t h2
theorem body9 : Tryd.f9.body = some (bodyOf Tryd.prog 9) := by kernel_rfl
theorem nt9 : Tryd.f9.ntmps = 61 := by kernel_rfl
theorem rs9 : Tryd.f9.results.toList = [.tmp 2] := by kernel_rfl
theorem dr9 : allDraw (dkA.ok 9) (bodyOf Tryd.prog 9) = true := by kernel_rfl
theorem lo9 : loopsOn drP drB = 0 := by kernel_rfl
theorem dr_ok : BSumOk dkA.P 9 (newS dpSpec) := by
  refine sumOk_new Tryd.func9 (by kernel_rfl) (by decide) fun args v os hs w cargs ha => ?_
  unfold dpSpec at hs
  split at hs
  case h_2 => cases hs
  rename_i s
  simp only [SpR.get, Option.some.injEq, Prod.mk.injEq, true_and] at hs
  obtain ⟨rfl, rfl⟩ := hs
  refine (calls_cutsG daT daF daO daM drHint (f := 9) (k := 30) (n := 20) Tryd.func9 body9 nt9 rs9 dr9 (cuts := drCuts) (I := drI s) (rts := [[]]) (Q := DQ s) (args := [.string s]) (Rel.empty w) ha ⟨?_⟩ ⟨⟨?_, trivial⟩, trivial⟩).mono ?_
  · show startA dkA drHint 30 20 9 0 61 drCuts _ drB ([.string s] ++ List.replicate 60 undef) AHeap.empty (endGK dkA [.tmp 2] 0 [[]] _)
    rw [drS]
    refine ifK_dec (fun h => dq_f (pathB_long (by omega))) (fun h => ?_)
    refine ifK_dec (fun h1 => dq_f ?_) (fun h1 => ?_)
    · by_cases hh : (tL s).head? = some 47
      · rw [pathB_eq (by omega) hh, List.drop_of_length_le (by rw [ba_len]; omega)]
        show ((tL s).all okC && false) = false
        rw [Bool.and_false]
      · exact pathB_head hh
    refine ifK_dec (fun _ => ?_) (fun h' => absurd ⟨by omega, by omega⟩ h')
    refine ifK_nd (fun h47 => ?_) (fun h47 => dq_f (pathB_head (fun hh => h47 ((head47 (by omega)).1 hh))))
    have hh := (head47 (s := s) (by omega)).2 h47
    refine ⟨s.size, trivial, 1, 1, rfl, rfl, by omega, by omega, Nat.le_refl _, .inl ⟨by omega, fun k k1 k2 => by omega, ?_⟩, by omega⟩
    obtain ⟨b, hb2, hd⟩ := dropAt (s := s) (i := 0) (by omega)
    rw [List.drop_zero] at hd
    have eb : b = 47 := by
      rw [show tL s = b :: (tL s).drop 1 from hd, List.head?_cons] at hh
      exact Option.some.inj hh
    have e : (tL s).all okC = ((tL s).drop 1).all okC := by
      conv => lhs; rw [show tL s = b :: (tL s).drop 1 from hd]
      rw [List.all_cons, eb]; rfl
    rw [pathB_eq (by omega) hh, e]
  · intro ms hms m vs H hi
    obtain rfl := List.eq_nil_of_length_eq_zero (hms.trans lo9)
    exact drseg m vs H hi
  · rintro e w' ⟨v', H', ⟨rfl, rfl⟩, hp⟩
    exact hp
noncomputable def dpSumms : List (Nat × BSumm) := (8, newS dpSpec) :: (9, newS dpSpec) :: daSumms
theorem dpSO : BSumsOk Tryd.prog dpSumms := ⟨dp_ok, dr_ok, daSO⟩
noncomputable def dkP : Env := mkEnvB Tryd.prog dkPlans dkExts fun f => look f dpSumms
theorem dpT : dkP.TOk := tOkB_of (by kernel_rfl) dkX
theorem dpF : dkP.FOk dkP.ok := fOkB_of (by kernel_rfl)
theorem dpO : dkP.SOk := sOkB_of dpSO
theorem dpM : dkP.P.follows .mixedOrders = true := by kernel_rfl
end Go.Ev

/- The law DiskPaths: what its ways come to; no condition. -/
namespace Go.Ev
open Go Go.Proofs Go.RowKit
set_option linter.unusedVariables false
set_option maxRecDepth 100000
set_option maxHeartbeats 4000000
noncomputable abbrev dqB : Code := bodyOf Tryd.prog 3
theorem dqS (s : ByteArray) (R : RFun) (Q : Value → Prop) :
   startA dkP (fun _ _ => none) 30 20 3 0 11 [] R dqB ([.string s] ++ List.replicate 10 undef) AHeap.empty (endK dkP [.tmp 2] fun v _ => Q v)
   = (ifK (pathB s == pathB s) (Q (Value.bool true)) (Q (Value.bool false))) := by kernel_rfl
theorem dqStart (s : ByteArray) (R : RFun) : Hd (startA dkP (fun _ _ => none) 30 20 3 0 11 [] R dqB ([.string s] ++ List.replicate 10 undef) AHeap.empty (endK dkP [.tmp 2] fun v _ => v = .bool true)) := by
  constructor
  rw [dqS]
  cases pathB s <;> rfl
end Go.Ev
