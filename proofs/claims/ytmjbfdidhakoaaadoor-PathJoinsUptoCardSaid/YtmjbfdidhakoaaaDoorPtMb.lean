/- path.undo: what its ways come to; no condition. -/
import Derived.Test.YtmjbfdidhakoaaaDoorPtMa
namespace Go.Ev
open Go Go.Proofs Go.RowKit
set_option linter.unusedVariables false
set_option maxRecDepth 100000
set_option maxHeartbeats 4000000
noncomputable abbrev uB : Code := bodyOf Tryd.prog 17
abbrev nl : Value := .slice none 0 0
abbrev slb (b n : Nat) : Value := .slice (some ⟨b, 0, none⟩) n n
def uHint : FuncId → Tmp → Option Hint := fun f t => (look f [(17, [(24, Hint.full), (60, Hint.full)])]).bind (look t)
def uP : List Bool := [true, true, false, true, false]
def uCuts : Cuts := [(uP, [⟨1, [0,4,5], [(4,[])], false⟩, ⟨0, [0,4,5], [], false⟩])]
def uH (B : List Value) : AHeap := { size := 1, tr := .node (some (.cells B ⟨1, some 5, true⟩ .live [])) .nil .nil }
theorem unSt (s : ByteArray) (R : RFun) (Q : Value → AHeap → Prop) :
   startA ptW uHint 30 20 17 0 65 uCuts R uB ([.string s] ++ List.replicate 64 undef) AHeap.empty (endGK ptW [.tmp 2, .tmp 3] 0 [[]] Q)
   = (R 0 none [] [Value.string s, Value.slice none 0 0, vi (0 : Int)] { size := 0, tr := Tr.nil }) := by kernel_rfl
theorem un0 (s : ByteArray) (m : Nat) (i : Int) (R : RFun) (Q : Value → AHeap → Prop) :
   segA ptW uHint 30 20 17 0 65 uCuts R uB uP [] m [0,4,5] [.string s, nl, vi i] AHeap.empty (endGK ptW [.tmp 2, .tmp 3] 0 [[]] Q)
   = (ifK (decide (i < (↑(ByteArray.size s) : Int))) (ifK (decide ((0 : Int) ≤ i ∧ i < (↑(ByteArray.size s) : Int))) (ifK (!decide (byteAt s i = (37 : Int))) (ifK (decide ((0 : Int) ≤ i ∧ i < (↑(ByteArray.size s) : Int))) (R 1 (some m) [] [Value.string s, Value.slice (some { block := 0, off := 0 }) 1 1, vi (IntKind.wrap IntKind.i64 (i + (1 : Int)))] { size := 1, tr := Tr.node (some (AObj.cells [Value.int IntKind.u8 (byteAt s i)] (⟨1, some 5, true⟩ : ET) St.live [])) Tr.nil Tr.nil }) False) (ifK (decide (IntKind.wrap IntKind.i64 ((↑(ByteArray.size s) : Int) - i) < (3 : Int))) (Q (Value.tuple { toList := [Value.string (⟨#[]⟩ : ByteArray), Value.bool false] }) { size := 0, tr := Tr.nil }) (ifK (decide ((0 : Int) ≤ IntKind.wrap IntKind.i64 (i + (1 : Int)) ∧ IntKind.wrap IntKind.i64 (i + (1 : Int)) < (↑(ByteArray.size s) : Int))) (ifK (decide ((0 : Int) ≤ IntKind.wrap IntKind.i64 (i + (2 : Int)) ∧ IntKind.wrap IntKind.i64 (i + (2 : Int)) < (↑(ByteArray.size s) : Int))) (ifK (decide (woth (byteAt s (IntKind.wrap IntKind.i64 (i + (1 : Int)))) < (2 : Int))) (Q (Value.tuple { toList := [Value.string (⟨#[]⟩ : ByteArray), Value.bool false] }) { size := 0, tr := Tr.nil }) (ifK (decide (woth (byteAt s (IntKind.wrap IntKind.i64 (i + (2 : Int)))) < (0 : Int))) (Q (Value.tuple { toList := [Value.string (⟨#[]⟩ : ByteArray), Value.bool false] }) { size := 0, tr := Tr.nil }) (ifK (decide (IntKind.wrap IntKind.u8 (IntKind.wrap IntKind.i64 (↑(BitVec.toNat (BitVec.ofInt (IntKind.bits IntKind.i64) (IntKind.wrap IntKind.i64 (woth (byteAt s (IntKind.wrap IntKind.i64 (i + (1 : Int)))) * (2 : Int) ^ min (Int.toNat (4 : Int)) (IntKind.bits IntKind.i64))) ||| BitVec.ofInt (IntKind.bits IntKind.i64) (woth (byteAt s (IntKind.wrap IntKind.i64 (i + (2 : Int))))))) : Int)) = (127 : Int))) (Q (Value.tuple { toList := [Value.string (⟨#[]⟩ : ByteArray), Value.bool false] }) { size := 0, tr := Tr.nil }) (ifK (decide (IntKind.wrap IntKind.u8 (IntKind.wrap IntKind.i64 (↑(BitVec.toNat (BitVec.ofInt (IntKind.bits IntKind.i64) (IntKind.wrap IntKind.i64 (woth (byteAt s (IntKind.wrap IntKind.i64 (i + (1 : Int)))) * (2 : Int) ^ min (Int.toNat (4 : Int)) (IntKind.bits IntKind.i64))) ||| BitVec.ofInt (IntKind.bits IntKind.i64) (woth (byteAt s (IntKind.wrap IntKind.i64 (i + (2 : Int))))))) : Int)) = (47 : Int))) (Q (Value.tuple { toList := [Value.string (⟨#[]⟩ : ByteArray), Value.bool false] }) { size := 0, tr := Tr.nil }) (R 1 (some m) [] [Value.string s, Value.slice (some { block := 0, off := 0 }) 1 1, vi (IntKind.wrap IntKind.i64 (IntKind.wrap IntKind.i64 (i + (2 : Int)) + (1 : Int)))] { size := 1, tr := Tr.node (some (AObj.cells [Value.int IntKind.u8 (IntKind.wrap IntKind.u8 (IntKind.wrap IntKind.i64 (↑(BitVec.toNat (BitVec.ofInt (IntKind.bits IntKind.i64) (IntKind.wrap IntKind.i64 (woth (byteAt s (IntKind.wrap IntKind.i64 (i + (1 : Int)))) * (2 : Int) ^ min (Int.toNat (4 : Int)) (IntKind.bits IntKind.i64))) ||| BitVec.ofInt (IntKind.bits IntKind.i64) (woth (byteAt s (IntKind.wrap IntKind.i64 (i + (2 : Int))))))) : Int)))] (⟨1, some 5, true⟩ : ET) St.live [])) Tr.nil Tr.nil }))))) False) False))) False) (Q (Value.tuple { toList := [Value.string (⟨⟨[]⟩⟩ : ByteArray), Value.bool true] }) { size := 0, tr := Tr.nil })) := by kernel_rfl
theorem un1 (s : ByteArray) (m n : Nat) (i : Int) (B : List Value) (R : RFun) (Q : Value → AHeap → Prop) :
   segA ptW uHint 30 20 17 0 65 uCuts R uB uP [] m [0,4,5] [.string s, slb 0 n, vi i] (uH B) (endGK ptW [.tmp 2, .tmp 3] 0 [[]] Q)
   = (ifK (decide (i < (↑(ByteArray.size s) : Int))) (ifK (decide ((0 : Int) ≤ i ∧ i < (↑(ByteArray.size s) : Int))) (ifK (!decide (byteAt s i = (37 : Int))) (ifK (decide ((0 : Int) ≤ i ∧ i < (↑(ByteArray.size s) : Int))) (ifK (n == n) (ifK (decide (0 + n * 1 = List.length B ∧ n ≤ n ∧ (n + 1) * 1 ≤ 140737488355328 ∧ n + 1 < 4611686018427387904)) (R 1 (some m) [] [Value.string s, Value.slice (some { block := 0, off := 0 }) (n + 1) (n + 1), vi (IntKind.wrap IntKind.i64 (i + (1 : Int)))] { size := 1, tr := Tr.node (some (AObj.cells (List.map (renV [2]) (List.take (n * 1) (List.drop 0 B) ++ [Value.int IntKind.u8 (byteAt s i)])) (⟨1, some 5, true⟩ : ET) St.live [])) Tr.nil Tr.nil }) False) False) False) (ifK (decide (IntKind.wrap IntKind.i64 ((↑(ByteArray.size s) : Int) - i) < (3 : Int))) (Q (Value.tuple { toList := [Value.string (⟨#[]⟩ : ByteArray), Value.bool false] }) { size := 0, tr := Tr.nil }) (ifK (decide ((0 : Int) ≤ IntKind.wrap IntKind.i64 (i + (1 : Int)) ∧ IntKind.wrap IntKind.i64 (i + (1 : Int)) < (↑(ByteArray.size s) : Int))) (ifK (decide ((0 : Int) ≤ IntKind.wrap IntKind.i64 (i + (2 : Int)) ∧ IntKind.wrap IntKind.i64 (i + (2 : Int)) < (↑(ByteArray.size s) : Int))) (ifK (decide (woth (byteAt s (IntKind.wrap IntKind.i64 (i + (1 : Int)))) < (2 : Int))) (Q (Value.tuple { toList := [Value.string (⟨#[]⟩ : ByteArray), Value.bool false] }) { size := 0, tr := Tr.nil }) (ifK (decide (woth (byteAt s (IntKind.wrap IntKind.i64 (i + (2 : Int)))) < (0 : Int))) (Q (Value.tuple { toList := [Value.string (⟨#[]⟩ : ByteArray), Value.bool false] }) { size := 0, tr := Tr.nil }) (ifK (decide (IntKind.wrap IntKind.u8 (IntKind.wrap IntKind.i64 (↑(BitVec.toNat (BitVec.ofInt (IntKind.bits IntKind.i64) (IntKind.wrap IntKind.i64 (woth (byteAt s (IntKind.wrap IntKind.i64 (i + (1 : Int)))) * (2 : Int) ^ min (Int.toNat (4 : Int)) (IntKind.bits IntKind.i64))) ||| BitVec.ofInt (IntKind.bits IntKind.i64) (woth (byteAt s (IntKind.wrap IntKind.i64 (i + (2 : Int))))))) : Int)) = (127 : Int))) (Q (Value.tuple { toList := [Value.string (⟨#[]⟩ : ByteArray), Value.bool false] }) { size := 0, tr := Tr.nil }) (ifK (decide (IntKind.wrap IntKind.u8 (IntKind.wrap IntKind.i64 (↑(BitVec.toNat (BitVec.ofInt (IntKind.bits IntKind.i64) (IntKind.wrap IntKind.i64 (woth (byteAt s (IntKind.wrap IntKind.i64 (i + (1 : Int)))) * (2 : Int) ^ min (Int.toNat (4 : Int)) (IntKind.bits IntKind.i64))) ||| BitVec.ofInt (IntKind.bits IntKind.i64) (woth (byteAt s (IntKind.wrap IntKind.i64 (i + (2 : Int))))))) : Int)) = (47 : Int))) (Q (Value.tuple { toList := [Value.string (⟨#[]⟩ : ByteArray), Value.bool false] }) { size := 0, tr := Tr.nil }) (ifK (n == n) (ifK (decide (0 + n * 1 = List.length B ∧ n ≤ n ∧ (n + 1) * 1 ≤ 140737488355328 ∧ n + 1 < 4611686018427387904)) (R 1 (some m) [] [Value.string s, Value.slice (some { block := 0, off := 0 }) (n + 1) (n + 1), vi (IntKind.wrap IntKind.i64 (IntKind.wrap IntKind.i64 (i + (2 : Int)) + (1 : Int)))] { size := 1, tr := Tr.node (some (AObj.cells (List.map (renV [2]) (List.take (n * 1) (List.drop 0 B) ++ [Value.int IntKind.u8 (IntKind.wrap IntKind.u8 (IntKind.wrap IntKind.i64 (↑(BitVec.toNat (BitVec.ofInt (IntKind.bits IntKind.i64) (IntKind.wrap IntKind.i64 (woth (byteAt s (IntKind.wrap IntKind.i64 (i + (1 : Int)))) * (2 : Int) ^ min (Int.toNat (4 : Int)) (IntKind.bits IntKind.i64))) ||| BitVec.ofInt (IntKind.bits IntKind.i64) (woth (byteAt s (IntKind.wrap IntKind.i64 (i + (2 : Int))))))) : Int)))])) (⟨1, some 5, true⟩ : ET) St.live [])) Tr.nil Tr.nil }) False) False))))) False) False))) False) (ifK (decide (0 + n ≤ List.length B) && u8s (List.take n (List.drop 0 B))) (Q (Value.tuple { toList := [Value.string (⟨⟨bytesFrom (List.take n (List.drop 0 B))⟩⟩ : ByteArray), Value.bool true] }) { size := 0, tr := Tr.nil }) False)) := by kernel_rfl
end Go.Ev

/- The summary of path.undo. -/
namespace Go.Ev
open Go Go.Proofs Go.RowKit
set_option linter.unusedVariables false
set_option linter.unusedSimpArgs false
set_option maxRecDepth 100000
set_option maxHeartbeats 4000000
theorem ifK_nd {p : Prop} [Decidable p] {a b : Prop} (h1 : p → b) (h2 : ¬p → a) : ifK (!decide p) a b := by
  by_cases h : p
  · rw [decide_eq_true h]; exact h1 h
  · rw [decide_eq_false h]; exact h2 h
def hexR (x y : Int) : Int := IntKind.wrap IntKind.u8 (IntKind.wrap IntKind.i64 (↑(BitVec.toNat (BitVec.ofInt (IntKind.bits IntKind.i64) (IntKind.wrap IntKind.i64 (x * (2 : Int) ^ min (Int.toNat (4 : Int)) (IntKind.bits IntKind.i64))) ||| BitVec.ofInt (IntKind.bits IntKind.i64) y)) : Int))
theorem hexR_bd (x y : Int) : 0 ≤ hexR x y ∧ hexR x y < 256 := by unfold hexR; rw [wr_u8]; omega
def hexC (h o : UInt8) : UInt8 := UInt8.ofNat (hexR (woth h.toNat) (woth o.toNat)).toNat
theorem hexC_nat (h o : UInt8) : ((hexC h o).toNat : Int) = hexR (woth h.toNat) (woth o.toNat) := by
  have := hexR_bd (woth h.toNat) (woth o.toNat)
  unfold hexC
  rw [UInt8.toNat_ofNat']
  omega
theorem u8_eq {a : UInt8} {n : Nat} (hn : n < 256) : (a.toNat : Int) = n ↔ a = UInt8.ofNat n := by
  constructor
  · intro h
    apply UInt8.toNat_inj.1
    rw [UInt8.toNat_ofNat']
    omega
  · rintro rfl
    rw [UInt8.toNat_ofNat']
    omega
def unGo : List UInt8 → List UInt8 → Option (List UInt8)
  | [], out => some out
  | b :: l, out =>
    if b = 37 then
      match l with
      | h :: o :: l' => if woth h.toNat < 2 ∨ woth o.toNat < 0 ∨ hexC h o = 127 ∨ hexC h o = 47 then none else unGo l' (out ++ [hexC h o])
      | _ => none
    else unGo l (out ++ [b])
theorem unGo_nil (out : List UInt8) : unGo [] out = some out := by rw [unGo]
theorem unGo_b {b : UInt8} (hb : b ≠ 37) (l out : List UInt8) : unGo (b :: l) out = unGo l (out ++ [b]) := by rw [unGo.eq_def]; simp only; rw [if_neg hb]
theorem unGo_short {l : List UInt8} (h : l.length < 2) (out : List UInt8) : unGo (37 :: l) out = none := by
  rw [unGo.eq_def]; simp only
  rw [if_pos trivial]
  match l, h with
  | [], _ => rfl
  | [a], _ => rfl
theorem unGo_bad {h o : UInt8} (hh : woth h.toNat < 2 ∨ woth o.toNat < 0 ∨ hexC h o = 127 ∨ hexC h o = 47) (l out : List UInt8) : unGo (37 :: h :: o :: l) out = none := by
  rw [unGo.eq_def]; simp only
  rw [if_pos trivial, if_pos hh]
theorem unGo_hex {h o : UInt8} (hh : ¬ (woth h.toNat < 2 ∨ woth o.toNat < 0 ∨ hexC h o = 127 ∨ hexC h o = 47)) (l out : List UInt8) : unGo (37 :: h :: o :: l) out = unGo l (out ++ [hexC h o]) := by
  rw [unGo.eq_def]; simp only
  rw [if_pos trivial, if_neg hh]
def undoF (s : ByteArray) : Option (List UInt8) := unGo s.data.toList []
def unOk (s : ByteArray) : Bool := (undoF s).isSome
def unO (s : ByteArray) : ByteArray := ⟨⟨(undoF s).getD []⟩⟩
def unS (s : ByteArray) (b : Bool) : SpR := .br (unOk s) (.ret b (.tuple #[.string (unO s), .bool true]) []) (.ret b (.tuple #[.string ⟨#[]⟩, .bool false]) [])
abbrev UQ (s : ByteArray) (v : Value) (H : AHeap) : Prop := ∃ os, (unS s true).get = some (true, v, os) ∧ H = pushes AHeap.empty os
theorem uq_some {s : ByteArray} {B : List UInt8} (h : undoF s = some B) : UQ s (.tuple #[.string ⟨⟨B⟩⟩, .bool true]) AHeap.empty := by
  refine ⟨[], ?_, rfl⟩
  unfold unS unOk unO
  simp only [SpR.get]
  rw [h]; rfl
theorem uq_none {s : ByteArray} (h : undoF s = none) : UQ s (.tuple #[.string ⟨#[]⟩, .bool false]) AHeap.empty := by
  refine ⟨[], ?_, rfl⟩
  unfold unS unOk unO
  simp only [SpR.get]
  rw [h]; rfl
def uI (s : ByteArray) (id : Nat) (μ : List Nat) (m : Nat) (vs : List Value) (H : AHeap) : Prop :=
  match id with
  | 0 => vs = [.string s, nl, vi 0] ∧ H = AHeap.empty ∧ m = s.size
  | 1 => ∃ (i : Nat) (B : List UInt8), vs = [.string s, slb 0 B.length, vi i] ∧ H = uH (bcells B) ∧ i ≤ s.size ∧ B.length ≤ i ∧ unGo (s.data.toList.drop i) B = undoF s ∧ m = s.size - i
  | _ => False
abbrev uSeg (s : ByteArray) (m : Nat) (vs : List Value) (H : AHeap) : Prop := segA ptW uHint 30 20 17 0 65 uCuts (ofI (uI s)) uB uP [] m [0,4,5] vs H (endGK ptW [.tmp 2, .tmp 3] 0 [[]] (UQ s))
theorem dropAt {s : ByteArray} {i : Nat} (h : i < s.size) : ∃ b : UInt8, byteAt s (i : Int) = b.toNat ∧ s.data.toList.drop i = b :: s.data.toList.drop (i + 1) := by
  obtain ⟨b, h1, h2⟩ := list_byte h
  refine ⟨b, h2, ?_⟩
  have hl : i < s.data.toList.length := by rw [ba_len]; exact h
  rw [List.drop_eq_getElem_cons hl]
  rw [List.getElem?_eq_getElem hl] at h1
  rw [Option.some.inj h1]
theorem hexR_def (x y : Int) : IntKind.wrap IntKind.u8 (IntKind.wrap IntKind.i64 (↑(BitVec.toNat (BitVec.ofInt (IntKind.bits IntKind.i64) (IntKind.wrap IntKind.i64 (x * (2 : Int) ^ min (Int.toNat (4 : Int)) (IntKind.bits IntKind.i64))) ||| BitVec.ofInt (IntKind.bits IntKind.i64) y)) : Int)) = hexR x y := rfl
theorem useg1 {s : ByteArray} (hs : s.size ≤ 1000000000000) (m : Nat) (vs : List Value) (H : AHeap) (hI : uI s 1 [] m vs H) : Hd (uSeg s m vs H) := by
  obtain ⟨i, B, rfl, rfl, hi, hB, hgo, rfl⟩ := hI
  have hbl : (bcells B).length = B.length := List.length_map _
  have ht : List.take (B.length * 1) (List.drop 0 (bcells B)) = bcells B := by rw [List.drop_zero, List.take_of_length_le (by omega)]
  have ht1 : List.take B.length (List.drop 0 (bcells B)) = bcells B := by rw [List.drop_zero, List.take_of_length_le (by omega)]
  constructor
  unfold uSeg
  rw [un1]
  refine ifK_dec (fun h => ?_) (fun h => ?_)
  · obtain ⟨b, hb, hd⟩ := dropAt (s := s) (i := i) (by omega)
    rw [hd] at hgo
    have hw1 : IntKind.wrap IntKind.i64 ((i : Int) + 1) = ((i + 1 : Nat) : Int) := by rw [wr_i64]; omega
    have hw2 : IntKind.wrap IntKind.i64 ((i : Int) + 2) = ((i + 2 : Nat) : Int) := by rw [wr_i64]; omega
    have hw3 : IntKind.wrap IntKind.i64 (((i + 2 : Nat) : Int) + 1) = ((i + 3 : Nat) : Int) := by rw [wr_i64]; omega
    have hw4 : IntKind.wrap IntKind.i64 ((s.size : Int) - i) = (s.size : Int) - i := by rw [wr_i64]; omega
    simp only [hb, hw1, hw2, hw3, hw4, ht, hexR_def]
    refine ifK_dec (fun _ => ?_) (fun h' => absurd ⟨by omega, h⟩ h')
    refine ifK_nd (fun h37 => ?_) (fun h37 => ?_)
    · have e37 : b = 37 := (u8_eq (n := 37) (by decide)).1 h37
      subst e37
      refine ifK_dec (fun h3 => ?_) (fun h3 => ?_)
      · refine uq_none ?_
        rw [← hgo, unGo_short]
        rw [List.length_drop, ba_len]; omega
      · obtain ⟨x, hx, hdx⟩ := dropAt (s := s) (i := i + 1) (by omega)
        obtain ⟨y, hy, hdy⟩ := dropAt (s := s) (i := i + 2) (by omega)
        rw [hdx, hdy] at hgo
        simp only [hx, hy, ← hexC_nat]
        refine ifK_dec (fun _ => ?_) (fun h' => absurd ⟨by omega, by omega⟩ h')
        refine ifK_dec (fun _ => ?_) (fun h' => absurd ⟨by omega, by omega⟩ h')
        refine ifK_dec (fun q1 => uq_none (by rw [← hgo, unGo_bad (.inl q1)])) (fun q1 => ?_)
        refine ifK_dec (fun q2 => uq_none (by rw [← hgo, unGo_bad (.inr (.inl q2))])) (fun q2 => ?_)
        refine ifK_dec (fun q3 => uq_none (by rw [← hgo, unGo_bad (.inr (.inr (.inl ((u8_eq (n := 127) (by decide)).1 q3))))])) (fun q3 => ?_)
        refine ifK_dec (fun q4 => uq_none (by rw [← hgo, unGo_bad (.inr (.inr (.inr ((u8_eq (n := 47) (by decide)).1 q4))))])) (fun q4 => ?_)
        rw [unGo_hex (fun hh => by
          rcases hh with hh | hh | hh | hh
          · exact q1 hh
          · exact q2 hh
          · exact q3 ((u8_eq (n := 127) (by decide)).2 hh)
          · exact q4 ((u8_eq (n := 47) (by decide)).2 hh))] at hgo
        refine ifK_t (by simp) ?_
        refine ifK_dec (fun _ => ?_) (fun h' => absurd ⟨by omega, by omega, by omega, by omega⟩ h')
        refine ⟨s.size - (i + 3), by omega, i + 3, B ++ [hexC x y], ?_, ?_, by omega, by simp; omega, hgo, rfl⟩
        · rw [List.length_append]; rfl
        · have e : bcells B ++ [Value.int .u8 (hexC x y).toNat] = bcells (B ++ [hexC x y]) := by unfold bcells; rw [List.map_append]; rfl
          exact congrArg uH ((congrArg (List.map (renV [2])) e).trans (bcells_ren _ _))
    · have e37 : b ≠ 37 := fun h => h37 ((u8_eq (n := 37) (by decide)).2 h)
      rw [unGo_b e37] at hgo
      refine ifK_dec (fun _ => ?_) (fun h' => absurd ⟨by omega, h⟩ h')
      refine ifK_t (by simp) ?_
      refine ifK_dec (fun _ => ?_) (fun h' => absurd ⟨by omega, by omega, by omega, by omega⟩ h')
      refine ⟨s.size - (i + 1), by omega, i + 1, B ++ [b], ?_, ?_, by omega, by simp; omega, hgo, rfl⟩
      · rw [List.length_append]; rfl
      · have e : bcells B ++ [Value.int .u8 b.toNat] = bcells (B ++ [b]) := by unfold bcells; rw [List.map_append]; rfl
        exact congrArg uH ((congrArg (List.map (renV [2])) e).trans (bcells_ren _ _))
  · have hie : i = s.size := by omega
    rw [ht1, u8s_map, bytesFrom_map]
    refine ifK_t (by rw [Bool.and_true]; exact decide_eq_true (by omega)) ?_
    refine uq_some ?_
    rw [← hgo, hie, List.drop_of_length_le (by rw [ba_len]; exact Nat.le_refl _), unGo_nil]
theorem useg0 {s : ByteArray} (hs : s.size ≤ 1000000000000) (m : Nat) (vs : List Value) (H : AHeap) (hI : uI s 0 [] m vs H) : Hd (uSeg s m vs H) := by
  obtain ⟨rfl, rfl, rfl⟩ := hI
  have hgo : unGo (s.data.toList.drop 0) [] = undoF s := rfl
  constructor
  unfold uSeg
  rw [un0]
  refine ifK_dec (fun h => ?_) (fun h => ?_)
  · obtain ⟨b, hb, hd⟩ := dropAt (s := s) (i := 0) (by omega)
    rw [hd] at hgo
    have hw1 : IntKind.wrap IntKind.i64 ((0 : Int) + 1) = ((0 + 1 : Nat) : Int) := by decide
    have hw2 : IntKind.wrap IntKind.i64 ((0 : Int) + 2) = ((0 + 2 : Nat) : Int) := by decide
    have hw3 : IntKind.wrap IntKind.i64 (((0 + 2 : Nat) : Int) + 1) = ((0 + 3 : Nat) : Int) := by decide
    have hw4 : IntKind.wrap IntKind.i64 ((s.size : Int) - 0) = (s.size : Int) := by rw [wr_i64]; omega
    have hb' : byteAt s 0 = b.toNat := hb
    simp only [hb', hw1, hw2, hw3, hw4, hexR_def]
    refine ifK_dec (fun _ => ?_) (fun h' => absurd ⟨by omega, h⟩ h')
    refine ifK_nd (fun h37 => ?_) (fun h37 => ?_)
    · have e37 : b = 37 := (u8_eq (n := 37) (by decide)).1 h37
      subst e37
      refine ifK_dec (fun h3 => ?_) (fun h3 => ?_)
      · refine uq_none ?_
        rw [← hgo, unGo_short]
        rw [List.length_drop, ba_len]; omega
      · obtain ⟨x, hx, hdx⟩ := dropAt (s := s) (i := 0 + 1) (by omega)
        obtain ⟨y, hy, hdy⟩ := dropAt (s := s) (i := 0 + 2) (by omega)
        rw [hdx, hdy] at hgo
        simp only [hx, hy, ← hexC_nat]
        refine ifK_dec (fun _ => ?_) (fun h' => absurd ⟨by omega, by omega⟩ h')
        refine ifK_dec (fun _ => ?_) (fun h' => absurd ⟨by omega, by omega⟩ h')
        refine ifK_dec (fun q1 => uq_none (by rw [← hgo, unGo_bad (.inl q1)])) (fun q1 => ?_)
        refine ifK_dec (fun q2 => uq_none (by rw [← hgo, unGo_bad (.inr (.inl q2))])) (fun q2 => ?_)
        refine ifK_dec (fun q3 => uq_none (by rw [← hgo, unGo_bad (.inr (.inr (.inl ((u8_eq (n := 127) (by decide)).1 q3))))])) (fun q3 => ?_)
        refine ifK_dec (fun q4 => uq_none (by rw [← hgo, unGo_bad (.inr (.inr (.inr ((u8_eq (n := 47) (by decide)).1 q4))))])) (fun q4 => ?_)
        rw [unGo_hex (fun hh => by
          rcases hh with hh | hh | hh | hh
          · exact q1 hh
          · exact q2 hh
          · exact q3 ((u8_eq (n := 127) (by decide)).2 hh)
          · exact q4 ((u8_eq (n := 47) (by decide)).2 hh))] at hgo
        exact ⟨s.size - 3, by omega, 3, [hexC x y], rfl, rfl, by omega, by simp, hgo, rfl⟩
    · have e37 : b ≠ 37 := fun h => h37 ((u8_eq (n := 37) (by decide)).2 h)
      rw [unGo_b e37] at hgo
      refine ifK_dec (fun _ => ?_) (fun h' => absurd ⟨by omega, h⟩ h')
      exact ⟨s.size - 1, by omega, 1, [b], rfl, rfl, by omega, by simp, hgo, rfl⟩
  · refine uq_some ?_
    have : s.data.toList = [] := List.length_eq_zero_iff.1 (by rw [ba_len]; omega)
    rw [← hgo, List.drop_zero, this, unGo_nil]
theorem body17 : Tryd.f17.body = some (bodyOf Tryd.prog 17) := by kernel_rfl
theorem nt17 : Tryd.f17.ntmps = 65 := by kernel_rfl
theorem rs17 : Tryd.f17.results.toList = [.tmp 2, .tmp 3] := by kernel_rfl
theorem dr17 : allDraw (ptW.ok 17) (bodyOf Tryd.prog 17) = true := by kernel_rfl
theorem lo17 : loopsOn uP uB = 0 := by kernel_rfl
def unSpec : List Value → SpR
  | [.string s] => unS s (decide (s.size ≤ 1000000000000))
  | _ => .fail
theorem unS_true {s : ByteArray} {b : Bool} {v : Value} {os : List AObj} (h : (unS s b).get = some (true, v, os)) : b = true := by
  unfold unS at h
  simp only [SpR.get] at h
  cases hb : unOk s <;> simp [hb] at h <;> exact h.1
theorem un_ok : BSumOk ptW.P 17 (newS unSpec) := by
  refine sumOk_new Tryd.func17 (by kernel_rfl) (by decide) fun args v os hs w cargs ha => ?_
  unfold unSpec at hs
  split at hs
  case h_2 => cases hs
  rename_i s
  have hb := unS_true hs
  have hsz := of_decide_eq_true hb
  rw [hb] at hs
  refine (calls_cutsG pwT pwF pwO pwM uHint (f := 17) (k := 30) (n := 20) Tryd.func17 body17 nt17 rs17 dr17 (cuts := uCuts) (I := uI s) (rts := [[]]) (Q := UQ s) (args := [.string s]) (Rel.empty w) ha ⟨?_⟩ ⟨⟨?_, ?_, trivial⟩, trivial⟩).mono ?_
  · show startA ptW uHint 30 20 17 0 65 uCuts _ uB ([.string s] ++ List.replicate 64 undef) AHeap.empty (endGK ptW [.tmp 2, .tmp 3] 0 [[]] _)
    rw [unSt]
    exact ⟨s.size, trivial, rfl, rfl, rfl⟩
  · intro ms hms m vs H hi
    obtain rfl := List.eq_nil_of_length_eq_zero (hms.trans lo17)
    exact useg1 hsz m vs H hi
  · intro ms hms m vs H hi
    obtain rfl := List.eq_nil_of_length_eq_zero (hms.trans lo17)
    exact useg0 hsz m vs H hi
  · rintro e w' ⟨v', H', ⟨os', h1, rfl⟩, hp⟩
    rw [h1] at hs
    simp only [Option.some.injEq, Prod.mk.injEq, true_and] at hs
    obtain ⟨rfl, rfl⟩ := hs
    exact hp
end Go.Ev
