/- Numbers of four bytes, and of three: what the functions come to; no condition. -/
import Derived.Test.YtjhidbadbdhcmaaFrNum
import Derived.Test.YtjhidbadbdhcmaaEvSf
namespace Go.Ev
open Go Go.Proofs Go.RowKit
set_option linter.unusedVariables false
set_option maxRecDepth 100000
theorem bigR (s : ByteArray) (K : Value → Prop) :
   evalK frE noHint 30 31 [.string s] AHeap.empty (fun v _ => K v)
   = (ifK (decide ((0 : Int) ≤ (0 : Int) ∧ (0 : Int) < ↑(ByteArray.size s))) (ifK (decide ((0 : Int) ≤ (1 : Int) ∧ (1 : Int) < ↑(ByteArray.size s))) (ifK (decide ((0 : Int) ≤ (2 : Int) ∧ (2 : Int) < ↑(ByteArray.size s))) (ifK (decide ((0 : Int) ≤ (3 : Int) ∧ (3 : Int) < ↑(ByteArray.size s))) (K (Value.int IntKind.i64 (IntKind.wrap IntKind.i64 ↑(BitVec.toNat (BitVec.ofInt (IntKind.bits IntKind.i64) (IntKind.wrap IntKind.i64 ↑(BitVec.toNat (BitVec.ofInt (IntKind.bits IntKind.i64) (IntKind.wrap IntKind.i64 ↑(BitVec.toNat (BitVec.ofInt (IntKind.bits IntKind.i64) (IntKind.wrap IntKind.i64 (IntKind.wrap IntKind.i64 (byteAt s (0 : Int)) * (2 : Int) ^ min (Int.toNat (24 : Int)) (IntKind.bits IntKind.i64))) ||| BitVec.ofInt (IntKind.bits IntKind.i64) (IntKind.wrap IntKind.i64 (IntKind.wrap IntKind.i64 (byteAt s (1 : Int)) * (2 : Int) ^ min (Int.toNat (16 : Int)) (IntKind.bits IntKind.i64)))))) ||| BitVec.ofInt (IntKind.bits IntKind.i64) (IntKind.wrap IntKind.i64 (IntKind.wrap IntKind.i64 (byteAt s (2 : Int)) * (2 : Int) ^ min (Int.toNat (8 : Int)) (IntKind.bits IntKind.i64)))))) ||| BitVec.ofInt (IntKind.bits IntKind.i64) (IntKind.wrap IntKind.i64 (byteAt s (3 : Int)))))))) False) False) False) False) := by kernel_rfl
def big4 (s : ByteArray) : Int := byteAt s 0 * 16777216 + byteAt s 1 * 65536 + byteAt s 2 * 256 + byteAt s 3
def big3 (s : ByteArray) : Int := byteAt s 0 * 65536 + byteAt s 1 * 256 + byteAt s 2
theorem big4_bd (s : ByteArray) : 0 ≤ big4 s ∧ big4 s < 4294967296 := by
  have h0 := byteAt_bd s 0; have h1 := byteAt_bd s 1; have h2 := byteAt_bd s 2; have h3 := byteAt_bd s 3
  unfold big4; omega
theorem big3_bd (s : ByteArray) : 0 ≤ big3 s ∧ big3 s < 16777216 := by
  have h0 := byteAt_bd s 0; have h1 := byteAt_bd s 1; have h2 := byteAt_bd s 2
  unfold big3; omega
theorem p24 : (2 : Int) ^ min (Int.toNat 24) (IntKind.bits IntKind.i64) = 16777216 := by decide
theorem p16 : (2 : Int) ^ min (Int.toNat 16) (IntKind.bits IntKind.i64) = 65536 := by decide
theorem p8 : (2 : Int) ^ min (Int.toNat 8) (IntKind.bits IntKind.i64) = 256 := by decide
theorem numGo_cons {b : UInt8} {l : List UInt8} {n : Int} (h0 : 0 ≤ n) (h1 : n ≤ 4294967296) : numGo (b :: l) n = numGo l (256 * n + (b.toNat : Int)) := by
  have g := b.toNat_lt
  show numGo l (IntKind.wrap .i64 (IntKind.wrap .i64 (256 * n) + IntKind.wrap .i64 (b.toNat : Int))) = _
  rw [wr_small (x := 256 * n) (by omega) (by omega), wr_small (x := (b.toNat : Int)) (by omega) (by omega), wr_small (by omega) (by omega)]
theorem num3 {s : ByteArray} (h : s.size = 3) : numF s = big3 s := by
  obtain ⟨b0, e0, f0⟩ := list_byte (s := s) (i := 0) (by omega)
  obtain ⟨b1, e1, f1⟩ := list_byte (s := s) (i := 1) (by omega)
  obtain ⟨b2, e2, f2⟩ := list_byte (s := s) (i := 2) (by omega)
  have hl : s.data.toList = [b0, b1, b2] := by
    apply List.ext_getElem?
    intro i
    by_cases hi : i < 3
    · obtain rfl | rfl | rfl : i = 0 ∨ i = 1 ∨ i = 2 := by omega
      · exact e0
      · exact e1
      · exact e2
    · rw [List.getElem?_eq_none (by rw [Array.length_toList]; have : s.data.size = 3 := h; omega), List.getElem?_eq_none (by simp; omega)]
  have g0 := b0.toNat_lt; have g1 := b1.toNat_lt; have g2 := b2.toNat_lt
  unfold numF big3
  rw [hl, numGo_cons (by omega) (by omega), numGo_cons (by omega) (by omega), numGo_cons (by omega) (by omega)]
  have f0' : byteAt s 0 = b0.toNat := f0
  have f1' : byteAt s 1 = b1.toNat := f1
  have f2' : byteAt s 2 = b2.toNat := f2
  rw [f0', f1', f2']
  show 256 * (256 * (256 * 0 + (b0.toNat : Int)) + b1.toNat) + b2.toNat = _
  omega
theorem num4 {s : ByteArray} (h : s.size = 4) : numF s = big4 s := by
  obtain ⟨b0, e0, f0⟩ := list_byte (s := s) (i := 0) (by omega)
  obtain ⟨b1, e1, f1⟩ := list_byte (s := s) (i := 1) (by omega)
  obtain ⟨b2, e2, f2⟩ := list_byte (s := s) (i := 2) (by omega)
  obtain ⟨b3, e3, f3⟩ := list_byte (s := s) (i := 3) (by omega)
  have hl : s.data.toList = [b0, b1, b2, b3] := by
    apply List.ext_getElem?
    intro i
    by_cases hi : i < 4
    · obtain rfl | rfl | rfl | rfl : i = 0 ∨ i = 1 ∨ i = 2 ∨ i = 3 := by omega
      · exact e0
      · exact e1
      · exact e2
      · exact e3
    · rw [List.getElem?_eq_none (by rw [Array.length_toList]; have : s.data.size = 4 := h; omega), List.getElem?_eq_none (by simp; omega)]
  have g0 := b0.toNat_lt; have g1 := b1.toNat_lt; have g2 := b2.toNat_lt; have g3 := b3.toNat_lt
  unfold numF big4
  rw [hl, numGo_cons (by omega) (by omega), numGo_cons (by omega) (by omega), numGo_cons (by omega) (by omega), numGo_cons (by omega) (by omega)]
  have f0' : byteAt s 0 = b0.toNat := f0
  have f1' : byteAt s 1 = b1.toNat := f1
  have f2' : byteAt s 2 = b2.toNat := f2
  have f3' : byteAt s 3 = b3.toNat := f3
  rw [f0', f1', f2', f3']
  show 256 * (256 * (256 * (256 * 0 + (b0.toNat : Int)) + b1.toNat) + b2.toNat) + b3.toNat = _
  omega
def bigG : List Value → Option (Bool × Value)
  | [.string s] => some (decide (4 ≤ s.size), vi (big4 s))
  | _ => none
theorem big_ok : SumOk frE.P 31 (pureS bigG) := by
  refine sumOk_evalK frT frF frS frM noHint 30 Try.func31 (by kernel_rfl) (by decide) fun args v hg => ?_
  unfold bigG at hg
  split at hg
  case h_2 => cases hg
  rename_i s
  simp only [Option.some.injEq, Prod.mk.injEq] at hg
  obtain ⟨hs, rfl⟩ := hg
  replace hs := of_decide_eq_true hs
  refine ⟨rfl, rfl, ?_⟩
  refine (bigR s (fun v' => v' = vi (big4 s))).mpr ?_
  have h0 := byteAt_bd s 0; have h1 := byteAt_bd s 1; have h2 := byteAt_bd s 2; have h3 := byteAt_bd s 3
  repeat' refine ifK_dec (fun _ => ?_) (fun _ => ?_)
  all_goals first | (exfalso; omega) | skip
  simp only [p24, p16, p8, wr_byte]
  rw [wr_small (x := byteAt s 0 * 16777216) (by omega) (by omega), wr_small (x := byteAt s 1 * 65536) (by omega) (by omega), wr_small (x := byteAt s 2 * 256) (by omega) (by omega)]
  rw [or_add (x := byteAt s 0 * 16777216) (y := byteAt s 1 * 65536) 24 (by omega) (byteAt s 0) (by omega) (by omega) (by omega) (by omega) (by omega)]
  rw [or_add (x := byteAt s 0 * 16777216 + byteAt s 1 * 65536) (y := byteAt s 2 * 256) 16 (by omega) (byteAt s 0 * 256 + byteAt s 1) (by omega) (by omega) (by omega) (by omega) (by omega)]
  rw [or_add (x := byteAt s 0 * 16777216 + byteAt s 1 * 65536 + byteAt s 2 * 256) (y := byteAt s 3) 8 (by omega) (byteAt s 0 * 65536 + byteAt s 1 * 256 + byteAt s 2) (by omega) (by omega) (by omega) (by omega) (by omega)]
  rfl
end Go.Ev
