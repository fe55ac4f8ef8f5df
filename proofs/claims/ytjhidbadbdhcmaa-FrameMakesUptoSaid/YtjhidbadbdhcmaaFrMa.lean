/- The program's types, the orders of its drawn regions, what its library functions come to: what the evaluator asks of a program is so. -/
import Derived.Test.YtjhidbadbdhcmaaEvSd
import Derived.Test.YtjhidbadbdhcmaaProg
import Derived.Test.YtjhidbadbdhcmaaEvSe
import Derived.Test.YtjhidbadbdhcmaaEvSf
import Derived.Shelf.Strconv.Clone
import Derived.Shelf.Strings.OnBuilder
namespace Go.Ev
open Go Go.Proofs
set_option maxRecDepth 100000
def frPlans : Plans := [(5, [(2, [(0, []), (1, []), (2, []), (4, []), (5, [0, 2]), (7, []), (8, []), (9, []), (3, [5, 8, 9]), (6, [8, 9]), (10, []), (11, []), (12, [])])]), (8, [(7, [(0, []), (1, []), (2, []), (3, []), (4, []), (5, []), (6, []), (7, []), (8, []), (9, []), (10, []), (16, [4, 9, 10]), (11, [16]), (12, []), (13, []), (14, []), (15, []), (17, []), (18, []), (19, [])])]), (11, [(19, [(0, []), (1, []), (2, []), (3, []), (4, []), (5, []), (6, []), (7, []), (8, []), (9, [])])]), (12, [(3, [(0, []), (1, []), (2, []), (3, []), (4, []), (5, []), (6, []), (7, []), (8, []), (9, []), (10, []), (11, []), (12, []), (13, [])]), (9, [(0, []), (1, []), (2, []), (3, []), (4, []), (5, []), (6, []), (7, []), (9, []), (10, []), (11, []), (14, []), (8, []), (12, []), (13, []), (15, []), (16, []), (17, [])])]), (13, [(8, [(0, []), (1, []), (2, []), (3, []), (4, []), (5, []), (6, []), (7, []), (9, []), (10, []), (11, []), (12, []), (14, []), (8, [14]), (13, []), (15, [])])]), (15, [(28, [(0, []), (2, []), (3, []), (5, []), (6, []), (1, []), (4, []), (7, []), (8, []), (9, []), (10, []), (11, []), (12, [])]), (42, [(0, []), (2, []), (3, []), (1, []), (4, []), (5, []), (6, []), (7, []), (8, []), (9, [])])]), (17, [(6, [(0, []), (1, []), (2, []), (3, []), (4, []), (5, []), (6, []), (7, []), (8, []), (9, []), (10, [])])]), (20, [(6, [(0, []), (1, []), (2, []), (3, []), (4, []), (5, []), (6, []), (7, []), (8, []), (9, []), (10, []), (11, []), (12, []), (13, []), (14, [9, 12]), (15, []), (16, []), (17, []), (20, []), (21, []), (18, [9, 12, 14, 15, 21]), (19, []), (22, []), (23, []), (24, [])])]), (21, [(5, [(0, []), (1, []), (2, []), (4, []), (5, []), (8, []), (9, []), (12, []), (13, []), (16, []), (17, []), (3, [5, 9, 13, 17]), (6, [9, 13, 17]), (7, []), (10, [13, 17]), (11, []), (14, [17]), (15, []), (18, []), (19, []), (20, [])])]), (28, [(7, [(0, []), (1, []), (2, []), (3, []), (4, []), (5, []), (6, [])]), (13, [(0, []), (1, []), (3, []), (4, []), (2, []), (5, []), (6, [])])]), (30, [(1, [(0, []), (2, []), (6, []), (7, []), (8, []), (9, []), (1, []), (10, []), (3, []), (4, []), (5, []), (11, []), (12, []), (13, []), (14, []), (15, [])])]), (31, [(1, [(0, []), (1, []), (2, []), (3, []), (4, []), (5, []), (6, []), (7, []), (8, []), (9, []), (10, []), (11, []), (12, []), (13, []), (14, []), (15, []), (16, []), (17, []), (18, [])])]), (32, [(7, [(0, []), (1, []), (2, []), (3, []), (4, []), (5, []), (6, []), (7, []), (8, []), (9, []), (12, []), (10, [12]), (11, []), (13, [])])]), (33, [(4, [(0, []), (1, [0]), (2, []), (3, [])]), (8, [(0, []), (1, [0]), (2, []), (3, [])]), (13, [(0, []), (1, [0]), (2, []), (3, [])])]), (34, [(10, [(0, []), (1, []), (2, []), (3, []), (4, []), (6, []), (7, []), (8, []), (9, []), (10, []), (11, []), (14, []), (5, [14]), (12, [14]), (13, []), (15, [])])]), (36, [(12, [(0, []), (1, []), (3, []), (4, []), (6, []), (7, []), (9, []), (2, []), (5, []), (8, []), (10, []), (11, [])]), (17, [(0, []), (1, []), (3, []), (4, []), (6, []), (2, []), (5, []), (7, []), (8, [])])]), (41, [(4, [(0, []), (1, []), (2, []), (3, []), (4, [1]), (5, []), (6, []), (7, []), (8, []), (9, []), (10, []), (11, []), (12, [1, 4, 5, 7]), (13, []), (14, [])]), (11, [(0, []), (2, []), (3, []), (4, []), (5, []), (6, [3]), (7, []), (9, []), (10, []), (1, [3, 6, 7, 10]), (8, []), (11, []), (12, [])]), (24, [(0, []), (1, []), (3, []), (4, []), (7, []), (8, []), (2, [4, 8]), (5, [8]), (6, []), (9, []), (10, [])]), (28, [(0, []), (1, []), (3, []), (4, []), (2, [4]), (5, []), (6, [])])]), (43, [(7, [(0, []), (1, []), (2, []), (4, []), (5, []), (7, []), (8, []), (9, []), (10, [1, 5, 8]), (11, []), (3, [5, 8, 10, 11]), (6, []), (12, []), (13, []), (14, [])]), (16, [(0, []), (1, []), (2, []), (4, []), (5, []), (3, [5]), (6, []), (7, []), (8, [])]), (25, [(0, []), (1, []), (2, []), (4, []), (5, []), (3, [5]), (6, []), (7, []), (8, []), (9, [])]), (31, [(0, []), (1, []), (2, []), (4, []), (5, []), (6, []), (9, []), (10, []), (12, []), (13, []), (3, [5, 10, 13]), (7, [10, 13]), (8, []), (11, []), (14, [10]), (15, []), (16, []), (17, []), (18, [10]), (19, []), (20, []), (21, [])]), (33, [(0, []), (1, []), (2, []), (4, []), (5, []), (3, [5]), (6, []), (7, []), (8, [])]), (35, [(0, []), (1, []), (2, []), (4, []), (5, []), (7, []), (8, []), (3, [5, 8]), (6, []), (9, [5]), (10, []), (11, [])])]), (49, [(6, [(0, []), (1, []), (2, []), (3, []), (4, []), (5, []), (6, []), (7, []), (8, [])])]), (50, [(6, [(0, []), (2, []), (3, []), (4, []), (1, [3]), (5, []), (6, []), (7, []), (8, [])])]), (54, [(3, [(0, []), (1, []), (2, []), (3, []), (5, []), (6, []), (7, []), (8, []), (9, []), (11, []), (4, [8, 9]), (10, []), (12, [])])]), (62, [(0, [(0, []), (1, []), (2, []), (3, []), (6, []), (9, []), (10, []), (11, []), (12, []), (13, []), (4, [12, 13]), (5, []), (7, []), (8, [12, 13]), (14, []), (15, [])])])]
def frExts : Exts := [(63, .noEscape)]
theorem frX : ExtsOk Try.prog frExts := ⟨⟨_, Try.func63, by kernel_rfl, by kernel_rfl, by kernel_rfl, by kernel_rfl⟩, trivial⟩

noncomputable def frE : Env := mkEnv Try.prog frPlans frExts fun _ => none
theorem frT : frE.TOk := tOk_of (by kernel_rfl) frX
theorem frF : frE.FOk frE.ok := fOk_of (by kernel_rfl)
theorem frS : frE.SOk := sOk_none
theorem frM : frE.P.follows .mixedOrders = true := by kernel_rfl
end Go.Ev

/- The document's number of bytes: what the function comes to; no condition. -/
namespace Go.Ev
open Go Go.Proofs Go.RowKit
set_option linter.unusedVariables false
set_option maxRecDepth 100000
def noHint : FuncId → Tmp → Option Hint := fun f t => none
abbrev vi (x : Int) : Value := .int .i64 x
noncomputable abbrev numC : List Bool → Code := fun l => ptC l (bodyOf Try.prog 24)
theorem numB (s : ByteArray) (K K' : KFun) :
   sK frE noHint 20 20 24 2 (bodyOf Try.prog 24) ([.string s] ++ List.replicate 18 undef) AHeap.empty (kk frE [.tmp 2] [0,3,4] K) (fun tm H => cK frE noHint 20 20 24 (numC [true,true,false,false]) tm H (kk frE [.tmp 2] [0,3,4] K'))
   = (K' AX.normal 19 [Value.string s, Value.int IntKind.i64 0, Value.int IntKind.i64 0] { size := 0, tr := Tr.nil } (some [Value.int IntKind.i64 0])) := by kernel_rfl
theorem numL (s : ByteArray) (n i : Int) (K : KFun) :
   cK frE noHint 20 20 24 (numC [true,true,false,true,false,false]) (fillT 19 [0,3,4] [.string s, vi n, vi i]) AHeap.empty (kk frE [.tmp 2] [0,3,4] K)
   = (ifK (decide (i < ↑(ByteArray.size s))) (ifK (decide (0 ≤ i ∧ i < ↑(ByteArray.size s))) (K AX.normal 19 [Value.string s, Value.int IntKind.i64 (IntKind.wrap IntKind.i64 (IntKind.wrap IntKind.i64 (256 * n) + IntKind.wrap IntKind.i64 (byteAt s i))), Value.int IntKind.i64 (IntKind.wrap IntKind.i64 (i + 1))] { size := 0, tr := Tr.nil } (some [Value.complex FloatKind.f32 0 0])) False) (K (AX.exit 0) 19 [Value.string s, Value.int IntKind.i64 n, Value.int IntKind.i64 i] { size := 0, tr := Tr.nil } (some [Value.complex FloatKind.f32 0 0]))) := by kernel_rfl
theorem numE (v0 : Value) (n i : Int) (K : KFun) :
   cK frE noHint 20 20 24 (numC [true,true,true]) (fillT 19 [0,3,4] [v0, vi n, vi i]) AHeap.empty (kk frE [.tmp 2] [0,3,4] K)
   = (K AX.ret 19 [v0, Value.int IntKind.i64 n, Value.int IntKind.i64 i] { size := 0, tr := Tr.nil } (some [Value.int IntKind.i64 n])) := by kernel_rfl
/-- The number that bytes are. -/
def numGo : List UInt8 → Int → Int
  | [], n => n
  | b :: l, n => numGo l (IntKind.wrap .i64 (IntKind.wrap .i64 (256 * n) + IntKind.wrap .i64 (b.toNat : Int)))
def numF (s : ByteArray) : Int := numGo s.data.toList 0
def numG : List Value → Option (Bool × Value)
  | [.string s] => some (decide (s.size ≤ 4611686018427387904), vi (numF s))
  | _ => none
def numI (s : ByteArray) (m : Nat) (vs : List Value) (H : AHeap) : Prop := ∃ (n : Int) (i : Nat), vs = [.string s, vi n, vi i] ∧ H = AHeap.empty ∧ i ≤ s.size ∧ m = s.size - i ∧ numF s = numGo (s.data.toList.drop i) n
def numO (s : ByteArray) (vs : List Value) (H : AHeap) : Prop := ∃ (i : Int), vs = [.string s, vi (numF s), vi i] ∧ H = AHeap.empty
theorem num_ok : SumOk frE.P 24 (pureS numG) := by
  refine sumOk_tri frT (f := 24) (F := Try.f24) (c := bodyOf Try.prog 24) Try.func24 (by kernel_rfl) (by decide) fun args v hg => ?_
  unfold numG at hg
  split at hg
  case h_2 => cases hg
  rename_i s
  simp only [Option.some.injEq, Prod.mk.injEq] at hg
  obtain ⟨hs, rfl⟩ := hg
  replace hs := of_decide_eq_true hs
  refine ⟨rfl, rfl, fun w0 => ?_⟩
  refine Tri.loopfn frT frF frS frM noHint (f := 24) (k := 20) (n := 20) (rs := [.tmp 2]) (N := 19) (idx := [0,3,4]) (I := numI s) (O := numO s) (pre := numC [true,true,false,false]) (body := numC [true,true,false,true,false,false]) (post := numC [true,true,true]) (m := 2)
    (by kernel_rfl) (by kernel_rfl) (by kernel_rfl) ?_ (fun m => ?_) ?_
  · rintro tm H ⟨rfl, rfl⟩
    exact (numB s _ _).mpr ⟨rfl, .inl ⟨s.size, 0, 0, rfl, rfl, by omega, by omega, rfl⟩⟩
  · refine Tri.ofK frT frF frS frM noHint (f := 24) (k := 20) (n := 20) (by kernel_rfl) fun vs H ⟨n, i, hv, hH, hi, hm, hn⟩ => ?_
    subst hv hH
    refine (numL s n i _).mpr ?_
    have hl : s.data.toList.length = s.size := Array.length_toList
    refine ifK_dec (fun h0 => ifK_dec (fun _ => ⟨rfl, s.size - (i + 1), by omega, .inl ⟨IntKind.wrap .i64 (IntKind.wrap .i64 (256 * n) + IntKind.wrap .i64 (byteAt s i)), i + 1, ?_, rfl, by omega, rfl, ?_⟩⟩) (fun h => absurd ⟨by omega, h0⟩ h)) (fun h0 => ⟨rfl, rfl, .inl ⟨i, ?_, rfl⟩⟩)
    · have e : IntKind.wrap .i64 ((i : Int) + 1) = ((i + 1 : Nat) : Int) := by
        rw [wr_i64]
        omega
      rw [e]
    · rw [hn, List.drop_eq_getElem_cons (by omega)]
      simp only [numGo, byteAt, Int.toNat_natCast]
      rw [List.getElem?_eq_getElem (by omega)]
    · have : i = s.size := by omega
      subst this
      rw [hn, List.drop_of_length_le (by omega)]
      rfl
  · refine Tri.endK frT frF frS frM noHint (f := 24) (k := 20) (n := 20) (by kernel_rfl) fun vs H ⟨i, hv, hH⟩ => ?_
    subst hv hH
    exact (numE _ _ _ _).mpr ⟨.inr rfl, rfl⟩
end Go.Ev

/- Numbers of four bytes, and of three: what the functions come to; no condition. -/
namespace Go.Ev
open Go Go.Proofs Go.RowKit
set_option linter.unusedVariables false
set_option maxRecDepth 100000
theorem bigR (s : ByteArray) (K : Value → Prop) :
   evalK frE noHint 30 31 [.string s] AHeap.empty (fun v _ => K v)
   = (ifK (decide ((0 : Int) ≤ (0 : Int) ∧ (0 : Int) < ↑(ByteArray.size s))) (ifK (decide ((0 : Int) ≤ (1 : Int) ∧ (1 : Int) < ↑(ByteArray.size s))) (ifK (decide ((0 : Int) ≤ (2 : Int) ∧ (2 : Int) < ↑(ByteArray.size s))) (ifK (decide ((0 : Int) ≤ (3 : Int) ∧ (3 : Int) < ↑(ByteArray.size s))) (K (Value.int IntKind.i64 (IntKind.wrap IntKind.i64 ↑(BitVec.toNat (BitVec.ofInt (IntKind.bits IntKind.i64) (IntKind.wrap IntKind.i64 ↑(BitVec.toNat (BitVec.ofInt (IntKind.bits IntKind.i64) (IntKind.wrap IntKind.i64 ↑(BitVec.toNat (BitVec.ofInt (IntKind.bits IntKind.i64) (IntKind.wrap IntKind.i64 (IntKind.wrap IntKind.i64 (byteAt s (0 : Int)) * (2 : Int) ^ min (Int.toNat (24 : Int)) (IntKind.bits IntKind.i64))) ||| BitVec.ofInt (IntKind.bits IntKind.i64) (IntKind.wrap IntKind.i64 (IntKind.wrap IntKind.i64 (byteAt s (1 : Int)) * (2 : Int) ^ min (Int.toNat (16 : Int)) (IntKind.bits IntKind.i64)))))) ||| BitVec.ofInt (IntKind.bits IntKind.i64) (IntKind.wrap IntKind.i64 (IntKind.wrap IntKind.i64 (byteAt s (2 : Int)) * (2 : Int) ^ min (Int.toNat (8 : Int)) (IntKind.bits IntKind.i64)))))) ||| BitVec.ofInt (IntKind.bits IntKind.i64) (IntKind.wrap IntKind.i64 (byteAt s (3 : Int)))))))) False) False) False) False) := by kernel_rfl
def big4 (s : ByteArray) : Int := byteAt s 0 * 16777216 + byteAt s 1 * 65536 + byteAt s 2 * 256 + byteAt s 3
def big3 (s : ByteArray) : Int := byteAt s 0 * 65536 + byteAt s 1 * 256 + byteAt s 2
theorem big4_bd (s : ByteArray) : 0 ≤ big4 s ∧ big4 s < 4294967296 := by
  have h0 := byteAt_bd s 0; have h1 := byteAt_bd s 1; have h2 := byteAt_bd s 2; have h3 := byteAt_bd s 3
  unfold big4; omega
theorem big3_bd (s : ByteArray) : 0 ≤ big3 s ∧ big3 s < 16777216 := by
  have h0 := byteAt_bd s 0; have h1 := byteAt_bd s 1; have h2 := byteAt_bd s 2
  unfold big3; omega
theorem p24 : (2 : Int) ^ min (Int.toNat 24) (IntKind.bits IntKind.i64) = 16777216 := by decide
theorem p16 : (2 : Int) ^ min (Int.toNat 16) (IntKind.bits IntKind.i64) = 65536 := by decide
theorem p8 : (2 : Int) ^ min (Int.toNat 8) (IntKind.bits IntKind.i64) = 256 := by decide
theorem numGo_cons {b : UInt8} {l : List UInt8} {n : Int} (h0 : 0 ≤ n) (h1 : n ≤ 4294967296) : numGo (b :: l) n = numGo l (256 * n + (b.toNat : Int)) := by
  have g := b.toNat_lt
  show numGo l (IntKind.wrap .i64 (IntKind.wrap .i64 (256 * n) + IntKind.wrap .i64 (b.toNat : Int))) = _
  rw [wr_small (x := 256 * n) (by omega) (by omega), wr_small (x := (b.toNat : Int)) (by omega) (by omega), wr_small (by omega) (by omega)]
theorem num3 {s : ByteArray} (h : s.size = 3) : numF s = big3 s := by
  obtain ⟨b0, e0, f0⟩ := list_byte (s := s) (i := 0) (by omega)
  obtain ⟨b1, e1, f1⟩ := list_byte (s := s) (i := 1) (by omega)
  obtain ⟨b2, e2, f2⟩ := list_byte (s := s) (i := 2) (by omega)
  have hl : s.data.toList = [b0, b1, b2] := by
    apply List.ext_getElem?
    intro i
    by_cases hi : i < 3
    · obtain rfl | rfl | rfl : i = 0 ∨ i = 1 ∨ i = 2 := by omega
      · exact e0
      · exact e1
      · exact e2
    · rw [List.getElem?_eq_none (by rw [Array.length_toList]; have : s.data.size = 3 := h; omega), List.getElem?_eq_none (by simp; omega)]
  have g0 := b0.toNat_lt; have g1 := b1.toNat_lt; have g2 := b2.toNat_lt
  unfold numF big3
  rw [hl, numGo_cons (by omega) (by omega), numGo_cons (by omega) (by omega), numGo_cons (by omega) (by omega)]
  have f0' : byteAt s 0 = b0.toNat := f0
  have f1' : byteAt s 1 = b1.toNat := f1
  have f2' : byteAt s 2 = b2.toNat := f2
  rw [f0', f1', f2']
  show 256 * (256 * (256 * 0 + (b0.toNat : Int)) + b1.toNat) + b2.toNat = _
  omega
theorem num4 {s : ByteArray} (h : s.size = 4) : numF s = big4 s := by
  obtain ⟨b0, e0, f0⟩ := list_byte (s := s) (i := 0) (by omega)
  obtain ⟨b1, e1, f1⟩ := list_byte (s := s) (i := 1) (by omega)
  obtain ⟨b2, e2, f2⟩ := list_byte (s := s) (i := 2) (by omega)
  obtain ⟨b3, e3, f3⟩ := list_byte (s := s) (i := 3) (by omega)
  have hl : s.data.toList = [b0, b1, b2, b3] := by
    apply List.ext_getElem?
    intro i
    by_cases hi : i < 4
    · obtain rfl | rfl | rfl | rfl : i = 0 ∨ i = 1 ∨ i = 2 ∨ i = 3 := by omega
      · exact e0
      · exact e1
      · exact e2
      · exact e3
    · rw [List.getElem?_eq_none (by rw [Array.length_toList]; have : s.data.size = 4 := h; omega), List.getElem?_eq_none (by simp; omega)]
  have g0 := b0.toNat_lt; have g1 := b1.toNat_lt; have g2 := b2.toNat_lt; have g3 := b3.toNat_lt
  unfold numF big4
  rw [hl, numGo_cons (by omega) (by omega), numGo_cons (by omega) (by omega), numGo_cons (by omega) (by omega), numGo_cons (by omega) (by omega)]
  have f0' : byteAt s 0 = b0.toNat := f0
  have f1' : byteAt s 1 = b1.toNat := f1
  have f2' : byteAt s 2 = b2.toNat := f2
  have f3' : byteAt s 3 = b3.toNat := f3
  rw [f0', f1', f2', f3']
  show 256 * (256 * (256 * (256 * 0 + (b0.toNat : Int)) + b1.toNat) + b2.toNat) + b3.toNat = _
  omega
def bigG : List Value → Option (Bool × Value)
  | [.string s] => some (decide (4 ≤ s.size), vi (big4 s))
  | _ => none
theorem big_ok : SumOk frE.P 31 (pureS bigG) := by
  refine sumOk_evalK frT frF frS frM noHint 30 Try.func31 (by kernel_rfl) (by decide) fun args v hg => ?_
  unfold bigG at hg
  split at hg
  case h_2 => cases hg
  rename_i s
  simp only [Option.some.injEq, Prod.mk.injEq] at hg
  obtain ⟨hs, rfl⟩ := hg
  replace hs := of_decide_eq_true hs
  refine ⟨rfl, rfl, ?_⟩
  refine (bigR s (fun v' => v' = vi (big4 s))).mpr ?_
  have h0 := byteAt_bd s 0; have h1 := byteAt_bd s 1; have h2 := byteAt_bd s 2; have h3 := byteAt_bd s 3
  repeat' refine ifK_dec (fun _ => ?_) (fun _ => ?_)
  all_goals first | (exfalso; omega) | skip
  simp only [p24, p16, p8, wr_byte]
  rw [wr_small (x := byteAt s 0 * 16777216) (by omega) (by omega), wr_small (x := byteAt s 1 * 65536) (by omega) (by omega), wr_small (x := byteAt s 2 * 256) (by omega) (by omega)]
  rw [or_add (x := byteAt s 0 * 16777216) (y := byteAt s 1 * 65536) 24 (by omega) (byteAt s 0) (by omega) (by omega) (by omega) (by omega) (by omega)]
  rw [or_add (x := byteAt s 0 * 16777216 + byteAt s 1 * 65536) (y := byteAt s 2 * 256) 16 (by omega) (byteAt s 0 * 256 + byteAt s 1) (by omega) (by omega) (by omega) (by omega) (by omega)]
  rw [or_add (x := byteAt s 0 * 16777216 + byteAt s 1 * 65536 + byteAt s 2 * 256) (y := byteAt s 3) 8 (by omega) (byteAt s 0 * 65536 + byteAt s 1 * 256 + byteAt s 2) (by omega) (by omega) (by omega) (by omega) (by omega)]
  rfl
end Go.Ev

/- The library functions of this program are those of which the shelf speaks: number by number. -/
namespace Go.Proofs
open Go.Shelf
def Try.l316_ren : Go.Shelf.Ren := ⟨fun | 316 => 46 | n => n, fun | 9 => 9 | 3 => 3 | 4 => 4 | 37 => 49 | 0 => 0 | 127 => 75 | 5 => 5 | n => n, fun | n => n⟩
theorem Try.l316 : Go.Proofs.LaysM.n316 Try.prog Try.l316_ren := {
  mixed := by kernel_rfl
  f316 := Try.func46.trans (congrArg some (by kernel_rfl))
  t0 := Try.underlying0
  a0 := Try.isAgg0
  z0 := Try.sizeOf0
  v0 := Try.zeroValue0
  t3 := Try.underlying3
  a3 := Try.isAgg3
  z3 := Try.sizeOf3
  v3 := Try.zeroValue3
  t4 := Try.underlying4
  a4 := Try.isAgg4
  z4 := Try.sizeOf4
  v4 := Try.zeroValue4
  t9 := Try.underlying9
  a9 := Try.isAgg9
  z9 := Try.sizeOf9
  v9 := Try.zeroValue9
  t37 := Try.underlying49
  a37 := Try.isAgg49
  z37 := Try.sizeOf49
  v37 := Try.zeroValue49
  t127 := Try.underlying75
  a127 := Try.isAgg75
  z127 := Try.sizeOf75
  v127 := Try.zeroValue75
  t5 := Try.underlying5
  a5 := Try.isAgg5
  z5 := Try.sizeOf5
  v5 := Try.zeroValue5
  i0 := by kernel_rfl
  i3 := by kernel_rfl
  i4 := by kernel_rfl
  i5 := by kernel_rfl
  i9 := by kernel_rfl
  i37 := by kernel_rfl
  i127 := by kernel_rfl }
def Try.l105_ren : Go.Shelf.Ren := ⟨fun | 105 => 48 | 212 => 52 | 99 => 53 | 165 => 54 | 166 => 55 | 170 => 56 | 169 => 57 | 263 => 58 | 264 => 59 | 206 => 60 | 240 => 61 | 241 => 62 | 276 => 63 | 277 => 64 | n => n, fun | 9 => 9 | 3 => 3 | 4 => 4 | 20 => 20 | 0 => 0 | 46 => 53 | 109 => 76 | 5 => 5 | 72 => 81 | 76 => 85 | 51 => 89 | 146 => 90 | 53 => 92 | 148 => 93 | 70 => 79 | 37 => 49 | 75 => 84 | 127 => 75 | 164 => 95 | 80 => 88 | n => n, fun | n => n⟩
theorem Try.l105 : Go.Proofs.Lays.n105 Try.prog Try.l105_ren := {
  mixed := by kernel_rfl
  f99 := Try.func53.trans (congrArg some (by kernel_rfl))
  f105 := Try.func48.trans (congrArg some (by kernel_rfl))
  f165 := Try.func54.trans (congrArg some (by kernel_rfl))
  f166 := Try.func55.trans (congrArg some (by kernel_rfl))
  f169 := Try.func57.trans (congrArg some (by kernel_rfl))
  f170 := Try.func56.trans (congrArg some (by kernel_rfl))
  f206 := Try.func60.trans (congrArg some (by kernel_rfl))
  f212 := Try.func52.trans (congrArg some (by kernel_rfl))
  f240 := Try.func61.trans (congrArg some (by kernel_rfl))
  f241 := Try.func62.trans (congrArg some (by kernel_rfl))
  f263 := Try.func58.trans (congrArg some (by kernel_rfl))
  f264 := Try.func59.trans (congrArg some (by kernel_rfl))
  f276 := Try.func63.trans (congrArg some (by kernel_rfl))
  f277 := Try.func64.trans (congrArg some (by kernel_rfl))
  t0 := Try.underlying0
  a0 := Try.isAgg0
  z0 := Try.sizeOf0
  v0 := Try.zeroValue0
  t3 := Try.underlying3
  a3 := Try.isAgg3
  z3 := Try.sizeOf3
  v3 := Try.zeroValue3
  t4 := Try.underlying4
  a4 := Try.isAgg4
  z4 := Try.sizeOf4
  v4 := Try.zeroValue4
  t5 := Try.underlying5
  a5 := Try.isAgg5
  z5 := Try.sizeOf5
  v5 := Try.zeroValue5
  t9 := Try.underlying9
  a9 := Try.isAgg9
  z9 := Try.sizeOf9
  v9 := Try.zeroValue9
  t20 := Try.underlying20
  a20 := Try.isAgg20
  z20 := Try.sizeOf20
  v20 := Try.zeroValue20
  t37 := Try.underlying49
  a37 := Try.isAgg49
  z37 := Try.sizeOf49
  v37 := Try.zeroValue49
  t46 := Try.underlying53
  a46 := Try.isAgg53
  z46 := Try.sizeOf53
  v46 := Try.zeroValue53
  t51 := Try.underlying89
  a51 := Try.isAgg89
  z51 := Try.sizeOf89
  v51 := Try.zeroValue89
  t53 := Try.underlying92
  a53 := Try.isAgg92
  z53 := Try.sizeOf92
  v53 := Try.zeroValue92
  t70 := Try.underlying79
  a70 := Try.isAgg79
  z70 := Try.sizeOf79
  v70 := Try.zeroValue79
  t72 := Try.underlying81
  a72 := Try.isAgg81
  z72 := Try.sizeOf81
  v72 := Try.zeroValue81
  t75 := Try.underlying84
  a75 := Try.isAgg84
  z75 := Try.sizeOf84
  v75 := Try.zeroValue84
  t76 := Try.underlying85
  a76 := Try.isAgg85
  z76 := Try.sizeOf85
  v76 := Try.zeroValue85
  t109 := Try.underlying76
  a109 := Try.isAgg76
  z109 := Try.sizeOf76
  v109 := Try.zeroValue76
  t127 := Try.underlying75
  a127 := Try.isAgg75
  z127 := Try.sizeOf75
  v127 := Try.zeroValue75
  t146 := Try.underlying90
  a146 := Try.isAgg90
  z146 := Try.sizeOf90
  v146 := Try.zeroValue90
  t148 := Try.underlying93
  a148 := Try.isAgg93
  z148 := Try.sizeOf93
  v148 := Try.zeroValue93
  t164 := Try.underlying95
  a164 := Try.isAgg95
  z164 := Try.sizeOf95
  v164 := Try.zeroValue95 }
end Go.Proofs

/- The program with what is known of its functions: numbers of bytes, strings.Clone, the examples. -/
namespace Go.Ev
open Go Go.Proofs Go.RowKit
set_option maxRecDepth 100000
noncomputable def frSumm0 : List (Nat × Summ) := [(46, cloneSum), (31, pureS bigG)]
theorem frClone : SumOk Try.prog 46 cloneSum := cloneSum_ok Try.l316 rfl Try.func46 (by kernel_rfl) (by decide)
theorem frSO0 : SumsOk Try.prog frSumm0 := ⟨frClone, big_ok, trivial⟩
noncomputable def frC : Env := mkEnv Try.prog frPlans frExts fun f => look f frSumm0
theorem frAw : SumOk Try.prog 14 (pureS awG) :=
  sumOk_true (E := frC) (tOk_of (by kernel_rfl) frX) (fOk_of (by kernel_rfl)) (sOk_of frSO0) (by kernel_rfl) (k := 400) Try.func14 (by kernel_rfl) (by decide) (by kernel_rfl)
noncomputable def frSumms : List (Nat × Summ) := [(24, pureS numG), (46, cloneSum), (31, pureS bigG), (14, pureS awG)]
theorem frSO : SumsOk Try.prog frSumms := ⟨num_ok, frClone, big_ok, frAw, trivial⟩
noncomputable def frA : Env := mkEnv Try.prog frPlans frExts fun f => look f frSumms
theorem faT : frA.TOk := tOk_of (by kernel_rfl) frX
theorem faF : frA.FOk frA.ok := fOk_of (by kernel_rfl)
theorem faS : frA.SOk := sOk_of frSO
theorem faM : frA.P.follows .mixedOrders = true := by kernel_rfl
end Go.Ev
