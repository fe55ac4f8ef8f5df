/- strings.Repeat; what frame.write comes to, kind by kind; no condition. -/
import Derived.Test.YtjhidbadbdhcmaaFrMf
import Derived.Shelf.Strings.Repeat
import Derived.Shelf.Strings.BuilderX
import Derived.Test.YtjhidbadbdhcmaaFrMg
namespace Go.Ev
open Go Go.Proofs Go.RowKit
set_option linter.unusedVariables false
set_option maxRecDepth 100000
set_option maxHeartbeats 4000000
def repG : List Value → Option (Bool × Value)
  | [.string s, .int .i64 c] => some (decide (0 ≤ c ∧ c ≤ 1000000 ∧ s.size ≤ 1000000), .string ⟨(Lib.repeatL s.data.toList c.toNat).toArray⟩)
  | _ => none
theorem frX72 : Go.Proofs.Builder.Extra Try.prog Try.l105_ren := { sizeBuilder := by kernel_rfl, liesBuilder := by kernel_rfl, t5 := by kernel_rfl, a5 := fun w => by kernel_rfl, z5 := fun w => by kernel_rfl, v5 := fun w => by kernel_rfl, infoByte := by kernel_rfl, cellsByte := by kernel_rfl, sizeByte := by kernel_rfl, neB5 := by decide }
theorem rep_ok : SumOk frB.P 48 (pureS repG) := by
  refine sumOk_pure Try.func48 (by kernel_rfl) (by decide) fun args v hg => ?_
  unfold repG at hg
  split at hg
  case h_2 => cases hg
  rename_i s c
  simp only [Option.some.injEq, Prod.mk.injEq] at hg
  obtain ⟨hs, rfl⟩ := hg
  replace hs := of_decide_eq_true hs
  refine ⟨rfl, fun ρ w cargs ha => ?_⟩
  obtain ⟨S, T1, e1, hS, r1⟩ := ha.cons_left
  obtain ⟨C, T2, e2, hC, r2⟩ := r1.cons_left
  obtain rfl := r2.nil_left
  subst e2
  obtain rfl := hS.string_inv
  obtain rfl := hC.int_inv
  obtain ⟨n, rfl⟩ := Int.eq_ofNat_of_zero_le hs.1
  have : cargs = #[.string s, .int .i64 (n : Int)] := by apply Array.ext'; simpa using e1
  subst this
  have hl : s.size * n ≤ 1000000 * 1000000 := Nat.mul_le_mul hs.2.2 (by omega)
  exact Go.Proofs.Any.strings_Repeat Try.l105 frX72 s n w (by omega) (by omega)
theorem resFour (n : Int) (K : Value → Prop) :
   evalK frB (fun _ _ => none) 30 44 [vi n] AHeap.empty (fun v _ => K v)
   = (K (Value.string (⟨⟨[UInt8.ofNat (Int.toNat (IntKind.wrap IntKind.u8 (Int.fdiv n ((2 : Int) ^ min (Int.toNat (24 : Int)) 64)))), UInt8.ofNat (Int.toNat (IntKind.wrap IntKind.u8 (Int.fdiv n ((2 : Int) ^ min (Int.toNat (16 : Int)) 64)))), UInt8.ofNat (Int.toNat (IntKind.wrap IntKind.u8 (Int.fdiv n ((2 : Int) ^ min (Int.toNat (8 : Int)) 64)))), UInt8.ofNat (Int.toNat (IntKind.wrap IntKind.u8 n))]⟩⟩ : ByteArray))) := by kernel_rfl
def four (n : Int) : ByteArray := ⟨⟨[u8i (n / 16777216), u8i (n / 65536), u8i (n / 256), u8i n]⟩⟩
def fourG : List Value → Option (Bool × Value)
  | [.int .i64 n] => some (true, .string (four n))
  | _ => none
theorem four_ok : SumOk frB.P 44 (pureS fourG) := by
  refine sumOk_evalK fbT fbF fbS fbM (fun _ _ => none) 30 Try.func44 (by kernel_rfl) (by decide) fun args v hg => ?_
  unfold fourG at hg
  split at hg
  case h_2 => cases hg
  rename_i n
  simp only [Option.some.injEq, Prod.mk.injEq, true_and] at hg
  subst hg
  refine ⟨rfl, rfl, ?_⟩
  refine (resFour n _).mpr ?_
  have e24 : n.fdiv ((2 : Int) ^ min (Int.toNat (24 : Int)) 64) = n / 16777216 := by
    rw [show (2 : Int) ^ min (Int.toNat (24 : Int)) 64 = 16777216 by decide]
    exact Int.fdiv_eq_ediv_of_nonneg n (by decide)
  have e16 : n.fdiv ((2 : Int) ^ min (Int.toNat (16 : Int)) 64) = n / 65536 := by
    rw [show (2 : Int) ^ min (Int.toNat (16 : Int)) 64 = 65536 by decide]
    exact Int.fdiv_eq_ediv_of_nonneg n (by decide)
  have e8 : n.fdiv ((2 : Int) ^ min (Int.toNat (8 : Int)) 64) = n / 256 := by
    rw [show (2 : Int) ^ min (Int.toNat (8 : Int)) 64 = 256 by decide]
    exact Int.fdiv_eq_ediv_of_nonneg n (by decide)
  simp only [e24, e16, e8, u8_wr]
  rfl
noncomputable def fwSumms : List (Nat × BSumm) := (48, liftS (pureS repG)) :: (44, liftS (pureS fourG)) :: fzSumms
theorem fwSO : BSumsOk Try.prog fwSumms := ⟨rep_ok.lift, four_ok.lift, fzSO⟩
noncomputable def frV : Env := mkEnvB Try.prog frPlans frExts fun f => look f fwSumms
theorem fvT : frV.TOk := tOkB_of (by kernel_rfl) frX
theorem fvF : frV.FOk frV.ok := fOkB_of (by kernel_rfl)
theorem fvS : frV.SOk := sOkB_of fwSO
theorem fvM : frV.P.follows .mixedOrders = true := by kernel_rfl
noncomputable abbrev wB : Code := bodyOf Try.prog 41
end Go.Ev

/- What frame.write comes to, kind by kind; no condition. -/
namespace Go.Ev
open Go Go.Proofs Go.RowKit
set_option linter.unusedVariables false
set_option maxRecDepth 100000
set_option maxHeartbeats 4000000
def wHint : FuncId → Tmp → Option Hint := fun f t => (look f [(41, [(13, Hint.is false), (42, Hint.is false), (43, Hint.is false), (70, Hint.is false), (75, Hint.is false), (102, Hint.is false), (114, Hint.is false), (119, Hint.is false)])]).bind (look t)
def w4Hint : FuncId → Tmp → Option Hint := fun f t => (look f [(41, [(82, Hint.agg [.int .i64, .int .i64]), (92, Hint.full), (97, Hint.full)])]).bind (look t)
def wP : List Bool := [true, false, true, false, true, true, true, true, true, true, true, false, true, false, true, false]
def wCuts : Cuts := [(wP, [⟨1, [8,77,78,79], [(8,[])], false⟩, ⟨0, [8,77,78,79], [], false⟩])]
def roH1w (L : List Value) (T : ET) : AHeap := { size := 1, tr := .node (some (rowA L T)) .nil .nil }
def w1H (L B : List Value) (T : ET) : AHeap := { size := 2, tr := .node (some (rowA L T)) (.node (some (.cells B ⟨1, some 5, true⟩ .live [])) .nil .nil) .nil }
theorem w0 (fl : Int) (p : Pt) (R : RFun) (Q : Value → AHeap → Prop) :
   startA frV pNoHint 30 20 41 0 128 [] R wB ([vi 0, vi fl, ptV p nl] ++ List.replicate 125 undef) AHeap.empty (endGK frV [.tmp 6] 0 [[]] Q)
   = (ifK (!decide (IntKind.wrap IntKind.i64 (↑(BitVec.toNat (BitVec.ofInt (IntKind.bits IntKind.i64) fl &&& BitVec.ofInt (IntKind.bits IntKind.i64) (8 : Int))) : Int) = (0 : Int))) (ifK (decide ((0 : Int) < p.2)) (ifK (decide (p.2 ≤ (256 : Int))) (IntKind.i64 = IntKind.i64 ∧ p.2 = p.2 ∧ ifK (decide (ByteArray.size (⟨⟨[UInt8.ofNat (Int.toNat (IntKind.wrap IntKind.u8 (IntKind.wrap IntKind.i64 (p.2 - (1 : Int)))))]⟩⟩ : ByteArray) + ByteArray.size p.1 < 9223372036854775808)) (ifK (decide ((0 : Int) ≤ IntKind.wrap IntKind.i64 (p.2 - (1 : Int)) ∧ IntKind.wrap IntKind.i64 (p.2 - (1 : Int)) ≤ (1000000 : Int) ∧ ByteArray.size (⟨#[(0 : UInt8)]⟩ : ByteArray) ≤ 1000000)) (p.1 = p.1 ∧ (⟨⟨[UInt8.ofNat (Int.toNat (IntKind.wrap IntKind.u8 (IntKind.wrap IntKind.i64 (p.2 - (1 : Int)))))]⟩⟩ : ByteArray) = (⟨⟨[UInt8.ofNat (Int.toNat (IntKind.wrap IntKind.u8 (IntKind.wrap IntKind.i64 (p.2 - (1 : Int)))))]⟩⟩ : ByteArray) ∧ (⟨1, some 5, true⟩ : ET) = (⟨1, some 5, true⟩ : ET) ∧ IntKind.u8 = IntKind.u8 ∧ IntKind.wrap IntKind.u8 (IntKind.wrap IntKind.i64 (p.2 - (1 : Int))) = IntKind.wrap IntKind.u8 (IntKind.wrap IntKind.i64 (p.2 - (1 : Int))) ∧ IntKind.i64 = IntKind.i64 ∧ p.2 = p.2 ∧ ifK (decide (ByteArray.size ((⟨⟨[UInt8.ofNat (Int.toNat (IntKind.wrap IntKind.u8 (IntKind.wrap IntKind.i64 (p.2 - (1 : Int)))))]⟩⟩ : ByteArray) ++ p.1) + ByteArray.size { data := List.toArray (Lib.repeatL [(0 : UInt8)] (Int.toNat (IntKind.wrap IntKind.i64 (p.2 - (1 : Int))))) } < 9223372036854775808)) (Q (Value.string ((⟨⟨[UInt8.ofNat (Int.toNat (IntKind.wrap IntKind.u8 (IntKind.wrap IntKind.i64 (p.2 - (1 : Int)))))]⟩⟩ : ByteArray) ++ p.1 ++ { data := List.toArray (Lib.repeatL [(0 : UInt8)] (Int.toNat (IntKind.wrap IntKind.i64 (p.2 - (1 : Int))))) })) { size := 0, tr := Tr.nil }) False) False) False) (Q (Value.string p.1) { size := 0, tr := Tr.nil })) (Q (Value.string p.1) { size := 0, tr := Tr.nil })) (Q (Value.string p.1) { size := 0, tr := Tr.nil })) := by kernel_rfl
theorem v0 (fl : Int) (p : Pt) (n c : Nat) (L : List Value) (T : ET) (R : RFun) (Q : Value → AHeap → Prop) :
   startA frV pNoHint 30 20 41 1 128 [] R wB ([vi 0, vi fl, ptV p (slo 0 0 n c)] ++ List.replicate 125 undef) (roH1w L T) (endGK frV [.tmp 6] 1 [[]] Q)
   = (ifK (!decide (IntKind.wrap IntKind.i64 (↑(BitVec.toNat (BitVec.ofInt (IntKind.bits IntKind.i64) fl &&& BitVec.ofInt (IntKind.bits IntKind.i64) (8 : Int))) : Int) = (0 : Int))) (ifK (decide ((0 : Int) < p.2)) (ifK (decide (p.2 ≤ (256 : Int))) (IntKind.i64 = IntKind.i64 ∧ p.2 = p.2 ∧ ifK (decide (ByteArray.size (⟨⟨[UInt8.ofNat (Int.toNat (IntKind.wrap IntKind.u8 (IntKind.wrap IntKind.i64 (p.2 - (1 : Int)))))]⟩⟩ : ByteArray) + ByteArray.size p.1 < 9223372036854775808)) (ifK (decide ((0 : Int) ≤ IntKind.wrap IntKind.i64 (p.2 - (1 : Int)) ∧ IntKind.wrap IntKind.i64 (p.2 - (1 : Int)) ≤ (1000000 : Int) ∧ ByteArray.size (⟨#[(0 : UInt8)]⟩ : ByteArray) ≤ 1000000)) (p.1 = p.1 ∧ (⟨⟨[UInt8.ofNat (Int.toNat (IntKind.wrap IntKind.u8 (IntKind.wrap IntKind.i64 (p.2 - (1 : Int)))))]⟩⟩ : ByteArray) = (⟨⟨[UInt8.ofNat (Int.toNat (IntKind.wrap IntKind.u8 (IntKind.wrap IntKind.i64 (p.2 - (1 : Int)))))]⟩⟩ : ByteArray) ∧ (⟨1, some 5, true⟩ : ET) = (⟨1, some 5, true⟩ : ET) ∧ IntKind.u8 = IntKind.u8 ∧ IntKind.wrap IntKind.u8 (IntKind.wrap IntKind.i64 (p.2 - (1 : Int))) = IntKind.wrap IntKind.u8 (IntKind.wrap IntKind.i64 (p.2 - (1 : Int))) ∧ IntKind.i64 = IntKind.i64 ∧ p.2 = p.2 ∧ ifK (decide (ByteArray.size ((⟨⟨[UInt8.ofNat (Int.toNat (IntKind.wrap IntKind.u8 (IntKind.wrap IntKind.i64 (p.2 - (1 : Int)))))]⟩⟩ : ByteArray) ++ p.1) + ByteArray.size { data := List.toArray (Lib.repeatL [(0 : UInt8)] (Int.toNat (IntKind.wrap IntKind.i64 (p.2 - (1 : Int))))) } < 9223372036854775808)) (Q (Value.string ((⟨⟨[UInt8.ofNat (Int.toNat (IntKind.wrap IntKind.u8 (IntKind.wrap IntKind.i64 (p.2 - (1 : Int)))))]⟩⟩ : ByteArray) ++ p.1 ++ { data := List.toArray (Lib.repeatL [(0 : UInt8)] (Int.toNat (IntKind.wrap IntKind.i64 (p.2 - (1 : Int))))) })) { size := 1, tr := Tr.node (some (AObj.cells (List.map (renV [0]) L) T St.ro [])) Tr.nil Tr.nil }) False) False) False) (Q (Value.string p.1) { size := 1, tr := Tr.node (some (AObj.cells (List.map (renV [0]) L) T St.ro [])) Tr.nil Tr.nil })) (Q (Value.string p.1) { size := 1, tr := Tr.node (some (AObj.cells (List.map (renV [0]) L) T St.ro [])) Tr.nil Tr.nil })) (Q (Value.string p.1) { size := 1, tr := Tr.node (some (AObj.cells (List.map (renV [0]) L) T St.ro [])) Tr.nil Tr.nil })) := by kernel_rfl
theorem w1 (fl : Int) (p : Pt) (R : RFun) (Q : Value → AHeap → Prop) :
   startA frV pNoHint 30 20 41 0 128 [] R wB ([vi 1, vi fl, ptV p nl] ++ List.replicate 125 undef) AHeap.empty (endGK frV [.tmp 6] 0 [[]] Q)
   = (ifK (!decide (IntKind.wrap IntKind.i64 (↑(BitVec.toNat (BitVec.ofInt (IntKind.bits IntKind.i64) fl &&& BitVec.ofInt (IntKind.bits IntKind.i64) (32 : Int))) : Int) = (0 : Int))) (ifK p.6 (IntKind.i64 = IntKind.i64 ∧ p.5 = p.5 ∧ p.1 = p.1 ∧ (⟨⟨[UInt8.ofNat (Int.toNat (IntKind.wrap IntKind.u8 (IntKind.wrap IntKind.i64 (p.5 - (1 : Int)))))]⟩⟩ : ByteArray) = (⟨⟨[UInt8.ofNat (Int.toNat (IntKind.wrap IntKind.u8 (IntKind.wrap IntKind.i64 (p.5 - (1 : Int)))))]⟩⟩ : ByteArray) ∧ (⟨1, some 5, true⟩ : ET) = (⟨1, some 5, true⟩ : ET) ∧ IntKind.u8 = IntKind.u8 ∧ IntKind.wrap IntKind.u8 (IntKind.wrap IntKind.i64 (p.5 - (1 : Int))) = IntKind.wrap IntKind.u8 (IntKind.wrap IntKind.i64 (p.5 - (1 : Int))) ∧ IntKind.i64 = IntKind.i64 ∧ p.5 = p.5 ∧ ifK (decide (ByteArray.size (four (IntKind.wrap IntKind.i64 (↑(BitVec.toNat (BitVec.ofInt (IntKind.bits IntKind.i64) p.4 ||| BitVec.ofInt (IntKind.bits IntKind.i64) (2147483648 : Int))) : Int)) ++ (⟨⟨[UInt8.ofNat (Int.toNat (IntKind.wrap IntKind.u8 (IntKind.wrap IntKind.i64 (p.5 - (1 : Int)))))]⟩⟩ : ByteArray)) + ByteArray.size p.1 < 9223372036854775808)) (Q (Value.string (four (IntKind.wrap IntKind.i64 (↑(BitVec.toNat (BitVec.ofInt (IntKind.bits IntKind.i64) p.4 ||| BitVec.ofInt (IntKind.bits IntKind.i64) (2147483648 : Int))) : Int)) ++ (⟨⟨[UInt8.ofNat (Int.toNat (IntKind.wrap IntKind.u8 (IntKind.wrap IntKind.i64 (p.5 - (1 : Int)))))]⟩⟩ : ByteArray) ++ p.1)) { size := 0, tr := Tr.nil }) False) (IntKind.i64 = IntKind.i64 ∧ p.5 = p.5 ∧ p.1 = p.1 ∧ (⟨⟨[UInt8.ofNat (Int.toNat (IntKind.wrap IntKind.u8 (IntKind.wrap IntKind.i64 (p.5 - (1 : Int)))))]⟩⟩ : ByteArray) = (⟨⟨[UInt8.ofNat (Int.toNat (IntKind.wrap IntKind.u8 (IntKind.wrap IntKind.i64 (p.5 - (1 : Int)))))]⟩⟩ : ByteArray) ∧ (⟨1, some 5, true⟩ : ET) = (⟨1, some 5, true⟩ : ET) ∧ IntKind.u8 = IntKind.u8 ∧ IntKind.wrap IntKind.u8 (IntKind.wrap IntKind.i64 (p.5 - (1 : Int))) = IntKind.wrap IntKind.u8 (IntKind.wrap IntKind.i64 (p.5 - (1 : Int))) ∧ IntKind.i64 = IntKind.i64 ∧ p.5 = p.5 ∧ ifK (decide (ByteArray.size (four p.4 ++ (⟨⟨[UInt8.ofNat (Int.toNat (IntKind.wrap IntKind.u8 (IntKind.wrap IntKind.i64 (p.5 - (1 : Int)))))]⟩⟩ : ByteArray)) + ByteArray.size p.1 < 9223372036854775808)) (Q (Value.string (four p.4 ++ (⟨⟨[UInt8.ofNat (Int.toNat (IntKind.wrap IntKind.u8 (IntKind.wrap IntKind.i64 (p.5 - (1 : Int)))))]⟩⟩ : ByteArray) ++ p.1)) { size := 0, tr := Tr.nil }) False)) (Q (Value.string p.1) { size := 0, tr := Tr.nil })) := by kernel_rfl
theorem v1 (fl : Int) (p : Pt) (n c : Nat) (L : List Value) (T : ET) (R : RFun) (Q : Value → AHeap → Prop) :
   startA frV pNoHint 30 20 41 1 128 [] R wB ([vi 1, vi fl, ptV p (slo 0 0 n c)] ++ List.replicate 125 undef) (roH1w L T) (endGK frV [.tmp 6] 1 [[]] Q)
   = (ifK (!decide (IntKind.wrap IntKind.i64 (↑(BitVec.toNat (BitVec.ofInt (IntKind.bits IntKind.i64) fl &&& BitVec.ofInt (IntKind.bits IntKind.i64) (32 : Int))) : Int) = (0 : Int))) (ifK p.6 (IntKind.i64 = IntKind.i64 ∧ p.5 = p.5 ∧ p.1 = p.1 ∧ (⟨⟨[UInt8.ofNat (Int.toNat (IntKind.wrap IntKind.u8 (IntKind.wrap IntKind.i64 (p.5 - (1 : Int)))))]⟩⟩ : ByteArray) = (⟨⟨[UInt8.ofNat (Int.toNat (IntKind.wrap IntKind.u8 (IntKind.wrap IntKind.i64 (p.5 - (1 : Int)))))]⟩⟩ : ByteArray) ∧ (⟨1, some 5, true⟩ : ET) = (⟨1, some 5, true⟩ : ET) ∧ IntKind.u8 = IntKind.u8 ∧ IntKind.wrap IntKind.u8 (IntKind.wrap IntKind.i64 (p.5 - (1 : Int))) = IntKind.wrap IntKind.u8 (IntKind.wrap IntKind.i64 (p.5 - (1 : Int))) ∧ IntKind.i64 = IntKind.i64 ∧ p.5 = p.5 ∧ ifK (decide (ByteArray.size (four (IntKind.wrap IntKind.i64 (↑(BitVec.toNat (BitVec.ofInt (IntKind.bits IntKind.i64) p.4 ||| BitVec.ofInt (IntKind.bits IntKind.i64) (2147483648 : Int))) : Int)) ++ (⟨⟨[UInt8.ofNat (Int.toNat (IntKind.wrap IntKind.u8 (IntKind.wrap IntKind.i64 (p.5 - (1 : Int)))))]⟩⟩ : ByteArray)) + ByteArray.size p.1 < 9223372036854775808)) (Q (Value.string (four (IntKind.wrap IntKind.i64 (↑(BitVec.toNat (BitVec.ofInt (IntKind.bits IntKind.i64) p.4 ||| BitVec.ofInt (IntKind.bits IntKind.i64) (2147483648 : Int))) : Int)) ++ (⟨⟨[UInt8.ofNat (Int.toNat (IntKind.wrap IntKind.u8 (IntKind.wrap IntKind.i64 (p.5 - (1 : Int)))))]⟩⟩ : ByteArray) ++ p.1)) { size := 1, tr := Tr.node (some (AObj.cells (List.map (renV [0]) L) T St.ro [])) Tr.nil Tr.nil }) False) (IntKind.i64 = IntKind.i64 ∧ p.5 = p.5 ∧ p.1 = p.1 ∧ (⟨⟨[UInt8.ofNat (Int.toNat (IntKind.wrap IntKind.u8 (IntKind.wrap IntKind.i64 (p.5 - (1 : Int)))))]⟩⟩ : ByteArray) = (⟨⟨[UInt8.ofNat (Int.toNat (IntKind.wrap IntKind.u8 (IntKind.wrap IntKind.i64 (p.5 - (1 : Int)))))]⟩⟩ : ByteArray) ∧ (⟨1, some 5, true⟩ : ET) = (⟨1, some 5, true⟩ : ET) ∧ IntKind.u8 = IntKind.u8 ∧ IntKind.wrap IntKind.u8 (IntKind.wrap IntKind.i64 (p.5 - (1 : Int))) = IntKind.wrap IntKind.u8 (IntKind.wrap IntKind.i64 (p.5 - (1 : Int))) ∧ IntKind.i64 = IntKind.i64 ∧ p.5 = p.5 ∧ ifK (decide (ByteArray.size (four p.4 ++ (⟨⟨[UInt8.ofNat (Int.toNat (IntKind.wrap IntKind.u8 (IntKind.wrap IntKind.i64 (p.5 - (1 : Int)))))]⟩⟩ : ByteArray)) + ByteArray.size p.1 < 9223372036854775808)) (Q (Value.string (four p.4 ++ (⟨⟨[UInt8.ofNat (Int.toNat (IntKind.wrap IntKind.u8 (IntKind.wrap IntKind.i64 (p.5 - (1 : Int)))))]⟩⟩ : ByteArray) ++ p.1)) { size := 1, tr := Tr.node (some (AObj.cells (List.map (renV [0]) L) T St.ro [])) Tr.nil Tr.nil }) False)) (Q (Value.string p.1) { size := 1, tr := Tr.node (some (AObj.cells (List.map (renV [0]) L) T St.ro [])) Tr.nil Tr.nil })) := by kernel_rfl
theorem w2 (fl : Int) (p : Pt) (R : RFun) (Q : Value → AHeap → Prop) :
   startA frV pNoHint 30 20 41 0 128 [] R wB ([vi 2, vi fl, ptV p nl] ++ List.replicate 125 undef) AHeap.empty (endGK frV [.tmp 6] 0 [[]] Q)
   = (ifK p.6 (IntKind.i64 = IntKind.i64 ∧ p.5 = p.5 ∧ p.1 = p.1 ∧ (⟨⟨[UInt8.ofNat (Int.toNat (IntKind.wrap IntKind.u8 (IntKind.wrap IntKind.i64 (p.5 - (1 : Int)))))]⟩⟩ : ByteArray) = (⟨⟨[UInt8.ofNat (Int.toNat (IntKind.wrap IntKind.u8 (IntKind.wrap IntKind.i64 (p.5 - (1 : Int)))))]⟩⟩ : ByteArray) ∧ (⟨1, some 5, true⟩ : ET) = (⟨1, some 5, true⟩ : ET) ∧ IntKind.u8 = IntKind.u8 ∧ IntKind.wrap IntKind.u8 (IntKind.wrap IntKind.i64 (p.5 - (1 : Int))) = IntKind.wrap IntKind.u8 (IntKind.wrap IntKind.i64 (p.5 - (1 : Int))) ∧ IntKind.i64 = IntKind.i64 ∧ p.5 = p.5 ∧ ifK (decide (ByteArray.size (four (IntKind.wrap IntKind.i64 (↑(BitVec.toNat (BitVec.ofInt (IntKind.bits IntKind.i64) p.4 ||| BitVec.ofInt (IntKind.bits IntKind.i64) (2147483648 : Int))) : Int)) ++ (⟨⟨[UInt8.ofNat (Int.toNat (IntKind.wrap IntKind.u8 (IntKind.wrap IntKind.i64 (p.5 - (1 : Int)))))]⟩⟩ : ByteArray)) + ByteArray.size p.1 < 9223372036854775808)) (Q (Value.string (four (IntKind.wrap IntKind.i64 (↑(BitVec.toNat (BitVec.ofInt (IntKind.bits IntKind.i64) p.4 ||| BitVec.ofInt (IntKind.bits IntKind.i64) (2147483648 : Int))) : Int)) ++ (⟨⟨[UInt8.ofNat (Int.toNat (IntKind.wrap IntKind.u8 (IntKind.wrap IntKind.i64 (p.5 - (1 : Int)))))]⟩⟩ : ByteArray) ++ p.1)) { size := 0, tr := Tr.nil }) False) (IntKind.i64 = IntKind.i64 ∧ p.5 = p.5 ∧ p.1 = p.1 ∧ (⟨⟨[UInt8.ofNat (Int.toNat (IntKind.wrap IntKind.u8 (IntKind.wrap IntKind.i64 (p.5 - (1 : Int)))))]⟩⟩ : ByteArray) = (⟨⟨[UInt8.ofNat (Int.toNat (IntKind.wrap IntKind.u8 (IntKind.wrap IntKind.i64 (p.5 - (1 : Int)))))]⟩⟩ : ByteArray) ∧ (⟨1, some 5, true⟩ : ET) = (⟨1, some 5, true⟩ : ET) ∧ IntKind.u8 = IntKind.u8 ∧ IntKind.wrap IntKind.u8 (IntKind.wrap IntKind.i64 (p.5 - (1 : Int))) = IntKind.wrap IntKind.u8 (IntKind.wrap IntKind.i64 (p.5 - (1 : Int))) ∧ IntKind.i64 = IntKind.i64 ∧ p.5 = p.5 ∧ ifK (decide (ByteArray.size (four p.4 ++ (⟨⟨[UInt8.ofNat (Int.toNat (IntKind.wrap IntKind.u8 (IntKind.wrap IntKind.i64 (p.5 - (1 : Int)))))]⟩⟩ : ByteArray)) + ByteArray.size p.1 < 9223372036854775808)) (Q (Value.string (four p.4 ++ (⟨⟨[UInt8.ofNat (Int.toNat (IntKind.wrap IntKind.u8 (IntKind.wrap IntKind.i64 (p.5 - (1 : Int)))))]⟩⟩ : ByteArray) ++ p.1)) { size := 0, tr := Tr.nil }) False)) := by kernel_rfl
theorem v2 (fl : Int) (p : Pt) (n c : Nat) (L : List Value) (T : ET) (R : RFun) (Q : Value → AHeap → Prop) :
   startA frV pNoHint 30 20 41 1 128 [] R wB ([vi 2, vi fl, ptV p (slo 0 0 n c)] ++ List.replicate 125 undef) (roH1w L T) (endGK frV [.tmp 6] 1 [[]] Q)
   = (ifK p.6 (IntKind.i64 = IntKind.i64 ∧ p.5 = p.5 ∧ p.1 = p.1 ∧ (⟨⟨[UInt8.ofNat (Int.toNat (IntKind.wrap IntKind.u8 (IntKind.wrap IntKind.i64 (p.5 - (1 : Int)))))]⟩⟩ : ByteArray) = (⟨⟨[UInt8.ofNat (Int.toNat (IntKind.wrap IntKind.u8 (IntKind.wrap IntKind.i64 (p.5 - (1 : Int)))))]⟩⟩ : ByteArray) ∧ (⟨1, some 5, true⟩ : ET) = (⟨1, some 5, true⟩ : ET) ∧ IntKind.u8 = IntKind.u8 ∧ IntKind.wrap IntKind.u8 (IntKind.wrap IntKind.i64 (p.5 - (1 : Int))) = IntKind.wrap IntKind.u8 (IntKind.wrap IntKind.i64 (p.5 - (1 : Int))) ∧ IntKind.i64 = IntKind.i64 ∧ p.5 = p.5 ∧ ifK (decide (ByteArray.size (four (IntKind.wrap IntKind.i64 (↑(BitVec.toNat (BitVec.ofInt (IntKind.bits IntKind.i64) p.4 ||| BitVec.ofInt (IntKind.bits IntKind.i64) (2147483648 : Int))) : Int)) ++ (⟨⟨[UInt8.ofNat (Int.toNat (IntKind.wrap IntKind.u8 (IntKind.wrap IntKind.i64 (p.5 - (1 : Int)))))]⟩⟩ : ByteArray)) + ByteArray.size p.1 < 9223372036854775808)) (Q (Value.string (four (IntKind.wrap IntKind.i64 (↑(BitVec.toNat (BitVec.ofInt (IntKind.bits IntKind.i64) p.4 ||| BitVec.ofInt (IntKind.bits IntKind.i64) (2147483648 : Int))) : Int)) ++ (⟨⟨[UInt8.ofNat (Int.toNat (IntKind.wrap IntKind.u8 (IntKind.wrap IntKind.i64 (p.5 - (1 : Int)))))]⟩⟩ : ByteArray) ++ p.1)) { size := 1, tr := Tr.node (some (AObj.cells (List.map (renV [0]) L) T St.ro [])) Tr.nil Tr.nil }) False) (IntKind.i64 = IntKind.i64 ∧ p.5 = p.5 ∧ p.1 = p.1 ∧ (⟨⟨[UInt8.ofNat (Int.toNat (IntKind.wrap IntKind.u8 (IntKind.wrap IntKind.i64 (p.5 - (1 : Int)))))]⟩⟩ : ByteArray) = (⟨⟨[UInt8.ofNat (Int.toNat (IntKind.wrap IntKind.u8 (IntKind.wrap IntKind.i64 (p.5 - (1 : Int)))))]⟩⟩ : ByteArray) ∧ (⟨1, some 5, true⟩ : ET) = (⟨1, some 5, true⟩ : ET) ∧ IntKind.u8 = IntKind.u8 ∧ IntKind.wrap IntKind.u8 (IntKind.wrap IntKind.i64 (p.5 - (1 : Int))) = IntKind.wrap IntKind.u8 (IntKind.wrap IntKind.i64 (p.5 - (1 : Int))) ∧ IntKind.i64 = IntKind.i64 ∧ p.5 = p.5 ∧ ifK (decide (ByteArray.size (four p.4 ++ (⟨⟨[UInt8.ofNat (Int.toNat (IntKind.wrap IntKind.u8 (IntKind.wrap IntKind.i64 (p.5 - (1 : Int)))))]⟩⟩ : ByteArray)) + ByteArray.size p.1 < 9223372036854775808)) (Q (Value.string (four p.4 ++ (⟨⟨[UInt8.ofNat (Int.toNat (IntKind.wrap IntKind.u8 (IntKind.wrap IntKind.i64 (p.5 - (1 : Int)))))]⟩⟩ : ByteArray) ++ p.1)) { size := 1, tr := Tr.node (some (AObj.cells (List.map (renV [0]) L) T St.ro [])) Tr.nil Tr.nil }) False)) := by kernel_rfl
theorem w3 (fl : Int) (p : Pt) (R : RFun) (Q : Value → AHeap → Prop) :
   startA frV pNoHint 30 20 41 0 128 [] R wB ([vi 3, vi fl, ptV p nl] ++ List.replicate 125 undef) AHeap.empty (endGK frV [.tmp 6] 0 [[]] Q)
   = (Q (Value.string (four p.3)) { size := 0, tr := Tr.nil }) := by kernel_rfl
theorem v3 (fl : Int) (p : Pt) (n c : Nat) (L : List Value) (T : ET) (R : RFun) (Q : Value → AHeap → Prop) :
   startA frV pNoHint 30 20 41 1 128 [] R wB ([vi 3, vi fl, ptV p (slo 0 0 n c)] ++ List.replicate 125 undef) (roH1w L T) (endGK frV [.tmp 6] 1 [[]] Q)
   = (Q (Value.string (four p.3)) { size := 1, tr := Tr.node (some (AObj.cells (List.map (renV [0]) L) T St.ro [])) Tr.nil Tr.nil }) := by kernel_rfl
theorem w7 (fl : Int) (p : Pt) (R : RFun) (Q : Value → AHeap → Prop) :
   startA frV pNoHint 30 20 41 0 128 [] R wB ([vi 7, vi fl, ptV p nl] ++ List.replicate 125 undef) AHeap.empty (endGK frV [.tmp 6] 0 [[]] Q)
   = (p.1 = p.1 ∧ IntKind.i64 = IntKind.i64 ∧ p.3 = p.3 ∧ p.1 = p.1 ∧ ifK (decide (ByteArray.size (four p.4 ++ four p.3) + ByteArray.size p.1 < 9223372036854775808)) (Q (Value.string (four p.4 ++ four p.3 ++ p.1)) { size := 0, tr := Tr.nil }) False) := by kernel_rfl
theorem v7 (fl : Int) (p : Pt) (n c : Nat) (L : List Value) (T : ET) (R : RFun) (Q : Value → AHeap → Prop) :
   startA frV pNoHint 30 20 41 1 128 [] R wB ([vi 7, vi fl, ptV p (slo 0 0 n c)] ++ List.replicate 125 undef) (roH1w L T) (endGK frV [.tmp 6] 1 [[]] Q)
   = (p.1 = p.1 ∧ IntKind.i64 = IntKind.i64 ∧ p.3 = p.3 ∧ p.1 = p.1 ∧ ifK (decide (ByteArray.size (four p.4 ++ four p.3) + ByteArray.size p.1 < 9223372036854775808)) (Q (Value.string (four p.4 ++ four p.3 ++ p.1)) { size := 1, tr := Tr.node (some (AObj.cells (List.map (renV [0]) L) T St.ro [])) Tr.nil Tr.nil }) False) := by kernel_rfl
theorem w8 (fl : Int) (p : Pt) (R : RFun) (Q : Value → AHeap → Prop) :
   startA frV pNoHint 30 20 41 0 128 [] R wB ([vi 8, vi fl, ptV p nl] ++ List.replicate 125 undef) AHeap.empty (endGK frV [.tmp 6] 0 [[]] Q)
   = (Q (Value.string (four p.7)) { size := 0, tr := Tr.nil }) := by kernel_rfl
theorem v8 (fl : Int) (p : Pt) (n c : Nat) (L : List Value) (T : ET) (R : RFun) (Q : Value → AHeap → Prop) :
   startA frV pNoHint 30 20 41 1 128 [] R wB ([vi 8, vi fl, ptV p (slo 0 0 n c)] ++ List.replicate 125 undef) (roH1w L T) (endGK frV [.tmp 6] 1 [[]] Q)
   = (Q (Value.string (four p.7)) { size := 1, tr := Tr.node (some (AObj.cells (List.map (renV [0]) L) T St.ro [])) Tr.nil Tr.nil }) := by kernel_rfl
theorem w16 (fl : Int) (p : Pt) (R : RFun) (Q : Value → AHeap → Prop) :
   startA frV pNoHint 30 20 41 0 128 [] R wB ([vi 16, vi fl, ptV p nl] ++ List.replicate 125 undef) AHeap.empty (endGK frV [.tmp 6] 0 [[]] Q)
   = (p.1 = p.1 ∧ ifK (decide (ByteArray.size (four p.4) + ByteArray.size p.1 < 9223372036854775808)) (Q (Value.string (four p.4 ++ p.1)) { size := 0, tr := Tr.nil }) False) := by kernel_rfl
theorem v16 (fl : Int) (p : Pt) (n c : Nat) (L : List Value) (T : ET) (R : RFun) (Q : Value → AHeap → Prop) :
   startA frV pNoHint 30 20 41 1 128 [] R wB ([vi 16, vi fl, ptV p (slo 0 0 n c)] ++ List.replicate 125 undef) (roH1w L T) (endGK frV [.tmp 6] 1 [[]] Q)
   = (p.1 = p.1 ∧ ifK (decide (ByteArray.size (four p.4) + ByteArray.size p.1 < 9223372036854775808)) (Q (Value.string (four p.4 ++ p.1)) { size := 1, tr := Tr.node (some (AObj.cells (List.map (renV [0]) L) T St.ro [])) Tr.nil Tr.nil }) False) := by kernel_rfl
theorem wD (k fl : Int) (p : Pt) (R : RFun) (Q : Value → AHeap → Prop) :
   startA frV wHint 30 20 41 0 128 [] R wB ([vi k, vi fl, ptV p nl] ++ List.replicate 125 undef) AHeap.empty (endGK frV [.tmp 6] 0 [[]] Q)
   = (ifK (decide (k = (0 : Int))) False (ifK (decide (k = (1 : Int))) False (ifK (decide (k = (2 : Int))) False (ifK (decide (k = (3 : Int))) False (ifK (decide (k = (4 : Int))) False (ifK (decide (k = (7 : Int))) False (ifK (decide (k = (8 : Int))) False (ifK (decide (k = (16 : Int))) False (Q (Value.string p.1) { size := 0, tr := Tr.nil }))))))))) := by kernel_rfl
theorem vD (k fl : Int) (p : Pt) (n c : Nat) (L : List Value) (T : ET) (R : RFun) (Q : Value → AHeap → Prop) :
   startA frV wHint 30 20 41 1 128 [] R wB ([vi k, vi fl, ptV p (slo 0 0 n c)] ++ List.replicate 125 undef) (roH1w L T) (endGK frV [.tmp 6] 1 [[]] Q)
   = (ifK (decide (k = (0 : Int))) False (ifK (decide (k = (1 : Int))) False (ifK (decide (k = (2 : Int))) False (ifK (decide (k = (3 : Int))) False (ifK (decide (k = (4 : Int))) False (ifK (decide (k = (7 : Int))) False (ifK (decide (k = (8 : Int))) False (ifK (decide (k = (16 : Int))) False (Q (Value.string p.1) { size := 1, tr := Tr.node (some (AObj.cells (List.map (renV [0]) L) T St.ro [])) Tr.nil Tr.nil }))))))))) := by kernel_rfl
theorem w4N (fl : Int) (p : Pt) (R : RFun) (Q : Value → AHeap → Prop) :
   startA frV w4Hint 30 20 41 0 128 [] R wB ([vi 4, vi fl, ptV p nl] ++ List.replicate 125 undef) AHeap.empty (endGK frV [.tmp 6] 0 [[]] Q)
   = (Q (Value.string (⟨⟨[]⟩⟩ : ByteArray)) { size := 0, tr := Tr.nil }) := by kernel_rfl
theorem w4S (fl : Int) (p : Pt) (n c : Nat) (L : List Value) (T : ET) (R : RFun) (Q : Value → AHeap → Prop) :
   startA frV w4Hint 30 20 41 1 128 wCuts R wB ([vi 4, vi fl, ptV p (slo 0 0 n c)] ++ List.replicate 125 undef) (roH1w L T) (endGK frV [.tmp 6] 1 [[]] Q)
   = (R 0 none [] [Value.slice none 0 0, Value.slice (some { block := 0, off := 0 }) n c, Value.int IntKind.i64 (↑n : Int), Value.int IntKind.i64 (0 : Int)] { size := 1, tr := Tr.node (some (AObj.cells (List.map (renV [0]) L) T St.ro [])) Tr.nil Tr.nil }) := by kernel_rfl
theorem w40 (m n c : Nat) (i : Int) (L : List Value) (T : ET) (R : RFun) (Q : Value → AHeap → Prop) :
   segA frV w4Hint 30 20 41 1 128 wCuts R wB wP [] m [8,77,78,79] [nl, slo 0 0 n c, vi n, vi i] (roH1w L T) (endGK frV [.tmp 6] 1 [[]] Q)
   = (ifK (decide (i < (↑n : Int))) (ifK (decide ((0 : Int) ≤ i ∧ i < (↑n : Int))) (∃ n_1 n_2, LoadIs frV 39 (Value.pointer (some { block := 0, off := 0 + Int.toNat i * 2 })) { size := 1, tr := Tr.node (some (AObj.cells L T St.ro [])) Tr.nil Tr.nil } (Value.agg { toList := [Value.int IntKind.i64 n_1, Value.int IntKind.i64 n_2] }) ∧ R 1 (some m) [] [Value.slice (some { block := 1, off := 0 }) 6 6, Value.slice (some { block := 0, off := 0 }) n c, Value.int IntKind.i64 (↑n : Int), Value.int IntKind.i64 (IntKind.wrap IntKind.i64 (i + (1 : Int)))] { size := 2, tr := Tr.node (some (AObj.cells (List.map (renV [0, 4]) L) T St.ro [])) (Tr.node (some (AObj.cells [Value.int IntKind.u8 (IntKind.wrap IntKind.u8 (Int.fdiv n_1 ((2 : Int) ^ min (Int.toNat (8 : Int)) 64))), Value.int IntKind.u8 (IntKind.wrap IntKind.u8 n_1), Value.int IntKind.u8 (↑(BitVec.toNat (UInt8.toBitVec (u8i (n_2 / (16777216 : Int))))) : Int), Value.int IntKind.u8 (↑(BitVec.toNat (UInt8.toBitVec (u8i (n_2 / (65536 : Int))))) : Int), Value.int IntKind.u8 (↑(BitVec.toNat (UInt8.toBitVec (u8i (n_2 / (256 : Int))))) : Int), Value.int IntKind.u8 (↑(BitVec.toNat (UInt8.toBitVec (u8i n_2))) : Int)] (⟨1, some 5, true⟩ : ET) St.live [])) Tr.nil Tr.nil) Tr.nil }) False) (Q (Value.string (⟨⟨[]⟩⟩ : ByteArray)) { size := 1, tr := Tr.node (some (AObj.cells (List.map (renV [0]) L) T St.ro [])) Tr.nil Tr.nil })) := by kernel_rfl
theorem w41 (m n c nb : Nat) (i : Int) (L B : List Value) (T : ET) (R : RFun) (Q : Value → AHeap → Prop) :
   segA frV w4Hint 30 20 41 1 128 wCuts R wB wP [] m [8,77,78,79] [slb 1 nb, slo 0 0 n c, vi n, vi i] (w1H L B T) (endGK frV [.tmp 6] 1 [[]] Q)
   = (ifK (decide (i < (↑n : Int))) (ifK (decide ((0 : Int) ≤ i ∧ i < (↑n : Int))) (∃ n_1 n_2, LoadIs frV 39 (Value.pointer (some { block := 0, off := 0 + Int.toNat i * 2 })) { size := 2, tr := Tr.node (some (AObj.cells L T St.ro [])) (Tr.node (some (AObj.cells B (⟨1, some (nat_lit 5), true⟩ : ET) St.live [])) Tr.nil Tr.nil) Tr.nil } (Value.agg { toList := [Value.int IntKind.i64 n_1, Value.int IntKind.i64 n_2] }) ∧ ifK (nb == nb) (ifK (decide (0 + nb * 1 = List.length B ∧ nb ≤ nb ∧ (nb + 2) * 1 ≤ 140737488355328 ∧ nb + 2 < 4611686018427387904)) (ifK (nb + 2 == nb + 2) (ifK (decide (0 + (nb + 2) * 1 = List.length (List.take (nb * 1) (List.drop 0 B) ++ [Value.int IntKind.u8 (IntKind.wrap IntKind.u8 (Int.fdiv n_1 ((2 : Int) ^ min (Int.toNat (8 : Int)) 64))), Value.int IntKind.u8 (IntKind.wrap IntKind.u8 n_1)]) ∧ nb + 2 ≤ nb + 2 ∧ (nb + 2 + ByteArray.size (four n_2)) * 1 ≤ 140737488355328 ∧ nb + 2 + ByteArray.size (four n_2) < 4611686018427387904)) (R 1 (some m) [] [Value.slice (some { block := 1, off := 0 }) (nb + 2 + ByteArray.size (four n_2)) (nb + 2 + ByteArray.size (four n_2)), Value.slice (some { block := 0, off := 0 }) n c, Value.int IntKind.i64 (↑n : Int), Value.int IntKind.i64 (IntKind.wrap IntKind.i64 (i + (1 : Int)))] { size := 2, tr := Tr.node (some (AObj.cells (List.map (renV [0, 5]) L) T St.ro [])) (Tr.node (some (AObj.cells (List.map (renV [0, 5]) (List.take ((nb + 2) * 1) (List.drop 0 (List.take (nb * 1) (List.drop 0 B) ++ [Value.int IntKind.u8 (IntKind.wrap IntKind.u8 (Int.fdiv n_1 ((2 : Int) ^ min (Int.toNat (8 : Int)) 64))), Value.int IntKind.u8 (IntKind.wrap IntKind.u8 n_1)])) ++ [Value.int IntKind.u8 (↑(BitVec.toNat (UInt8.toBitVec (u8i (n_2 / (16777216 : Int))))) : Int), Value.int IntKind.u8 (↑(BitVec.toNat (UInt8.toBitVec (u8i (n_2 / (65536 : Int))))) : Int), Value.int IntKind.u8 (↑(BitVec.toNat (UInt8.toBitVec (u8i (n_2 / (256 : Int))))) : Int), Value.int IntKind.u8 (↑(BitVec.toNat (UInt8.toBitVec (u8i n_2))) : Int)])) (⟨1, some 5, true⟩ : ET) St.live [])) Tr.nil Tr.nil) Tr.nil }) False) False) False) False) False) (ifK (decide (0 + nb ≤ List.length B) && u8s (List.take nb (List.drop 0 B))) (Q (Value.string { data := { toList := bytesFrom (List.take nb (List.drop 0 B)) } }) { size := 1, tr := Tr.node (some (AObj.cells (List.map (renV [0]) L) T St.ro [])) Tr.nil Tr.nil }) False)) := by kernel_rfl
end Go.Ev

/- What frame.write writes: its summary. -/
namespace Go.Ev
open Go Go.Proofs Go.RowKit
set_option linter.unusedVariables false
set_option linter.unusedSimpArgs false
set_option maxRecDepth 100000
set_option maxHeartbeats 4000000
def orT (n : Int) : Int := IntKind.wrap IntKind.i64 (↑(BitVec.toNat (BitVec.ofInt (IntKind.bits IntKind.i64) n ||| BitVec.ofInt (IntKind.bits IntKind.i64) (2147483648 : Int))) : Int)
def pri5 (p : Pt) : ByteArray := four (if p.only = true then orT p.last else p.last) ++ (⟨⟨[u8i (p.weight - 1)]⟩⟩ : ByteArray) ++ p.d
def padB (p : Pt) : ByteArray := (⟨⟨[u8i (p.pad - 1)]⟩⟩ : ByteArray) ++ p.d ++ (⟨(Lib.repeatL [(0 : UInt8)] (p.pad - 1).toNat).toArray⟩ : ByteArray)
def wrO (k fl : Int) (p : Pt) (S : ByteArray) : ByteArray :=
  if k = 0 then (if fl / 8 % 2 = 1 ∧ 0 < p.pad ∧ p.pad ≤ 256 then padB p else p.d) else
  if k = 1 then (if fl / 32 % 2 = 1 then pri5 p else p.d) else
  if k = 2 then pri5 p else
  if k = 3 then four p.code else
  if k = 4 then S else
  if k = 7 then four p.last ++ four p.code ++ p.d else
  if k = 8 then four p.more else
  if k = 16 then four p.last ++ p.d else p.d
theorem u8i_wr (x : Int) : u8i (IntKind.wrap .i64 x) = u8i x := by
  unfold u8i
  congr 2
  rw [wr_i64]; omega
theorem four_size (n : Int) : (four n).size = 4 := rfl
theorem ap_size (a b : ByteArray) : (a ++ b).size = a.size + b.size := ByteArray.size_append
theorem one_size (x : UInt8) : (⟨⟨[x]⟩⟩ : ByteArray).size = 1 := rfl
theorem repL_size (n : Nat) : (⟨(Lib.repeatL [(0 : UInt8)] n).toArray⟩ : ByteArray).size = n := by
  show (Lib.repeatL [(0 : UInt8)] n).toArray.size = n
  rw [List.size_toArray, Lib.repeatL_length]
  simp
theorem wrO_0 (fl : Int) (p : Pt) (S : ByteArray) : wrO 0 fl p S = (if fl / 8 % 2 = 1 ∧ 0 < p.pad ∧ p.pad ≤ 256 then padB p else p.d) := by unfold wrO; simp
theorem wrO_1 (fl : Int) (p : Pt) (S : ByteArray) : wrO 1 fl p S = (if fl / 32 % 2 = 1 then pri5 p else p.d) := by unfold wrO; simp
theorem wrO_2 (fl : Int) (p : Pt) (S : ByteArray) : wrO 2 fl p S = (pri5 p) := by unfold wrO; simp
theorem wrO_3 (fl : Int) (p : Pt) (S : ByteArray) : wrO 3 fl p S = (four p.code) := by unfold wrO; simp
theorem wrO_4 (fl : Int) (p : Pt) (S : ByteArray) : wrO 4 fl p S = (S) := by unfold wrO; simp
theorem wrO_7 (fl : Int) (p : Pt) (S : ByteArray) : wrO 7 fl p S = (four p.last ++ four p.code ++ p.d) := by unfold wrO; simp
theorem wrO_8 (fl : Int) (p : Pt) (S : ByteArray) : wrO 8 fl p S = (four p.more) := by unfold wrO; simp
theorem wrO_16 (fl : Int) (p : Pt) (S : ByteArray) : wrO 16 fl p S = (four p.last ++ p.d) := by unfold wrO; simp
abbrev WQ (k fl : Int) (p : Pt) (S : ByteArray) (HL : AHeap) (v : Value) (H : AHeap) : Prop := v = .string (wrO k fl p S) ∧ H = HL
theorem w0h (fl : Int) (p : Pt) (S : ByteArray) (R : RFun) (hd : p.d.size ≤ 1000000000000) : Hd (startA frV pNoHint 30 20 41 0 128 [] R wB ([vi 0, vi fl, ptV p nl] ++ List.replicate 125 undef) AHeap.empty (endGK frV [.tmp 6] 0 [[]] (WQ 0 fl p S AHeap.empty))) := by
  constructor
  rw [w0]
  simp only [true_and, u8_wr, u8i_wr, bit8, bitT (show (8 : Int) ≠ 0 by decide)]
  refine ifK_dec (fun hP => ?_) (fun hP => ⟨by rw [wrO_0, if_neg (fun h => hP h.1)], rfl⟩)
  refine ifK_dec (fun h1 => ?_) (fun h1 => ⟨by rw [wrO_0, if_neg (fun h => h1 h.2.1)], rfl⟩)
  refine ifK_dec (fun h2 => ?_) (fun h2 => ⟨by rw [wrO_0, if_neg (fun h => h2 h.2.2)], rfl⟩)
  have hw : IntKind.wrap IntKind.i64 (p.pad - 1) = p.pad - 1 := wr_small (by omega) (by omega)
  simp only [hw]
  refine ifK_dec (fun _ => ?_) (fun h => absurd (by simp only [one_size]; omega) h)
  refine ifK_dec (fun _ => ?_) (fun h => absurd ⟨by omega, by omega, by decide⟩ h)
  refine ifK_dec (fun _ => ?_) (fun h => absurd (by simp only [ap_size, one_size, repL_size]; omega) h)
  exact ⟨by rw [wrO_0, if_pos ⟨hP, h1, h2⟩]; rfl, rfl⟩
theorem v0h (fl : Int) (p : Pt) (n c : Nat) (xs : List Int) (T : ET) (S : ByteArray) (R : RFun) (hd : p.d.size ≤ 1000000000000) : Hd (startA frV pNoHint 30 20 41 1 128 [] R wB ([vi 0, vi fl, ptV p (slo 0 0 n c)] ++ List.replicate 125 undef) (roH1w (xs.map vi) T) (endGK frV [.tmp 6] 1 [[]] (WQ 0 fl p S (roH1w (xs.map vi) T)))) := by
  constructor
  rw [v0]
  rw [vi_ren]
  simp only [true_and, u8_wr, u8i_wr, bit8, bitT (show (8 : Int) ≠ 0 by decide)]
  refine ifK_dec (fun hP => ?_) (fun hP => ⟨by rw [wrO_0, if_neg (fun h => hP h.1)], rfl⟩)
  refine ifK_dec (fun h1 => ?_) (fun h1 => ⟨by rw [wrO_0, if_neg (fun h => h1 h.2.1)], rfl⟩)
  refine ifK_dec (fun h2 => ?_) (fun h2 => ⟨by rw [wrO_0, if_neg (fun h => h2 h.2.2)], rfl⟩)
  have hw : IntKind.wrap IntKind.i64 (p.pad - 1) = p.pad - 1 := wr_small (by omega) (by omega)
  simp only [hw]
  refine ifK_dec (fun _ => ?_) (fun h => absurd (by simp only [one_size]; omega) h)
  refine ifK_dec (fun _ => ?_) (fun h => absurd ⟨by omega, by omega, by decide⟩ h)
  refine ifK_dec (fun _ => ?_) (fun h => absurd (by simp only [ap_size, one_size, repL_size]; omega) h)
  exact ⟨by rw [wrO_0, if_pos ⟨hP, h1, h2⟩]; rfl, rfl⟩
theorem w1h (fl : Int) (p : Pt) (S : ByteArray) (R : RFun) (hd : p.d.size ≤ 1000000000000) : Hd (startA frV pNoHint 30 20 41 0 128 [] R wB ([vi 1, vi fl, ptV p nl] ++ List.replicate 125 undef) AHeap.empty (endGK frV [.tmp 6] 0 [[]] (WQ 1 fl p S AHeap.empty))) := by
  constructor
  rw [w1]
  simp only [true_and, u8_wr, u8i_wr, bit32, bitT (show (32 : Int) ≠ 0 by decide)]
  refine ifK_dec (fun hR => ?_) (fun hR => ⟨by rw [wrO_1, if_neg hR], rfl⟩)
  have leaf : ∀ x : Int, x = (if p.only = true then orT p.last else p.last) → WQ 1 fl p S AHeap.empty (.string (four x ++ (⟨⟨[u8i (p.weight - 1)]⟩⟩ : ByteArray) ++ p.d)) AHeap.empty := fun x hx => ⟨by rw [wrO_1, if_pos hR, hx]; rfl, rfl⟩
  cases ho : p.only with
  | true => exact ifK_t rfl (ifK_dec (fun _ => leaf _ (by rw [if_pos ho]; rfl)) (fun h => absurd (by simp only [ap_size, four_size, one_size]; omega) h))
  | false => exact ifK_f rfl (ifK_dec (fun _ => leaf _ (by rw [if_neg (by simp [ho])])) (fun h => absurd (by simp only [ap_size, four_size, one_size]; omega) h))
theorem v1h (fl : Int) (p : Pt) (n c : Nat) (xs : List Int) (T : ET) (S : ByteArray) (R : RFun) (hd : p.d.size ≤ 1000000000000) : Hd (startA frV pNoHint 30 20 41 1 128 [] R wB ([vi 1, vi fl, ptV p (slo 0 0 n c)] ++ List.replicate 125 undef) (roH1w (xs.map vi) T) (endGK frV [.tmp 6] 1 [[]] (WQ 1 fl p S (roH1w (xs.map vi) T)))) := by
  constructor
  rw [v1]
  rw [vi_ren]
  simp only [true_and, u8_wr, u8i_wr, bit32, bitT (show (32 : Int) ≠ 0 by decide)]
  refine ifK_dec (fun hR => ?_) (fun hR => ⟨by rw [wrO_1, if_neg hR], rfl⟩)
  have leaf : ∀ x : Int, x = (if p.only = true then orT p.last else p.last) → WQ 1 fl p S (roH1w (xs.map vi) T) (.string (four x ++ (⟨⟨[u8i (p.weight - 1)]⟩⟩ : ByteArray) ++ p.d)) (roH1w (xs.map vi) T) := fun x hx => ⟨by rw [wrO_1, if_pos hR, hx]; rfl, rfl⟩
  cases ho : p.only with
  | true => exact ifK_t rfl (ifK_dec (fun _ => leaf _ (by rw [if_pos ho]; rfl)) (fun h => absurd (by simp only [ap_size, four_size, one_size]; omega) h))
  | false => exact ifK_f rfl (ifK_dec (fun _ => leaf _ (by rw [if_neg (by simp [ho])])) (fun h => absurd (by simp only [ap_size, four_size, one_size]; omega) h))
theorem w2h (fl : Int) (p : Pt) (S : ByteArray) (R : RFun) (hd : p.d.size ≤ 1000000000000) : Hd (startA frV pNoHint 30 20 41 0 128 [] R wB ([vi 2, vi fl, ptV p nl] ++ List.replicate 125 undef) AHeap.empty (endGK frV [.tmp 6] 0 [[]] (WQ 2 fl p S AHeap.empty))) := by
  constructor
  rw [w2]
  simp only [true_and, u8_wr, u8i_wr]
  have leaf : ∀ x : Int, x = (if p.only = true then orT p.last else p.last) → WQ 2 fl p S AHeap.empty (.string (four x ++ (⟨⟨[u8i (p.weight - 1)]⟩⟩ : ByteArray) ++ p.d)) AHeap.empty := fun x hx => ⟨by rw [wrO_2, hx]; rfl, rfl⟩
  cases ho : p.only with
  | true => exact ifK_t rfl (ifK_dec (fun _ => leaf _ (by rw [if_pos ho]; rfl)) (fun h => absurd (by simp only [ap_size, four_size, one_size]; omega) h))
  | false => exact ifK_f rfl (ifK_dec (fun _ => leaf _ (by rw [if_neg (by simp [ho])])) (fun h => absurd (by simp only [ap_size, four_size, one_size]; omega) h))
theorem v2h (fl : Int) (p : Pt) (n c : Nat) (xs : List Int) (T : ET) (S : ByteArray) (R : RFun) (hd : p.d.size ≤ 1000000000000) : Hd (startA frV pNoHint 30 20 41 1 128 [] R wB ([vi 2, vi fl, ptV p (slo 0 0 n c)] ++ List.replicate 125 undef) (roH1w (xs.map vi) T) (endGK frV [.tmp 6] 1 [[]] (WQ 2 fl p S (roH1w (xs.map vi) T)))) := by
  constructor
  rw [v2]
  rw [vi_ren]
  simp only [true_and, u8_wr, u8i_wr]
  have leaf : ∀ x : Int, x = (if p.only = true then orT p.last else p.last) → WQ 2 fl p S (roH1w (xs.map vi) T) (.string (four x ++ (⟨⟨[u8i (p.weight - 1)]⟩⟩ : ByteArray) ++ p.d)) (roH1w (xs.map vi) T) := fun x hx => ⟨by rw [wrO_2, hx]; rfl, rfl⟩
  cases ho : p.only with
  | true => exact ifK_t rfl (ifK_dec (fun _ => leaf _ (by rw [if_pos ho]; rfl)) (fun h => absurd (by simp only [ap_size, four_size, one_size]; omega) h))
  | false => exact ifK_f rfl (ifK_dec (fun _ => leaf _ (by rw [if_neg (by simp [ho])])) (fun h => absurd (by simp only [ap_size, four_size, one_size]; omega) h))
theorem w3h (fl : Int) (p : Pt) (S : ByteArray) (R : RFun) (hd : p.d.size ≤ 1000000000000) : Hd (startA frV pNoHint 30 20 41 0 128 [] R wB ([vi 3, vi fl, ptV p nl] ++ List.replicate 125 undef) AHeap.empty (endGK frV [.tmp 6] 0 [[]] (WQ 3 fl p S AHeap.empty))) := by
  constructor
  rw [w3]
  exact ⟨by rw [wrO_3], rfl⟩
theorem v3h (fl : Int) (p : Pt) (n c : Nat) (xs : List Int) (T : ET) (S : ByteArray) (R : RFun) (hd : p.d.size ≤ 1000000000000) : Hd (startA frV pNoHint 30 20 41 1 128 [] R wB ([vi 3, vi fl, ptV p (slo 0 0 n c)] ++ List.replicate 125 undef) (roH1w (xs.map vi) T) (endGK frV [.tmp 6] 1 [[]] (WQ 3 fl p S (roH1w (xs.map vi) T)))) := by
  constructor
  rw [v3]
  rw [vi_ren]
  exact ⟨by rw [wrO_3], rfl⟩
theorem w7h (fl : Int) (p : Pt) (S : ByteArray) (R : RFun) (hd : p.d.size ≤ 1000000000000) : Hd (startA frV pNoHint 30 20 41 0 128 [] R wB ([vi 7, vi fl, ptV p nl] ++ List.replicate 125 undef) AHeap.empty (endGK frV [.tmp 6] 0 [[]] (WQ 7 fl p S AHeap.empty))) := by
  constructor
  rw [w7]
  simp only [true_and]
  exact ifK_dec (fun _ => ⟨by rw [wrO_7], rfl⟩) (fun h => absurd (by simp only [ap_size, four_size]; omega) h)
theorem v7h (fl : Int) (p : Pt) (n c : Nat) (xs : List Int) (T : ET) (S : ByteArray) (R : RFun) (hd : p.d.size ≤ 1000000000000) : Hd (startA frV pNoHint 30 20 41 1 128 [] R wB ([vi 7, vi fl, ptV p (slo 0 0 n c)] ++ List.replicate 125 undef) (roH1w (xs.map vi) T) (endGK frV [.tmp 6] 1 [[]] (WQ 7 fl p S (roH1w (xs.map vi) T)))) := by
  constructor
  rw [v7]
  rw [vi_ren]
  simp only [true_and]
  exact ifK_dec (fun _ => ⟨by rw [wrO_7], rfl⟩) (fun h => absurd (by simp only [ap_size, four_size]; omega) h)
theorem w8h (fl : Int) (p : Pt) (S : ByteArray) (R : RFun) (hd : p.d.size ≤ 1000000000000) : Hd (startA frV pNoHint 30 20 41 0 128 [] R wB ([vi 8, vi fl, ptV p nl] ++ List.replicate 125 undef) AHeap.empty (endGK frV [.tmp 6] 0 [[]] (WQ 8 fl p S AHeap.empty))) := by
  constructor
  rw [w8]
  exact ⟨by rw [wrO_8], rfl⟩
theorem v8h (fl : Int) (p : Pt) (n c : Nat) (xs : List Int) (T : ET) (S : ByteArray) (R : RFun) (hd : p.d.size ≤ 1000000000000) : Hd (startA frV pNoHint 30 20 41 1 128 [] R wB ([vi 8, vi fl, ptV p (slo 0 0 n c)] ++ List.replicate 125 undef) (roH1w (xs.map vi) T) (endGK frV [.tmp 6] 1 [[]] (WQ 8 fl p S (roH1w (xs.map vi) T)))) := by
  constructor
  rw [v8]
  rw [vi_ren]
  exact ⟨by rw [wrO_8], rfl⟩
theorem w16h (fl : Int) (p : Pt) (S : ByteArray) (R : RFun) (hd : p.d.size ≤ 1000000000000) : Hd (startA frV pNoHint 30 20 41 0 128 [] R wB ([vi 16, vi fl, ptV p nl] ++ List.replicate 125 undef) AHeap.empty (endGK frV [.tmp 6] 0 [[]] (WQ 16 fl p S AHeap.empty))) := by
  constructor
  rw [w16]
  simp only [true_and]
  exact ifK_dec (fun _ => ⟨by rw [wrO_16], rfl⟩) (fun h => absurd (by simp only [ap_size, four_size]; omega) h)
theorem v16h (fl : Int) (p : Pt) (n c : Nat) (xs : List Int) (T : ET) (S : ByteArray) (R : RFun) (hd : p.d.size ≤ 1000000000000) : Hd (startA frV pNoHint 30 20 41 1 128 [] R wB ([vi 16, vi fl, ptV p (slo 0 0 n c)] ++ List.replicate 125 undef) (roH1w (xs.map vi) T) (endGK frV [.tmp 6] 1 [[]] (WQ 16 fl p S (roH1w (xs.map vi) T)))) := by
  constructor
  rw [v16]
  rw [vi_ren]
  simp only [true_and]
  exact ifK_dec (fun _ => ⟨by rw [wrO_16], rfl⟩) (fun h => absurd (by simp only [ap_size, four_size]; omega) h)
abbrev OtherW (k : Int) : Prop := k ≠ 0 ∧ k ≠ 1 ∧ k ≠ 2 ∧ k ≠ 3 ∧ k ≠ 4 ∧ k ≠ 7 ∧ k ≠ 8 ∧ k ≠ 16
theorem wrO_D {k fl : Int} {p : Pt} {S : ByteArray} (h : OtherW k) : wrO k fl p S = p.d := by
  obtain ⟨h0, h1, h2, h3, h4, h7, h8, h16⟩ := h
  unfold wrO
  simp only [if_neg h0, if_neg h1, if_neg h2, if_neg h3, if_neg h4, if_neg h7, if_neg h8, if_neg h16]
theorem wDh (k fl : Int) (p : Pt) (S : ByteArray) (R : RFun) (h : OtherW k) : Hd (startA frV wHint 30 20 41 0 128 [] R wB ([vi k, vi fl, ptV p nl] ++ List.replicate 125 undef) AHeap.empty (endGK frV [.tmp 6] 0 [[]] (WQ k fl p S AHeap.empty))) := by
  have hO := wrO_D (fl := fl) (p := p) (S := S) h
  obtain ⟨h0, h1, h2, h3, h4, h7, h8, h16⟩ := h
  constructor
  rw [wD]
  simp only [decide_eq_false h0, decide_eq_false h1, decide_eq_false h2, decide_eq_false h3, decide_eq_false h4, decide_eq_false h7, decide_eq_false h8, decide_eq_false h16]
  exact ifK_f rfl (ifK_f rfl (ifK_f rfl (ifK_f rfl (ifK_f rfl (ifK_f rfl (ifK_f rfl (ifK_f rfl ⟨by rw [hO], rfl⟩)))))))
theorem vDh (k fl : Int) (p : Pt) (n c : Nat) (xs : List Int) (T : ET) (S : ByteArray) (R : RFun) (h : OtherW k) :
    Hd (startA frV wHint 30 20 41 1 128 [] R wB ([vi k, vi fl, ptV p (slo 0 0 n c)] ++ List.replicate 125 undef) (roH1w (xs.map vi) T) (endGK frV [.tmp 6] 1 [[]] (WQ k fl p S (roH1w (xs.map vi) T)))) := by
  have hO := wrO_D (fl := fl) (p := p) (S := S) h
  obtain ⟨h0, h1, h2, h3, h4, h7, h8, h16⟩ := h
  constructor
  rw [vD, vi_ren]
  simp only [decide_eq_false h0, decide_eq_false h1, decide_eq_false h2, decide_eq_false h3, decide_eq_false h4, decide_eq_false h7, decide_eq_false h8, decide_eq_false h16]
  exact ifK_f rfl (ifK_f rfl (ifK_f rfl (ifK_f rfl (ifK_f rfl (ifK_f rfl (ifK_f rfl (ifK_f rfl ⟨by rw [hO], rfl⟩)))))))

/-! ### Settings -/
def setEnc (a b : Int) : List UInt8 := [u8i (a / 256), u8i a, u8i (b / 16777216), u8i (b / 65536), u8i (b / 256), u8i b]
def encX : Nat → List Int → List UInt8
  | n + 1, a :: b :: l => setEnc a b ++ encX n l
  | _, _ => []
theorem encX_succ : ∀ (n : Nat) (xs : List Int) (a b : Int), xs[n * 2]? = some a → xs[n * 2 + 1]? = some b → encX (n + 1) xs = encX n xs ++ setEnc a b := by
  intro n
  induction n with
  | zero =>
    intro xs a b h1 h2
    match xs with
    | [] => simp at h1
    | [x] => simp at h2
    | x :: y :: l =>
      simp at h1 h2
      subst h1 h2
      simp [encX]
  | succ n ih =>
    intro xs a b h1 h2
    match xs with
    | [] => simp at h1
    | [x] => simp at h1
    | x :: y :: l =>
      have e1 : (x :: y :: l)[(n + 1) * 2]? = l[n * 2]? := by rw [show (n + 1) * 2 = n * 2 + 1 + 1 by omega]; rfl
      have e2 : (x :: y :: l)[(n + 1) * 2 + 1]? = l[n * 2 + 1]? := by rw [show (n + 1) * 2 + 1 = n * 2 + 1 + 1 + 1 by omega]; rfl
      rw [e1] at h1
      rw [e2] at h2
      rw [encX, ih l a b h1 h2, encX, List.append_assoc]
theorem encX_len : ∀ (n : Nat) (xs : List Int), n * 2 ≤ xs.length → (encX n xs).length = n * 6 := by
  intro n
  induction n with
  | zero => intro xs _; cases xs <;> rfl
  | succ n ih =>
    intro xs h
    match xs with
    | [] => simp at h
    | [x] => simp at h; omega
    | x :: y :: l =>
      simp at h
      rw [encX, List.length_append, ih l (by omega)]
      show 6 + n * 6 = _
      omega
theorem u8_cell (x : Int) : Value.int .u8 (IntKind.wrap .u8 x) = Value.int .u8 (u8i x).toNat := by
  rw [wr_u8]
  unfold u8i
  rw [UInt8.toNat_ofNat']
  congr 1
  omega
theorem fd8w (x : Int) : Int.fdiv x ((2 : Int) ^ min (Int.toNat (8 : Int)) 64) = x / 256 := by
  rw [show (2 : Int) ^ min (Int.toNat (8 : Int)) 64 = 256 by decide]
  exact Int.fdiv_eq_ediv_of_nonneg x (by decide)
def wI (xs : List Int) (n c : Nat) (T : ET) (id : Nat) (μ : List Nat) (m : Nat) (vs : List Value) (H : AHeap) : Prop :=
  match id with
  | 0 => vs = [nl, slo 0 0 n c, vi n, vi 0] ∧ H = roH1w (xs.map vi) T ∧ m = n
  | 1 => ∃ i : Nat, vs = [slb 1 (i * 6), slo 0 0 n c, vi n, vi i] ∧ H = w1H (xs.map vi) (bcells (encX i xs)) T ∧ i ≤ n ∧ m = n - i
  | _ => False
theorem fvAgg39 : (frV.ty 39).map (fun i => (isAggD i.desc, i.size)) = some (true, 2) := by kernel_rfl
abbrev wSeg (xs : List Int) (n c : Nat) (T : ET) (fl : Int) (p : Pt) (ms : List Nat) (m : Nat) (vs : List Value) (H : AHeap) : Prop :=
  segA frV w4Hint 30 20 41 1 128 wCuts (ofI (wI xs n c T)) wB wP ms m [8,77,78,79] vs H (endGK frV [.tmp 6] 1 [[]] (WQ 4 fl p ⟨⟨encX n xs⟩⟩ (roH1w (xs.map vi) T)))
theorem wseg0 {xs : List Int} {n c : Nat} {T : ET} {fl : Int} {p : Pt} (hx : n * 2 ≤ xs.length) (hn : n ≤ 1000000000000) (m : Nat) (vs : List Value) (H : AHeap) (hI : wI xs n c T 0 [] m vs H) : Hd (wSeg xs n c T fl p [] m vs H) := by
  obtain ⟨rfl, rfl, rfl⟩ := hI
  constructor
  unfold wSeg
  rw [w40]
  refine ifK_dec (fun h => ?_) (fun h => ?_)
  · refine ifK_dec (fun _ => ?_) (fun h' => absurd ⟨by omega, h⟩ h')
    obtain ⟨a, b, a1, a2, a3⟩ := pair_get xs 0 (by omega)
    refine ⟨a, b, ⟨by rw [aload_agg fvAgg39 rfl (by rw [List.length_map]; show 0 + 0 * 2 + 2 ≤ _; omega)]; exact congrArg (fun l => some (Value.agg ⟨l⟩)) a3⟩, ?_⟩
    have e := encX_succ 0 xs a b a1 a2
    have e0 : encX 0 xs = [] := by cases xs <;> rfl
    rw [e0, List.nil_append] at e
    rw [vi_ren, u8_cell, u8_cell, fd8w]
    refine ⟨m - 1, by omega, 1, rfl, ?_, by omega, rfl⟩
    rw [e]; rfl
  · have hn0 : m = 0 := by omega
    subst hn0
    rw [vi_ren]
    refine ⟨?_, rfl⟩
    rw [wrO_4]
    have e0 : encX 0 xs = [] := by cases xs <;> rfl
    rw [e0]
theorem wseg1 {xs : List Int} {n c : Nat} {T : ET} {fl : Int} {p : Pt} (hx : n * 2 ≤ xs.length) (hn : n ≤ 1000000000000) (m : Nat) (vs : List Value) (H : AHeap) (hI : wI xs n c T 1 [] m vs H) : Hd (wSeg xs n c T fl p [] m vs H) := by
  obtain ⟨i, rfl, rfl, hi, rfl⟩ := hI
  have hle := encX_len i xs (by omega)
  constructor
  unfold wSeg
  rw [w41]
  refine ifK_dec (fun h => ?_) (fun h => ?_)
  · refine ifK_dec (fun _ => ?_) (fun h' => absurd ⟨by omega, h⟩ h')
    obtain ⟨a, b, a1, a2, a3⟩ := pair_get xs i (by omega)
    have hl1 : 0 + Int.toNat (i : Int) * 2 = i * 2 := by rw [Int.toNat_natCast]; omega
    rw [hl1]
    refine ⟨a, b, ⟨by rw [aload_agg fvAgg39 rfl (by rw [List.length_map]; omega), a3]⟩, ?_⟩
    have e := encX_succ i xs a b a1 a2
    refine ifK_t (by simp) ?_
    refine ifK_dec (fun _ => ?_) (fun h' => absurd ⟨by rw [List.length_map]; omega, by omega, by omega, by omega⟩ h')
    refine ifK_t (by simp) ?_
    refine ifK_dec (fun _ => ?_) (fun h' => absurd ⟨by simp [hle], by omega, by rw [four_size]; omega, by rw [four_size]; omega⟩ h')
    have t1 : List.take (i * 6 * 1) (List.drop 0 (bcells (encX i xs))) = bcells (encX i xs) := by rw [List.drop_zero, List.take_of_length_le (by rw [List.length_map]; omega)]
    rw [t1, u8_cell, u8_cell, fd8w]
    have t2 : List.take ((i * 6 + 2) * 1) (List.drop 0 (bcells (encX i xs) ++ [Value.int .u8 (u8i (a / 256)).toNat, Value.int .u8 (u8i a).toNat])) = bcells (encX i xs) ++ [Value.int .u8 (u8i (a / 256)).toNat, Value.int .u8 (u8i a).toNat] := by
      rw [List.drop_zero, List.take_of_length_le (by simp [hle])]
    rw [t2, four_size, wr_nat (by omega), vi_ren]
    refine ⟨n - (i + 1), by omega, i + 1, ?_, ?_, by omega, rfl⟩
    · rw [show i * 6 + 2 + 4 = (i + 1) * 6 by omega]
    · have hb : bcells (encX i xs) ++ [Value.int .u8 (u8i (a / 256)).toNat, Value.int .u8 (u8i a).toNat] ++ [Value.int .u8 (u8i (b / 16777216)).toNat, Value.int .u8 (u8i (b / 65536)).toNat, Value.int .u8 (u8i (b / 256)).toNat, Value.int .u8 (u8i b).toNat] = bcells (encX (i + 1) xs) := by
        rw [e]; unfold bcells; rw [List.map_append, List.append_assoc]; rfl
      have hb' := congrArg (List.map (renV [0, 5])) hb
      rw [bcells_ren] at hb'
      exact congrArg (fun B => w1H (xs.map vi) B T) hb'
  · have hin : i = n := by omega
    subst hin
    have t1 : List.take (i * 6) (List.drop 0 (bcells (encX i xs))) = bcells (encX i xs) := by rw [List.drop_zero, List.take_of_length_le (by rw [List.length_map]; omega)]
    rw [t1, u8s_map, bytesFrom_map, vi_ren]
    refine ifK_t (by rw [Bool.and_true, List.length_map]; exact decide_eq_true (by omega)) ?_
    exact ⟨by rw [wrO_4], rfl⟩
end Go.Ev

/- The summary of frame.write. -/
namespace Go.Ev
open Go Go.Proofs Go.RowKit
set_option linter.unusedVariables false
set_option linter.unusedSimpArgs false
set_option maxRecDepth 100000
set_option maxHeartbeats 4000000
def wrSpec : List Value → AHeap → SpR
  | [.int .i64 k, .int .i64 fl, .agg ⟨[.string d, .int .i64 pad, .int .i64 code, .int .i64 last, .int .i64 weight, .bool only, .int .i64 more, st]⟩], HL =>
    match HL.size, st with
    | 0, .slice none 0 0 => .ret (decide (d.size ≤ 1000000000000)) (.string (wrO k fl ⟨d, pad, code, last, weight, only, more⟩ ⟨⟨[]⟩⟩)) []
    | 1, .slice (some ⟨0, 0, none⟩) n c => match HL.get 0 with
      | some (.cells L T .ro []) => .ret (allI64 L && (decide (d.size ≤ 1000000000000) && (decide (n * 2 ≤ L.length) && decide (n ≤ 1000000000000)))) (.string (wrO k fl ⟨d, pad, code, last, weight, only, more⟩ ⟨⟨encX n (intsOf L)⟩⟩)) []
      | _ => .fail
    | _, _ => .fail
  | _, _ => .fail
def wrFoot : List Value → AHeap → Option (List Nat)
  | [_, _, .agg ⟨[_, _, _, _, _, _, _, st]⟩], _ => match idV st with | none => some [] | some b => some [b]
  | _, _ => none
theorem body41 : Try.f41.body = some (bodyOf Try.prog 41) := by kernel_rfl
theorem nt41 : Try.f41.ntmps = 128 := by kernel_rfl
theorem rs41 : Try.f41.results.toList = [.tmp 6] := by kernel_rfl
theorem dr41 : allDraw (frV.ok 41) (bodyOf Try.prog 41) = true := by kernel_rfl
theorem lo41 : loopsOn wP wB = 0 := by kernel_rfl
theorem agr1w {H : AHeap} {a : Nat} {L : List Value} {T : ET} (h : (roH (agc [a] H)).get 0 = some (.cells L T .ro [])) : roH (agc [a] H) = roH1w L T := by
  rw [agr1] at h ⊢
  have h' := Option.some.inj h
  exact congrArg (fun o => ({ size := 1, tr := .node (some o) .nil .nil } : AHeap)) h'
theorem kCases (k : Int) : k = 0 ∨ k = 1 ∨ k = 2 ∨ k = 3 ∨ k = 4 ∨ k = 7 ∨ k = 8 ∨ k = 16 ∨ OtherW k := by unfold OtherW; omega
theorem wrt_ok : BSumOk frV.P 41 (roS wrFoot wrSpec) := by
  refine sumOk_ro Try.func41 (by kernel_rfl) (by decide) ?_
  rintro args HL v os ⟨H0, args0, d, hd, hargs, rfl⟩ hs ρ w cargs hR hno ha
  unfold wrSpec at hs
  split at hs
  case h_2 => cases hs
  rename_i k fl s pad code last weight only more st
  have hsz : (roH (agc d H0)).size = d.length := agc_size d H0
  have ha' : LRel ρ [vi k, vi fl, ptV ⟨s, pad, code, last, weight, only, more⟩ st] cargs.toList := ha
  generalize hp : (⟨s, pad, code, last, weight, only, more⟩ : Pt) = p at *
  have hpd : p.d = s := by rw [← hp]
  have done : ∀ (HL : AHeap) (x : ByteArray), some (true, Value.string x, ([] : List AObj)) = some (true, v, os) → (Calls Try.prog 41 cargs w fun e w' => ∃ v' H', (v' = Value.string x ∧ H' = HL) ∧ Post ρ HL w v' H' e w') → Calls Try.prog 41 cargs w (Post ρ HL w v (pushes HL os)) := by
    intro HL x h1 h2
    cases h1
    refine h2.mono ?_
    rintro e w' ⟨v', H', ⟨rfl, rfl⟩, hp⟩
    exact hp
  split at hs
  · rename_i hz
    have hd0 : d = [] := List.eq_nil_of_length_eq_zero (by omega)
    subst hd0
    simp only [SpR.get, Option.some.injEq, Prod.mk.injEq, decide_eq_true_eq] at hs
    obtain ⟨hI, rfl, rfl⟩ := hs
    rw [← hpd] at hI
    obtain rfl | rfl | rfl | rfl | rfl | rfl | rfl | rfl | hk := kCases k
    · exact done AHeap.empty _ rfl (calls_cutsG fvT fvF fvS fvM pNoHint (f := 41) (k := 30) (n := 20) Try.func41 body41 nt41 rs41 dr41 (cuts := []) (I := fun _ _ _ _ _ => False) (rts := [[]]) hR ha' (w0h fl p _ _ hI) trivial)
    · exact done AHeap.empty _ rfl (calls_cutsG fvT fvF fvS fvM pNoHint (f := 41) (k := 30) (n := 20) Try.func41 body41 nt41 rs41 dr41 (cuts := []) (I := fun _ _ _ _ _ => False) (rts := [[]]) hR ha' (w1h fl p _ _ hI) trivial)
    · exact done AHeap.empty _ rfl (calls_cutsG fvT fvF fvS fvM pNoHint (f := 41) (k := 30) (n := 20) Try.func41 body41 nt41 rs41 dr41 (cuts := []) (I := fun _ _ _ _ _ => False) (rts := [[]]) hR ha' (w2h fl p _ _ hI) trivial)
    · exact done AHeap.empty _ rfl (calls_cutsG fvT fvF fvS fvM pNoHint (f := 41) (k := 30) (n := 20) Try.func41 body41 nt41 rs41 dr41 (cuts := []) (I := fun _ _ _ _ _ => False) (rts := [[]]) hR ha' (w3h fl p _ _ hI) trivial)
    · refine done AHeap.empty _ rfl (calls_cutsG fvT fvF fvS fvM w4Hint (f := 41) (k := 30) (n := 20) Try.func41 body41 nt41 rs41 dr41 (cuts := []) (I := fun _ _ _ _ _ => False) (rts := [[]]) hR ha' ⟨?_⟩ trivial)
      show startA frV w4Hint 30 20 41 0 128 [] _ wB ([vi 4, vi fl, ptV p nl] ++ List.replicate 125 undef) AHeap.empty (endGK frV [.tmp 6] 0 [[]] _)
      rw [w4N]
      exact ⟨by rw [wrO_4], rfl⟩
    · exact done AHeap.empty _ rfl (calls_cutsG fvT fvF fvS fvM pNoHint (f := 41) (k := 30) (n := 20) Try.func41 body41 nt41 rs41 dr41 (cuts := []) (I := fun _ _ _ _ _ => False) (rts := [[]]) hR ha' (w7h fl p _ _ hI) trivial)
    · exact done AHeap.empty _ rfl (calls_cutsG fvT fvF fvS fvM pNoHint (f := 41) (k := 30) (n := 20) Try.func41 body41 nt41 rs41 dr41 (cuts := []) (I := fun _ _ _ _ _ => False) (rts := [[]]) hR ha' (w8h fl p _ _ hI) trivial)
    · exact done AHeap.empty _ rfl (calls_cutsG fvT fvF fvS fvM pNoHint (f := 41) (k := 30) (n := 20) Try.func41 body41 nt41 rs41 dr41 (cuts := []) (I := fun _ _ _ _ _ => False) (rts := [[]]) hR ha' (w16h fl p _ _ hI) trivial)
    · exact done AHeap.empty _ rfl (calls_cutsG fvT fvF fvS fvM wHint (f := 41) (k := 30) (n := 20) Try.func41 body41 nt41 rs41 dr41 (cuts := []) (I := fun _ _ _ _ _ => False) (rts := [[]]) hR ha' (wDh k fl p _ _ hk) trivial)
  · rename_i n c hz
    split at hs
    case h_2 => cases hs
    rename_i L T hL
    obtain ⟨a, rfl⟩ : ∃ a, d = [a] := List.length_eq_one_iff.1 (by omega)
    simp only [SpR.get, Option.some.injEq, Prod.mk.injEq, Bool.and_eq_true, decide_eq_true_eq] at hs
    obtain ⟨⟨hJ, hI, hn1, hn2⟩, rfl, rfl⟩ := hs
    rw [← hpd] at hI
    rw [agr1w hL] at hR ⊢
    have hx := ints_eq hJ
    generalize hxs : intsOf L = xs at *
    subst hx
    rw [List.length_map] at hn1
    obtain rfl | rfl | rfl | rfl | rfl | rfl | rfl | rfl | hk := kCases k
    · exact done (roH1w (xs.map vi) T) _ rfl (calls_cutsG fvT fvF fvS fvM pNoHint (f := 41) (k := 30) (n := 20) Try.func41 body41 nt41 rs41 dr41 (cuts := []) (I := fun _ _ _ _ _ => False) (rts := [[]]) hR ha' (v0h fl p n c xs T _ _ hI) trivial)
    · exact done (roH1w (xs.map vi) T) _ rfl (calls_cutsG fvT fvF fvS fvM pNoHint (f := 41) (k := 30) (n := 20) Try.func41 body41 nt41 rs41 dr41 (cuts := []) (I := fun _ _ _ _ _ => False) (rts := [[]]) hR ha' (v1h fl p n c xs T _ _ hI) trivial)
    · exact done (roH1w (xs.map vi) T) _ rfl (calls_cutsG fvT fvF fvS fvM pNoHint (f := 41) (k := 30) (n := 20) Try.func41 body41 nt41 rs41 dr41 (cuts := []) (I := fun _ _ _ _ _ => False) (rts := [[]]) hR ha' (v2h fl p n c xs T _ _ hI) trivial)
    · exact done (roH1w (xs.map vi) T) _ rfl (calls_cutsG fvT fvF fvS fvM pNoHint (f := 41) (k := 30) (n := 20) Try.func41 body41 nt41 rs41 dr41 (cuts := []) (I := fun _ _ _ _ _ => False) (rts := [[]]) hR ha' (v3h fl p n c xs T _ _ hI) trivial)
    · refine done (roH1w (xs.map vi) T) _ rfl (calls_cutsG fvT fvF fvS fvM w4Hint (f := 41) (k := 30) (n := 20) Try.func41 body41 nt41 rs41 dr41 (cuts := wCuts) (I := wI xs n c T) (rts := [[]]) hR ha' ⟨?_⟩ ⟨⟨?_, ?_, trivial⟩, trivial⟩)
      · show startA frV w4Hint 30 20 41 1 128 wCuts _ wB ([vi 4, vi fl, ptV p (slo 0 0 n c)] ++ List.replicate 125 undef) (roH1w (xs.map vi) T) (endGK frV [.tmp 6] 1 [[]] _)
        rw [w4S, vi_ren]
        exact ⟨n, trivial, rfl, rfl, rfl⟩
      · intro ms hms m vs H hi
        obtain rfl := List.eq_nil_of_length_eq_zero (hms.trans lo41)
        exact wseg1 hn1 hn2 m vs H hi
      · intro ms hms m vs H hi
        obtain rfl := List.eq_nil_of_length_eq_zero (hms.trans lo41)
        exact wseg0 hn1 hn2 m vs H hi
    · exact done (roH1w (xs.map vi) T) _ rfl (calls_cutsG fvT fvF fvS fvM pNoHint (f := 41) (k := 30) (n := 20) Try.func41 body41 nt41 rs41 dr41 (cuts := []) (I := fun _ _ _ _ _ => False) (rts := [[]]) hR ha' (v7h fl p n c xs T _ _ hI) trivial)
    · exact done (roH1w (xs.map vi) T) _ rfl (calls_cutsG fvT fvF fvS fvM pNoHint (f := 41) (k := 30) (n := 20) Try.func41 body41 nt41 rs41 dr41 (cuts := []) (I := fun _ _ _ _ _ => False) (rts := [[]]) hR ha' (v8h fl p n c xs T _ _ hI) trivial)
    · exact done (roH1w (xs.map vi) T) _ rfl (calls_cutsG fvT fvF fvS fvM pNoHint (f := 41) (k := 30) (n := 20) Try.func41 body41 nt41 rs41 dr41 (cuts := []) (I := fun _ _ _ _ _ => False) (rts := [[]]) hR ha' (v16h fl p n c xs T _ _ hI) trivial)
    · exact done (roH1w (xs.map vi) T) _ rfl (calls_cutsG fvT fvF fvS fvM wHint (f := 41) (k := 30) (n := 20) Try.func41 body41 nt41 rs41 dr41 (cuts := []) (I := fun _ _ _ _ _ => False) (rts := [[]]) hR ha' (vDh k fl p n c xs T _ _ hk) trivial)
  · cases hs
end Go.Ev
