/- The document's number of bytes: what the function comes to; no condition. -/
import Derived.Test.YtjhidbadbdhcmaaFrBase
import Derived.Test.YtjhidbadbdhcmaaEvSe
namespace Go.Ev
open Go Go.Proofs Go.RowKit
set_option linter.unusedVariables false
set_option maxRecDepth 100000
def noHint : FuncId → Tmp → Option Hint := fun f t => none
abbrev vi (x : Int) : Value := .int .i64 x
noncomputable abbrev numC : List Bool → Code := fun l => ptC l (bodyOf Try.prog 24)
theorem numB (s : ByteArray) (K K' : KFun) :
   sK frE noHint 20 20 24 2 (bodyOf Try.prog 24) ([.string s] ++ List.replicate 18 undef) AHeap.empty (kk frE [.tmp 2] [0,3,4] K) (fun tm H => cK frE noHint 20 20 24 (numC [true,true,false,false]) tm H (kk frE [.tmp 2] [0,3,4] K'))
   = (K' AX.normal 19 [Value.string s, Value.int IntKind.i64 0, Value.int IntKind.i64 0] { size := 0, tr := Tr.nil } (some [Value.int IntKind.i64 0])) := by kernel_rfl
theorem numL (s : ByteArray) (n i : Int) (K : KFun) :
   cK frE noHint 20 20 24 (numC [true,true,false,true,false,false]) (fillT 19 [0,3,4] [.string s, vi n, vi i]) AHeap.empty (kk frE [.tmp 2] [0,3,4] K)
   = (ifK (decide (i < ↑(ByteArray.size s))) (ifK (decide (0 ≤ i ∧ i < ↑(ByteArray.size s))) (K AX.normal 19 [Value.string s, Value.int IntKind.i64 (IntKind.wrap IntKind.i64 (IntKind.wrap IntKind.i64 (256 * n) + IntKind.wrap IntKind.i64 (byteAt s i))), Value.int IntKind.i64 (IntKind.wrap IntKind.i64 (i + 1))] { size := 0, tr := Tr.nil } (some [Value.complex FloatKind.f32 0 0])) False) (K (AX.exit 0) 19 [Value.string s, Value.int IntKind.i64 n, Value.int IntKind.i64 i] { size := 0, tr := Tr.nil } (some [Value.complex FloatKind.f32 0 0]))) := by kernel_rfl
theorem numE (v0 : Value) (n i : Int) (K : KFun) :
   cK frE noHint 20 20 24 (numC [true,true,true]) (fillT 19 [0,3,4] [v0, vi n, vi i]) AHeap.empty (kk frE [.tmp 2] [0,3,4] K)
   = (K AX.ret 19 [v0, Value.int IntKind.i64 n, Value.int IntKind.i64 i] { size := 0, tr := Tr.nil } (some [Value.int IntKind.i64 n])) := by kernel_rfl
/-- The number that bytes are. -/
def numGo : List UInt8 → Int → Int
  | [], n => n
  | b :: l, n => numGo l (IntKind.wrap .i64 (IntKind.wrap .i64 (256 * n) + IntKind.wrap .i64 (b.toNat : Int)))
def numF (s : ByteArray) : Int := numGo s.data.toList 0
def numG : List Value → Option (Bool × Value)
  | [.string s] => some (decide (s.size ≤ 4611686018427387904), vi (numF s))
  | _ => none
def numI (s : ByteArray) (m : Nat) (vs : List Value) (H : AHeap) : Prop := ∃ (n : Int) (i : Nat), vs = [.string s, vi n, vi i] ∧ H = AHeap.empty ∧ i ≤ s.size ∧ m = s.size - i ∧ numF s = numGo (s.data.toList.drop i) n
def numO (s : ByteArray) (vs : List Value) (H : AHeap) : Prop := ∃ (i : Int), vs = [.string s, vi (numF s), vi i] ∧ H = AHeap.empty
theorem num_ok : SumOk frE.P 24 (pureS numG) := by
  refine sumOk_tri frT (f := 24) (F := Try.f24) (c := bodyOf Try.prog 24) Try.func24 (by kernel_rfl) (by decide) fun args v hg => ?_
  unfold numG at hg
  split at hg
  case h_2 => cases hg
  rename_i s
  simp only [Option.some.injEq, Prod.mk.injEq] at hg
  obtain ⟨hs, rfl⟩ := hg
  replace hs := of_decide_eq_true hs
  refine ⟨rfl, rfl, fun w0 => ?_⟩
  refine Tri.loopfn frT frF frS frM noHint (f := 24) (k := 20) (n := 20) (rs := [.tmp 2]) (N := 19) (idx := [0,3,4]) (I := numI s) (O := numO s) (pre := numC [true,true,false,false]) (body := numC [true,true,false,true,false,false]) (post := numC [true,true,true]) (m := 2)
    (by kernel_rfl) (by kernel_rfl) (by kernel_rfl) ?_ (fun m => ?_) ?_
  · rintro tm H ⟨rfl, rfl⟩
    exact (numB s _ _).mpr ⟨rfl, .inl ⟨s.size, 0, 0, rfl, rfl, by omega, by omega, rfl⟩⟩
  · refine Tri.ofK frT frF frS frM noHint (f := 24) (k := 20) (n := 20) (by kernel_rfl) fun vs H ⟨n, i, hv, hH, hi, hm, hn⟩ => ?_
    subst hv hH
    refine (numL s n i _).mpr ?_
    have hl : s.data.toList.length = s.size := Array.length_toList
    refine ifK_dec (fun h0 => ifK_dec (fun _ => ⟨rfl, s.size - (i + 1), by omega, .inl ⟨IntKind.wrap .i64 (IntKind.wrap .i64 (256 * n) + IntKind.wrap .i64 (byteAt s i)), i + 1, ?_, rfl, by omega, rfl, ?_⟩⟩) (fun h => absurd ⟨by omega, h0⟩ h)) (fun h0 => ⟨rfl, rfl, .inl ⟨i, ?_, rfl⟩⟩)
    · have e : IntKind.wrap .i64 ((i : Int) + 1) = ((i + 1 : Nat) : Int) := by
        rw [wr_i64]
        omega
      rw [e]
    · rw [hn, List.drop_eq_getElem_cons (by omega)]
      simp only [numGo, byteAt, Int.toNat_natCast]
      rw [List.getElem?_eq_getElem (by omega)]
    · have : i = s.size := by omega
      subst this
      rw [hn, List.drop_of_length_le (by omega)]
      rfl
  · refine Tri.endK frT frF frS frM noHint (f := 24) (k := 20) (n := 20) (by kernel_rfl) fun vs H ⟨i, hv, hH⟩ => ?_
    subst hv hH
    exact (numE _ _ _ _).mpr ⟨.inr rfl, rfl⟩
end Go.Ev
