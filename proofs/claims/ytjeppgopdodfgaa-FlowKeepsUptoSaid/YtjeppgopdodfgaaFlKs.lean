/- The law FlowKeeps: a round of its loop; the script is no longer than the second form's bound. (under way) -/
import Derived.Test.YtjeppgopdodfgaaFlKr
namespace Go.Ev
open Go Go.Proofs Go.RowKit
set_option linter.unusedVariables false
set_option maxRecDepth 100000
def KeepOk (sz got used gr i a b c d : Int) : Prop := a = sz ∧ 1 ≤ sz ∧ sz ≤ 2147483647 ∧ b = sz + gr - got ∧ c = got - used ∧ d = used - gr ∧ 0 ≤ b ∧ 0 ≤ c ∧ 0 ≤ d ∧ 0 ≤ gr ∧ got ≤ i * 2147483647 ∧ 0 ≤ i ∧ i ≤ 1048576
theorem kload3 (L : List Value) (a b c d : Int) (o : Nat) : aload flA 3 (.pointer (some ⟨0, o, none⟩)) (hpK L a b c d) = L[o]? := by kernel_rfl
theorem kload5 (L : List Value) (a b c d : Int) (o : Nat) : aload flA 5 (.pointer (some ⟨0, o, none⟩)) (hpK L a b c d) = L[o]? := by kernel_rfl
theorem stepK2 (sz got used gr i N : Int) (n : Nat) (a b c d w : Int) (L : List Value) (K : KFun) (hk : KeepOk sz got used gr i a b c d) (hi : i < n) (hn : (n : Int) ≤ 1048576) (hw : L[0 + i.toNat * 2 + 0]? = some (.int .u8 w))
    (hK : ∀ got' used' gr' a' b' c' d' r, KeepOk sz got' used' gr' (i + 1) a' b' c' d' → K .normal 114 [vi sz, sl n, pt 1, vi got', vi used', vi gr', vi i] (hpK L a' b' c' d') r) :
    cK flA kHint 20 20 5 (kC [true,true,true,true,true,true,false,true,false,false,true,false,false,true,false]) (fillT 114 [0,1,5,7,8,9,10,11] [vi sz, sl n, pt 1, vi got, vi used, vi gr, vi i, vi N]) (hpK L a b c d) (kk flA [.tmp 4] [0,1,5,7,8,9,10] K) := by
  rw [kL2]
  obtain ⟨e1, e2, e3, e4, e5, e6, e7, e8, e9, e10, e11, e12, e13⟩ := hk
  refine ifK_dec (fun _ => ?_) (fun h => absurd ⟨e12, hi⟩ h)
  refine ⟨w, ⟨(kload5 L _ _ _ _ _).trans hw⟩, ?_⟩
  clear hw
  repeat' first
    | exact hK _ _ _ _ _ _ _ _ (by unfold KeepOk; (try simp only [wr_i64] at *); omega)
    | refine ifK_dec (fun _ => ?_) (fun _ => ?_)
  all_goals (exfalso; clear hK; (try simp only [wr_i64] at *); omega)
end Go.Ev
