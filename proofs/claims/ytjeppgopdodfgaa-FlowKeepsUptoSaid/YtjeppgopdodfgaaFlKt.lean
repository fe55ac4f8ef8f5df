/- The law FlowKeeps: its loop and its whole way; the script is no longer than the second form's bound. (under way) -/
import Derived.Test.YtjeppgopdodfgaaFlKs
namespace Go.Ev
open Go Go.Proofs Go.RowKit
set_option linter.unusedVariables false
set_option maxRecDepth 100000
abbrev kP : List Bool := [true,true,true,true,true,true,false,true,false,false]
theorem ifK_not {p : Prop} [Decidable p] {a b : Prop} (h : p) (h2 : b) : ifK (!decide p) a b := by rw [decide_eq_true h]; exact h2
theorem kbody : kC [true,true,true,true,true,true,false,true,false,false] = .seq (kC [true,true,true,true,true,true,false,true,false,false,false]) (.seq (.block 1 (.seq (kC [true,true,true,true,true,true,false,true,false,false,true,false,false,false]) (.seq (kC [true,true,true,true,true,true,false,true,false,false,true,false,false,true,false]) (kC [true,true,true,true,true,true,false,true,false,false,true,false,false,true,true])))) (kC [true,true,true,true,true,true,false,true,false,false,true,true])) := by kernel_rfl
def KVs (sz got used gr i : Int) (n : Nat) : List Value := [vi sz, sl n, pt 1, vi got, vi used, vi gr, vi i]
def KI (sz : Int) (n : Nat) (L : List Value) (m : Nat) (vs : List Value) (H : AHeap) : Prop := ∃ got used gr i a b c d : Int, vs = KVs sz got used gr i n ∧ H = hpK L a b c d ∧ KeepOk sz got used gr i a b c d ∧ i ≤ n ∧ m = (n - i).toNat
def KIa (sz : Int) (n : Nat) (L : List Value) (m : Nat) (vs : List Value) (H : AHeap) : Prop := ∃ got used gr i a b c d : Int, vs = KVs sz got used gr i n ∧ H = hpK L a b c d ∧ KeepOk sz got used gr i a b c d ∧ i < n ∧ m = (n - i).toNat
def KIb (sz : Int) (n : Nat) (L : List Value) (m : Nat) (vs : List Value) (H : AHeap) : Prop := ∃ got used gr i a b c d N : Int, vs = KVs sz got used gr i n ++ [vi N] ∧ H = hpK L a b c d ∧ KeepOk sz got used gr i a b c d ∧ i < n ∧ m = (n - i).toNat
def KIc (sz : Int) (n : Nat) (L : List Value) (m : Nat) (vs : List Value) (H : AHeap) : Prop := ∃ got used gr i a b c d : Int, vs = KVs sz got used gr i n ∧ H = hpK L a b c d ∧ KeepOk sz got used gr (i + 1) a b c d ∧ 0 ≤ i ∧ i < n ∧ m = (n - i).toNat
def KO (sz : Int) (n : Nat) (L : List Value) (vs : List Value) (H : AHeap) : Prop := ∃ m, KI sz n L m vs H
def ScrOk (n : Nat) (L : List Value) : Prop := ∀ i : Int, 0 ≤ i → i < n → ∃ N w : Int, L[0 + i.toNat * 2 + 1]? = some (vi N) ∧ L[0 + i.toNat * 2 + 0]? = some (.int .u8 w)
abbrev kIdx : List Nat := [0,1,5,7,8,9,10]
def KTo (N : Nat) (v : Value) (I O : List Value → AHeap → Prop) : KFun := fun x N' vs H r =>
  match x with
  | .normal => N' = N ∧ Gc I vs H
  | .exit j => j = 0 ∧ N' = N ∧ Gc O vs H
  | .ret => r = some [v]
theorem kround {w0 : World} {sz : Int} {n : Nat} {L : List Value} (hn : (n : Int) ≤ 1048576) (hL : ScrOk n L) (m : Nat) :
    Tri flA.P w0 (kC [true,true,true,true,true,true,false,true,false,false]) (AtP 114 kIdx (KI sz n L m)) (kk flA [.tmp 4] kIdx (KLoop 114 (.bool true) (KI sz n L) (KO sz n L) m)) := by
  rw [kbody]
  refine Tri.seq (R := fun tm H => tm.length = 114 ∧ Gc (KIa sz n L m) (pickT kIdx tm) H) ?_ (Tri.preat (fun _ _ h => h) ?_)
  · refine Tri.post (Tri.ofK laT laF laS laM kHint (f := 5) (k := 20) (n := 20) (rs := [.tmp 4]) (idx2 := kIdx) (K := KTo 114 (.bool true) (KIa sz n L m) (KO sz n L)) (by kernel_rfl) ?_) ?_
    · rintro vs H ⟨got, used, gr, i, a, b, c, d, rfl, rfl, hk, hi, hm⟩
      unfold KVs
      rw [kL0]
      refine ifK_dec (fun h => ?_) (fun h => ?_)
      · exact ⟨rfl, .inl ⟨got, used, gr, i, a, b, c, d, rfl, rfl, hk, h, hm⟩⟩
      · exact ⟨rfl, rfl, .inl ⟨m, got, used, gr, i, a, b, c, d, rfl, rfl, hk, hi, hm⟩⟩
    · intro x tm H hx
      cases x with
      | normal => exact hx
      | exit j => exact hx
      | ret => exact hx
  refine Tri.seq (R := fun tm H => tm.length = 114 ∧ Gc (KIc sz n L m) (pickT kIdx tm) H) (Tri.block ?_) (Tri.preat (fun _ _ h => h) ?_)
  · refine Tri.seq (R := fun tm H => tm.length = 114 ∧ Gc (KIb sz n L m) (pickT (kIdx ++ [11]) tm) H) ?_ (Tri.preat (fun _ _ h => h) ?_)
    · refine Tri.post (Tri.ofK laT laF laS laM kHint (f := 5) (k := 20) (n := 20) (rs := [.tmp 4]) (idx2 := kIdx ++ [11]) (K := KPre 114 (KIb sz n L m)) (by kernel_rfl) ?_) ?_
      · rintro vs H ⟨got, used, gr, i, a, b, c, d, rfl, rfl, hk, hi, hm⟩
        unfold KVs
        have h0 : 0 ≤ i := hk.2.2.2.2.2.2.2.2.2.2.2.1
        obtain ⟨N, w, hN, hw⟩ := hL i h0 hi
        have := kL1 sz got used gr i n a b c d L (KPre 114 (KIb sz n L m))
        refine this.mpr ?_
        refine ifK_dec (fun _ => ?_) (fun h => absurd ⟨h0, hi⟩ h)
        exact ⟨N, ⟨(kload3 L _ _ _ _ _).trans hN⟩, rfl, .inl ⟨got, used, gr, i, a, b, c, d, N, rfl, rfl, hk, hi, hm⟩⟩
      · intro x tm H hx
        cases x with
        | normal => exact hx
        | exit j => exact hx.elim
        | ret => exact hx.elim
    refine Tri.seq (R := fun tm H => tm.length = 114 ∧ Gc (KIc sz n L m) (pickT kIdx tm) H) ?_ (Tri.preat (fun _ _ h => h) ?_)
    · refine Tri.post (Tri.ofK laT laF laS laM kHint (f := 5) (k := 20) (n := 20) (rs := [.tmp 4]) (idx2 := kIdx) (K := KPre 114 (KIc sz n L m)) (by kernel_rfl) ?_) ?_
      · rintro vs H ⟨got, used, gr, i, a, b, c, d, N, rfl, rfl, hk, hi, hm⟩
        have h0 : 0 ≤ i := hk.2.2.2.2.2.2.2.2.2.2.2.1
        obtain ⟨_, w, _, hw⟩ := hL i h0 hi
        exact stepK2 sz got used gr i N n a b c d w L _ hk hi hn hw fun got' used' gr' a' b' c' d' r hk' => ⟨rfl, .inl ⟨got', used', gr', i, a', b', c', d', rfl, rfl, hk', h0, hi, hm⟩⟩
      · intro x tm H hx
        cases x with
        | normal => exact hx
        | exit j => exact hx.elim
        | ret => exact hx.elim
    · refine Tri.post (Tri.ofK laT laF laS laM kHint (f := 5) (k := 20) (n := 20) (rs := [.tmp 4]) (idx2 := kIdx) (K := KPre 114 (KIc sz n L m)) (by kernel_rfl) ?_) ?_
      · rintro vs H ⟨got, used, gr, i, a, b, c, d, rfl, rfl, hk, h0, hi, hm⟩
        unfold KVs
        rw [kL3]
        obtain ⟨e1, e2, e3, e4, e5, e6, e7, e8, e9, e10, e11, e12, e13⟩ := id hk
        have w1 : IntKind.wrap IntKind.i64 (sz + gr) = sz + gr := by rw [wr_i64]; omega
        have w2 : IntKind.wrap IntKind.i64 (sz + gr - got) = sz + gr - got := by rw [wr_i64]; omega
        rw [w1, w2]
        refine ifK_dec (fun h => by omega) (fun _ => ?_)
        refine ifK_dec (fun h => by omega) (fun _ => ?_)
        refine ifK_dec (fun h => by omega) (fun _ => ?_)
        refine ifK_not e4 ?_
        exact ⟨rfl, .inl ⟨got, used, gr, i, a, b, c, d, rfl, rfl, hk, h0, hi, hm⟩⟩
      · intro x tm H hx
        cases x with
        | normal => exact hx
        | exit j => exact hx.elim
        | ret => exact hx.elim
  · refine Tri.ofK laT laF laS laM kHint (f := 5) (k := 20) (n := 20) (by kernel_rfl) ?_
    rintro vs H ⟨got, used, gr, i, a, b, c, d, rfl, rfl, hk, h0, hi, hm⟩
    unfold KVs
    rw [kL4]
    have w1 : IntKind.wrap IntKind.i64 (i + 1) = i + 1 := by rw [wr_i64]; omega
    rw [w1]
    exact ⟨rfl, (n - (i + 1)).toNat, by omega, .inl ⟨got, used, gr, i + 1, a, b, c, d, rfl, rfl, hk, by omega, rfl⟩⟩
end Go.Ev
