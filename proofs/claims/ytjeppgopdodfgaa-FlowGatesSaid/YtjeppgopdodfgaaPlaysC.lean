/- The law FlowPlays: its whole way; no condition but that the script is as long as a slice may be. -/
import Derived.Test.YtjeppgopdodfgaaPlaysB
namespace Go.Ev
open Go Go.Proofs Go.RowKit
set_option linter.unusedVariables false
set_option maxRecDepth 100000
/-- The script's cells. -/
def ScriptOk (n : Nat) (L : List Value) : Prop := ∀ i : Int, 0 ≤ i → i < n → ∃ N w : Int, L[0 + i.toNat * 2 + 1]? = some (vi N) ∧ L[0 + i.toNat * 2 + 0]? = some (.int .u8 w)
def Inv6 (n : Nat) (L : List Value) (m : Nat) : SPred := fun tm H =>
  ∃ (i s : Int) (r : Value), tm = fillT 88 [1,4,5,7,9] [sl n, r, pt 1, pt 2, vi i] ∧ H = hpB L s s ∧ 0 ≤ i ∧ i ≤ n ∧ -2147483647 ≤ s ∧ s ≤ 2147483647 ∧ m = (n - i).toNat
def Fin6 : AX → SPred := fun x tm H => (x = .normal ∨ x = .ret) ∧ aresult flowE tm H [.tmp 4] = some [.bool true]
def Out6 : AX → SPred := fun x tm H => match x with | .exit i => i = 0 ∧ tm.length = 88 | _ => False
theorem draw6 : allDraw (flowE.ok 6) (bodyOf Try.prog 6) = true := by kernel_rfl
theorem draw6a : allDraw (flowE.ok 6) (ptC [true,true,true,true,true,false,true,false,false] (bodyOf Try.prog 6)) = true := by kernel_rfl
theorem draw6b : allDraw (flowE.ok 6) (ptC [true,true,true,true,true,false,false] (bodyOf Try.prog 6)) = true := by kernel_rfl
theorem draw6c : allDraw (flowE.ok 6) (ptC [true,true,true,true,true,true] (bodyOf Try.prog 6)) = true := by kernel_rfl

def KR6 (n : Nat) (L : List Value) (i : Int) : AX → Nat → List Value → AHeap → Prop := fun x N vs H =>
  match x with
  | .exit j => j = 0 ∧ N = 88
  | .normal => i < n ∧ N = 88 ∧ ∃ (s : Int) (r : Value), vs = [sl n, r, pt 1, pt 2, vi (wr64 (i + 1))] ∧ H = hpB L s s ∧ -2147483647 ≤ s ∧ s ≤ 2147483647
  | .ret => False

def KB6 (n : Nat) (L : List Value) : AX → Nat → List Value → AHeap → Prop := fun x N vs H =>
  match x with
  | .normal => ∃ (s : Int) (r : Value), N = 88 ∧ vs = [sl n, r, pt 1, pt 2, vi 0] ∧ H = hpB L s s ∧ 0 ≤ s ∧ s ≤ 2147483647
  | _ => False

theorem round6 {w0 : World} {n : Nat} {L : List Value} (hn : (n : Int) ≤ 9223372036854775807) (hL : ScriptOk n L) (m : Nat) :
    Tri flowE.P w0 (ptC [true,true,true,true,true,false,true,false,false] (bodyOf Try.prog 6)) (Inv6 n L m) (fun x => match x with | .normal => fun tm H => ∃ m', m' < m ∧ ∃ n' idx, tm.length = n' ∧ Inv6 n L m' (fillT n' idx (pickT idx tm)) H | x => Out6 x) := by
  rintro a w ⟨tm, H, ρ, ⟨i, s, r, htm, hH, h0, h1, h2, h3, hm⟩, hrest⟩
  refine Tri.post (Q := fun x tm H => KR6 n L i x tm.length (pickT [1,4,5,7,9] tm) H) (S := fun tm H => tm = fillT 88 [1,4,5,7,9] [sl n, r, pt 1, pt 2, vi i] ∧ H = hpB L s s) (Tri.code flowT flowF flowS flowM flowHint (f := 6) (k := 20) (n := 20) draw6a ?_) ?_ a w ⟨tm, H, ρ, ⟨htm, hH⟩, hrest⟩
  · rintro tm H ⟨rfl, rfl⟩
    exact step6 i s n r L (KR6 n L i) h0 h2 h3 (hL i h0) (fun _ => ⟨rfl, rfl⟩) (fun hi s' k1 k2 => ⟨hi, rfl, s', r, rfl, rfl, k1, k2⟩)
  · intro x tm H hx
    cases x with
    | normal =>
      obtain ⟨hi, hN, s', r', hv, rfl, k1, k2⟩ := hx
      have hw : wr64 (i + 1) = i + 1 := by simp only [wr64, wr64_eq]; omega
      refine ⟨(n - (i + 1)).toNat, by omega, 88, [1,4,5,7,9], hN, i + 1, s', r', ?_, rfl, by omega, by omega, k1, k2, rfl⟩
      rw [hv, hw]
    | exit j => exact ⟨hx.1, hx.2⟩
    | ret => exact hx.elim

theorem tri6 {w0 : World} {n : Nat} {L : List Value} (sz : Int) (hn : (n : Int) ≤ 9223372036854775807) (hL : ScriptOk n L) :
    Tri flowE.P w0 (bodyOf Try.prog 6) (fun tm H => tm = [.int .i64 sz, .slice (some ⟨0,0,none⟩) n n] ++ List.replicate 86 undef ∧ H = AHeap.empty.push (.cells L 2 .ro [])) Fin6 := by
  refine Tri.spine flowT flowF flowS flowM flowHint (f := 6) (k := 20) (n := 20) (R := fun tm H => tm.length = 88 ∧ pickT [1,5,7] tm = [sl n, pt 1, pt 2] ∧ ∃ s : Int, H = hpB L s s ∧ 0 ≤ s ∧ s ≤ 2147483647) 5 _ _ draw6 ?_ ?_
  · rintro tm H ⟨rfl, rfl⟩
    have := res6a sz n L (fun x r => (x = .normal ∨ x = .ret) ∧ r = some [.bool true]) (fun N vs H => N = 88 ∧ vs = [sl n, pt 1, pt 2] ∧ ∃ s : Int, H = hpB L s s ∧ 0 ≤ s ∧ s ≤ 2147483647)
    refine this.mpr ?_
    repeat' first
      | exact ⟨.inr rfl, rfl⟩
      | exact ⟨rfl, rfl, sz, rfl, by omega, by omega⟩
      | refine ifK_dec (fun _ => ?_) (fun _ => ?_)
    all_goals (exfalso; omega)
  · rw [code6]
    refine Tri.seq (R := fun tm H => tm.length = 88) ?_ ?_
    · refine Tri.seq (R := fun tm H => ∃ (s : Int) (r : Value), tm.length = 88 ∧ pickT [1,4,5,7,9] tm = [sl n, r, pt 1, pt 2, vi 0] ∧ H = hpB L s s ∧ 0 ≤ s ∧ s ≤ 2147483647) ?_ ?_
      · refine Tri.presel (S := fun tm H => tm = fillT 88 [1,5,7] [sl n, pt 1, pt 2] ∧ ∃ s : Int, H = hpB L s s ∧ 0 ≤ s ∧ s ≤ 2147483647) ?_ ?_
        · rintro tm H ⟨h1, h2, h3⟩
          exact ⟨88, [1,5,7], h1, by rw [h2], h3⟩
        · refine Tri.post (Q := fun x tm H => KB6 n L x tm.length (pickT [1,4,5,7,9] tm) H) (Tri.code flowT flowF flowS flowM flowHint (f := 6) (k := 20) (n := 20) draw6b ?_) ?_
          · rintro tm H ⟨rfl, s, rfl, k1, k2⟩
            exact (res6b (sl n) (pt 1) (pt 2) (hpB L s s) (KB6 n L)).mpr ⟨s, top, rfl, rfl, rfl, k1, k2⟩
          · intro x tm H hx
            cases x with
            | normal => exact hx
            | exit j => exact hx.elim
            | ret => exact hx.elim
      · refine Tri.block ?_
        refine Tri.presel (S := Inv6 n L (n - 0 : Int).toNat) ?_ ?_
        · rintro tm H ⟨s, r, h1, h2, rfl, k1, k2⟩
          exact ⟨88, [1,4,5,7,9], h1, 0, s, r, by rw [h2], rfl, by omega, by omega, by omega, k2, rfl⟩
        · refine Tri.post (Tri.loopsel (Q := Out6) (fun m => round6 hn hL m) _) ?_
          intro x tm H hx
          cases x with
          | normal => exact hx.elim
          | exit j => obtain ⟨rfl, h⟩ := hx; exact h
          | ret => exact hx.elim
    · refine Tri.preselgc (S := fun tm H => tm = fillT 88 [] [] ∧ H = AHeap.empty) ?_ ?_
      · intro tm H h
        have e : (pickT [] tm).map (renV []) = [] := rfl
        have e2 : agc [] H = AHeap.empty := rfl
        exact ⟨88, [], [], List.nodup_nil, h, by rw [e], e2⟩
      · refine Tri.code flowT flowF flowS flowM flowHint (f := 6) (k := 20) (n := 20) draw6c ?_
        intro tm H h
        rw [h.1, h.2]
        exact (res6c (fun x r => (x = .normal ∨ x = .ret) ∧ r = some [.bool true])).mpr ⟨.inr rfl, rfl⟩
end Go.Ev
