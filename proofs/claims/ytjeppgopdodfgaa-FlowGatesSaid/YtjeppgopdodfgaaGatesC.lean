/- The law FlowGates: its whole way; no condition but that the script is as long as a slice may be. -/
import Derived.Test.YtjeppgopdodfgaaGatesB
namespace Go.Ev
open Go Go.Proofs Go.RowKit
set_option linter.unusedVariables false
set_option maxRecDepth 100000
def Inv4 (n : Nat) (L : List Value) (m : Nat) : SPred := fun tm H =>
  ∃ (i a b c d : Int) (r : Value), tm = fillT 82 [1,4,5,7,9] [sl n, r, pt 1, pt 2, vi i] ∧ H = hpG L a b c d a b c d ∧ 0 ≤ i ∧ i ≤ n ∧ GateOk a b c d ∧ m = (n - i).toNat
def Fin4 : AX → SPred := fun x tm H => (x = .normal ∨ x = .ret) ∧ aresult flowE tm H [.tmp 4] = some [.bool true]
def Out4 : AX → SPred := fun x tm H => match x with | .exit i => i = 0 ∧ tm.length = 82 | _ => False
theorem draw4 : allDraw (flowE.ok 4) (bodyOf Try.prog 4) = true := by kernel_rfl
theorem draw4a : allDraw (flowE.ok 4) (ptC [true,true,true,true,true,false,true,false,false] (bodyOf Try.prog 4)) = true := by kernel_rfl
theorem draw4b : allDraw (flowE.ok 4) (ptC [true,true,true,true,true,false,false] (bodyOf Try.prog 4)) = true := by kernel_rfl
theorem draw4c : allDraw (flowE.ok 4) (ptC [true,true,true,true,true,true] (bodyOf Try.prog 4)) = true := by kernel_rfl

def KR4 (n : Nat) (L : List Value) (i : Int) : AX → Nat → List Value → AHeap → Prop := fun x N vs H =>
  match x with
  | .exit j => j = 0 ∧ N = 82
  | .normal => i < n ∧ N = 82 ∧ ∃ (a b c d : Int) (r : Value), vs = [sl n, r, pt 1, pt 2, vi (wr64 (i + 1))] ∧ H = hpG L a b c d a b c d ∧ GateOk a b c d
  | .ret => False

def KB4 (n : Nat) (L : List Value) : AX → Nat → List Value → AHeap → Prop := fun x N vs H =>
  match x with
  | .normal => ∃ (a b c d : Int) (r : Value), N = 82 ∧ vs = [sl n, r, pt 1, pt 2, vi 0] ∧ H = hpG L a b c d a b c d ∧ GateOk a b c d
  | _ => False

theorem round4 {w0 : World} {n : Nat} {L : List Value} (hn : (n : Int) ≤ 9223372036854775807) (hL : ScriptOk n L) (m : Nat) :
    Tri flowE.P w0 (ptC [true,true,true,true,true,false,true,false,false] (bodyOf Try.prog 4)) (Inv4 n L m) (fun x => match x with | .normal => fun tm H => ∃ m', m' < m ∧ ∃ n' idx, tm.length = n' ∧ Inv4 n L m' (fillT n' idx (pickT idx tm)) H | x => Out4 x) := by
  rintro act w ⟨tm, H, ρ, ⟨i, a, b, c, d, r, htm, hH, h0, h1, h2, hm⟩, hrest⟩
  refine Tri.post (Q := fun x tm H => KR4 n L i x tm.length (pickT [1,4,5,7,9] tm) H) (S := fun tm H => tm = fillT 82 [1,4,5,7,9] [sl n, r, pt 1, pt 2, vi i] ∧ H = hpG L a b c d a b c d) (Tri.code flowT flowF flowS flowM gateHint (f := 4) (k := 20) (n := 20) draw4a ?_) ?_ act w ⟨tm, H, ρ, ⟨htm, hH⟩, hrest⟩
  · rintro tm H ⟨rfl, rfl⟩
    exact step4 i a b c d n r L (KR4 n L i) h0 h2 (hL i h0) (fun _ => ⟨rfl, rfl⟩) (fun hi a' b' c' d' k1 => ⟨hi, rfl, a', b', c', d', r, rfl, rfl, k1⟩)
  · intro x tm H hx
    cases x with
    | normal =>
      obtain ⟨hi, hN, a', b', c', d', r', hv, rfl, k1⟩ := hx
      have hw : wr64 (i + 1) = i + 1 := by simp only [wr64, wr64_eq]; omega
      refine ⟨(n - (i + 1)).toNat, by omega, 82, [1,4,5,7,9], hN, i + 1, a', b', c', d', r', ?_, rfl, by omega, by omega, k1, rfl⟩
      rw [hv, hw]
    | exit j => exact ⟨hx.1, hx.2⟩
    | ret => exact hx.elim

theorem tri4 {w0 : World} {n : Nat} {L : List Value} (sz : Int) (hn : (n : Int) ≤ 9223372036854775807) (hL : ScriptOk n L) :
    Tri flowE.P w0 (bodyOf Try.prog 4) (fun tm H => tm = [.int .i64 sz, .slice (some ⟨0,0,none⟩) n n] ++ List.replicate 80 undef ∧ H = AHeap.empty.push (.cells L 2 .ro [])) Fin4 := by
  refine Tri.spine flowT flowF flowS flowM gateHint (f := 4) (k := 20) (n := 20) (R := fun tm H => tm.length = 82 ∧ pickT [1,5,7] tm = [sl n, pt 1, pt 2] ∧ ∃ a b c d : Int, H = hpG L a b c d a b c d ∧ GateOk a b c d) 5 _ _ draw4 ?_ ?_
  · rintro tm H ⟨rfl, rfl⟩
    have := res4a sz n L (fun x r => (x = .normal ∨ x = .ret) ∧ r = some [.bool true]) (fun N vs H => N = 82 ∧ vs = [sl n, pt 1, pt 2] ∧ ∃ a b c d : Int, H = hpG L a b c d a b c d ∧ GateOk a b c d)
    refine this.mpr ?_
    repeat' first
      | exact ⟨.inr rfl, rfl⟩
      | exact ⟨rfl, rfl, sz, sz, 0, 0, rfl, by unfold GateOk; omega⟩
      | refine ifK_dec (fun _ => ?_) (fun _ => ?_)
    all_goals (exfalso; omega)
  · rw [code4]
    refine Tri.seq (R := fun tm H => tm.length = 82) ?_ ?_
    · refine Tri.seq (R := fun tm H => ∃ (a b c d : Int) (r : Value), tm.length = 82 ∧ pickT [1,4,5,7,9] tm = [sl n, r, pt 1, pt 2, vi 0] ∧ H = hpG L a b c d a b c d ∧ GateOk a b c d) ?_ ?_
      · refine Tri.presel (S := fun tm H => tm = fillT 82 [1,5,7] [sl n, pt 1, pt 2] ∧ ∃ a b c d : Int, H = hpG L a b c d a b c d ∧ GateOk a b c d) ?_ ?_
        · rintro tm H ⟨h1, h2, h3⟩
          exact ⟨82, [1,5,7], h1, by rw [h2], h3⟩
        · refine Tri.post (Q := fun x tm H => KB4 n L x tm.length (pickT [1,4,5,7,9] tm) H) (Tri.code flowT flowF flowS flowM gateHint (f := 4) (k := 20) (n := 20) draw4b ?_) ?_
          · rintro tm H ⟨rfl, a, b, c, d, rfl, k1⟩
            exact (res4b (sl n) (pt 1) (pt 2) (hpG L a b c d a b c d) (KB4 n L)).mpr ⟨a, b, c, d, top, rfl, rfl, rfl, k1⟩
          · intro x tm H hx
            cases x with
            | normal => exact hx
            | exit j => exact hx.elim
            | ret => exact hx.elim
      · refine Tri.block ?_
        refine Tri.presel (S := Inv4 n L (n - 0 : Int).toNat) ?_ ?_
        · rintro tm H ⟨a, b, c, d, r, h1, h2, rfl, k1⟩
          exact ⟨82, [1,4,5,7,9], h1, 0, a, b, c, d, r, by rw [h2], rfl, by omega, by omega, k1, rfl⟩
        · refine Tri.post (Tri.loopsel (Q := Out4) (fun m => round4 hn hL m) _) ?_
          intro x tm H hx
          cases x with
          | normal => exact hx.elim
          | exit j => obtain ⟨rfl, h⟩ := hx; exact h
          | ret => exact hx.elim
    · refine Tri.preselgc (S := fun tm H => tm = fillT 82 [] [] ∧ H = AHeap.empty) ?_ ?_
      · intro tm H h
        have e : (pickT [] tm).map (renV []) = [] := rfl
        have e2 : agc [] H = AHeap.empty := rfl
        exact ⟨82, [], [], List.nodup_nil, h, by rw [e], e2⟩
      · refine Tri.code flowT flowF flowS flowM gateHint (f := 4) (k := 20) (n := 20) draw4c ?_
        intro tm H h
        rw [h.1, h.2]
        exact (res4c (fun x r => (x = .normal ∨ x = .ret) ∧ r = some [.bool true])).mpr ⟨.inr rfl, rfl⟩
end Go.Ev
