/- A summary by a walk: a function that takes plain values, answers with a plain value, and makes new memory alone. -/
import Derived.Test.YtkomaolfjmgppaaDoorEvSc
namespace Go.Ev
open Go RowKit
set_option linter.unusedVariables false
set_option linter.unusedSectionVars false
set_option linter.unusedSimpArgs false

theorem ifK_dec {p : Prop} [Decidable p] {a b : Prop} (h1 : p → a) (h2 : ¬p → b) : ifK (decide p) a b := by
  by_cases h : p
  · rw [decide_eq_true h]; exact h1 h
  · rw [decide_eq_false h]; exact h2 h
theorem wr_i64 (x : Int) : IntKind.wrap .i64 x = (x + 9223372036854775808) % 18446744073709551616 - 9223372036854775808 := by
  have h : IntKind.wrap .i64 x = if x % 18446744073709551616 ≥ 9223372036854775808 then x % 18446744073709551616 - 18446744073709551616 else x % 18446744073709551616 := by
    unfold IntKind.wrap
    simp [IntKind.bits, IntKind.signed]
  rw [h]
  split <;> omega
theorem wr_u8 (x : Int) : IntKind.wrap .u8 x = x % 256 := by
  unfold IntKind.wrap
  simp [IntKind.bits, IntKind.signed]
theorem VRel.plain1_inv {ρ : Ren} {v V : Value} (hp : Go.Ev.plain1 v = true) (h : VRel ρ v V) : V = v := by
  cases h <;> simp [Go.Ev.plain1] at hp <;> rfl
theorem LRel.plain1_inv {ρ : Ren} {xs Xs : List Value} (hp : xs.all Go.Ev.plain1 = true) (h : LRel ρ xs Xs) : Xs = xs := by
  have hall : ∀ v ∈ xs, Go.Ev.plain1 v = true := by simpa using hp
  apply List.ext_getElem?
  intro i
  by_cases hi : i < xs.length
  · have hi' : i < Xs.length := by rw [← h.1]; exact hi
    have hv := h.2 i _ _ (List.getElem?_eq_getElem hi) (List.getElem?_eq_getElem hi')
    rw [List.getElem?_eq_getElem hi, List.getElem?_eq_getElem hi', hv.plain1_inv (hall _ (List.getElem_mem hi))]
  · have := h.1
    rw [List.getElem?_eq_none (by omega), List.getElem?_eq_none (by omega)]
theorem VRel.plain_inv {ρ : Ren} {v V : Value} (hp : Go.Ev.plain v = true) (h : VRel ρ v V) : V = v := by
  unfold Go.Ev.plain at hp
  split at hp
  · rename_i cs
    obtain ⟨ys, rfl, hl⟩ := h.agg_inv
    have := hl.plain1_inv hp
    congr 1
    exact Array.ext' this
  · cases h; rename_i y hy; rw [hy.plain1_inv hp]
  · rename_i fn fs cs
    cases h with
    | func _ _ gs _ ds h1 h2 _ _ =>
      simp only [Bool.and_eq_true, beq_iff_eq] at hp
      have e1 : fs = #[] := Array.eq_empty_of_size_eq_zero hp.1
      have e2 : cs = #[] := Array.eq_empty_of_size_eq_zero hp.2
      have e3 : gs = #[] := Array.eq_empty_of_size_eq_zero (h1.symm.trans hp.1)
      have e4 : ds = #[] := Array.eq_empty_of_size_eq_zero (h2.symm.trans hp.2)
      rw [e1, e2, e3, e4]
  · exact h.plain1_inv hp

theorem LRel.plain_inv {ρ : Ren} {xs Xs : List Value} (hp : xs.all Go.Ev.plain = true) (h : LRel ρ xs Xs) : Xs = xs := by
  have hall : ∀ v ∈ xs, Go.Ev.plain v = true := by simpa using hp
  apply List.ext_getElem?
  intro i
  by_cases hi : i < xs.length
  · have hi' : i < Xs.length := by rw [← h.1]; exact hi
    have hv := h.2 i _ _ (List.getElem?_eq_getElem hi) (List.getElem?_eq_getElem hi')
    rw [List.getElem?_eq_getElem hi, List.getElem?_eq_getElem hi', hv.plain_inv (hall _ (List.getElem_mem hi))]
  · have := h.1
    rw [List.getElem?_eq_none (by omega), List.getElem?_eq_none (by omega)]
theorem LRel.plain_refl {ρ : Ren} {xs : List Value} (hp : xs.all Go.Ev.plain = true) : LRel ρ xs xs := by
  have hall : ∀ v ∈ xs, Go.Ev.plain v = true := by simpa using hp
  refine ⟨rfl, fun i x y hx hy => ?_⟩
  rw [hx] at hy
  cases hy
  exact VRel.plain (hall x (List.mem_of_getElem? hx))
theorem VRel.plainV_inv {ρ : Ren} {v V : Value} (hp : Go.Ev.plainV v = true) (h : VRel ρ v V) : V = v := by
  unfold Go.Ev.plainV at hp
  split at hp
  · obtain ⟨ys, rfl, hl⟩ := h.tuple_inv
    congr 1
    exact Array.ext' (hl.plain_inv hp)
  · exact h.plain_inv hp

/-- What a function answers, of its walk. -/
theorem calls_tri {E : Env} (hT : E.TOk) {f : FuncId} {F : Func} {c : Code} (h1 : E.P.funcs[f]? = some F) (h2 : F.body = some c) {args : List Value} {v : Value} {H : AHeap} {ρ : Ren} {w : World} {cargs : Array Value}
    (hR : Rel ρ H w) (hno : ∀ B, ¬ Own ρ H B) (ha : LRel ρ args cargs.toList) (hv : plainV v = true)
    (h : Tri E.P w c (fun tm H' => tm = args ++ List.replicate (F.ntmps - args.length) undef ∧ H' = H) fun x tm H' => (x = .normal ∨ x = .ret) ∧ aresult E tm H' F.results.toList = some [v]) :
    Calls E.P f cargs w fun e w' => e = .returned v ∧ Below w.heap.size w w' := by
  have hlen : args.length = cargs.size := by have := ha.1; simpa using this
  refine calls_of_wp h1 h2 (wp_mono (h { tmps := cargs ++ Array.replicate (F.ntmps - cargs.size) undef, defers := [] } w
    ⟨_, _, ρ, ⟨rfl, rfl⟩, hR, ?_, rfl, .refl _ _, fun B hB => absurd hB (hno B)⟩) ?_)
  · rw [Array.toList_append, Array.toList_replicate, ← hlen]
    exact ha.append (.replicate _ (undef_rel ρ))
  · rintro e a' w' ⟨x, rfl, tm, H', ρ', ⟨hx, hr⟩, k1, k2, k3, k4, k5⟩
    have hres : ∃ Vs : List Value, LRel ρ' [v] Vs ∧ (results F a'.tmps).run E.P w' = .ok (if h : Vs.toArray.size = 1 then Vs.toArray[0] else .tuple Vs.toArray) w' := by
      unfold results
      rw [Sem.run_bind, Array.mapM_eq_mapM_toList, Sem.run_map]
      obtain ⟨Vs, r1, r2⟩ := aresult_ok hT k1 k2 (g := fun r => match r with | .tmp t => pure (a'.tmps.getD t undef) | .cell a t => do loadVar t (← asAddr (a'.tmps.getD a undef)))
        (fun _ => rfl) (fun _ _ => rfl) _ _ hr
      exact ⟨Vs, r1, (congrArg (fun (q : Result (List Value)) => (q.andThen fun a w' => Result.ok a.toArray w').andThen
        fun a w' => Sem.run E.P (pure (if h : a.size = 1 then a[0] else .tuple a)) w') r2).trans rfl⟩
    obtain ⟨Vs, r1, hres⟩ := hres
    obtain ⟨V, T, rfl, r3, r4⟩ := r1.cons_left
    obtain rfl := r4.nil_left
    have hV : V = v := r3.plainV_inv hv
    subst hV
    rcases hx with rfl | rfl <;> exact ⟨k3, _, hres, rfl, k4⟩

theorem sumOk_tri {E : Env} (hT : E.TOk) {f : FuncId} {F : Func} {c : Code} (h1 : E.P.funcs[f]? = some F) (h2 : F.body = some c) (hn : F.name ≠ "runtime.NumGoroutine") {g : List Value → Option (Bool × Value)}
    (h : ∀ args v, g args = some (true, v) → plainV v = true ∧ args.all plain = true ∧ ∀ w0, Tri E.P w0 c (fun tm H' => tm = args ++ List.replicate (F.ntmps - args.length) undef ∧ H' = AHeap.empty) fun x tm H' => (x = .normal ∨ x = .ret) ∧ aresult E tm H' F.results.toList = some [v]) :
    SumOk E.P f (pureS g) := by
  refine sumOk_pure h1 (by rw [h2]; rfl) hn fun args v hg => ?_
  obtain ⟨a1, a2, a3⟩ := h args v hg
  refine ⟨a1, fun ρ w cargs ha => ?_⟩
  have hc := ha.plain_inv a2
  refine calls_tri hT h1 h2 (Rel.empty w) (Own.empty _) (ρ := fun _ => none) (args := args) ?_ a1 (a3 w)
  rw [hc]
  exact LRel.plain_refl a2
end Go.Ev
