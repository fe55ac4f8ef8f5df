/- One operation is sound. -/
import Derived.Test.YtkomaolfjmgppaaDoorEvJ
namespace Go.Ev
open Go
set_option linter.unusedVariables false
set_option linter.unusedSimpArgs false

/-- What an operation that calls no Go function comes to. -/
def OpRun (P : Program) (ρ : Ren) (H : AHeap) (w : World) (s : Sem Next) (v : Value) (H' : AHeap) : Prop :=
  ∃ V w' ρ', (s.run P w = .ok (.value V) w' ∨ (s.run P w = .ok .skip w' ∧ V = undef)) ∧ Rel ρ' H' w' ∧ Step ρ H w ρ' H' w' ∧ VRel ρ' v V

theorem OpRun.pure {P : Program} {ρ : Ren} {H : AHeap} {w : World} (hR : Rel ρ H w) {s : Sem Next} {v V : Value} (h : s.run P w = .ok (.value V) w) (r : VRel ρ v V) : OpRun P ρ H w s v H :=
  ⟨V, w, ρ, .inl h, hR, .refl _ _ _, r⟩

theorem undef_rel (ρ : Ren) : VRel ρ (.tuple #[]) undef := .tuple _ _ rfl fun i x y h => by simp at h

theorem LRel.mapv {ρ : Ren} {ev cev : Operand → Value} (hev : ∀ x, VRel ρ (ev x) (cev x)) (l : List Operand) : LRel ρ (l.map ev) (l.map cev) := .map l fun a _ => hev a

theorem aop_ok {E : Env} (hT : E.TOk) {ρ : Ren} {H H' : AHeap} {w : World} (hR : Rel ρ H w) {ev cev : Operand → Value} (hev : ∀ x, VRel ρ (ev x) (cev x)) {o : Oper} {v : Value}
    (h : aop E ev o.op H = some (v, H')) : OpRun E.P ρ H w (execOp cev o) v H' := by
  obtain ⟨dst, op, ty, pos, after, guard⟩ := o
  simp only at h
  unfold aop at h
  split at h
  · simp only [Option.some.injEq, Prod.mk.injEq] at h
    obtain ⟨rfl, rfl⟩ := h
    exact .pure hR rfl (hev _)
  · simp only [Option.some.injEq, Prod.mk.injEq] at h
    obtain ⟨rfl, rfl⟩ := h
    exact .pure hR rfl (hev _)
  · rename_i c a b
    split at h
    · rename_i t ht
      simp only [Option.some.injEq, Prod.mk.injEq] at h
      obtain ⟨rfl, rfl⟩ := h
      have hc := hev c
      rw [ht] at hc
      have hc' := hc.bool_inv
      refine .pure hR (V := if t then cev a else cev b) ?_ ?_
      · simp only [execOp, Sem.run_bind, hc', asBool, Sem.run_pure, Result.andThen_ok]
      · split <;> exact hev _
    · cases h
  · rename_i t
    split at h
    · rename_i z hz
      obtain ⟨z1, z2⟩ := azero_ok hT hz w
      obtain ⟨A, w', ρ', r1, r2, r3, r4⟩ := anew_ok (P := E.P) (t := t) hR (VRel.plain z2) h
      refine ⟨_, w', ρ', .inl ?_, r2, r3, r4⟩
      simp only [execOp, Instr.alloc, Sem.run_bind, z1, Result.andThen_ok, r1, Sem.run_pure]
    · cases h
  · rename_i t x
    obtain ⟨A, w', ρ', r1, r2, r3, r4⟩ := anew_ok (P := E.P) (t := t) hR (hev x) h
    refine ⟨_, w', ρ', .inl ?_, r2, r3, r4⟩
    simp only [execOp, Instr.box, Sem.run_bind, Result.andThen_ok, r1, Sem.run_pure]
  · rename_i t ps
    split at h
    · rename_i u hu
      simp only [Option.some.injEq, Prod.mk.injEq] at h
      obtain ⟨rfl, rfl⟩ := h
      obtain ⟨V, r1, r2⟩ := abuild_ok hT hev hu w
      refine .pure hR (V := V) ?_ r2
      have : (ps.map fun (p : Nat × Operand) => (p.1, cev p.2)) = (ps.toList.map fun p => (p.1, cev p.2)).toArray := by
        apply Array.ext'; simp
      simp only [execOp, Sem.run_bind]
      rw [show (ps.map fun x => match x with | (i, x) => (i, cev x)) = (ps.map fun (p : Nat × Operand) => (p.1, cev p.2)) from rfl, this, r1]
      rfl
    · cases h
  · rename_i t n ps
    obtain ⟨V, w', ρ', r1, r2, r3, r4⟩ := abuildSlice_ok hT hR hev h
    refine ⟨V, w', ρ', .inl ?_, r2, r3, r4⟩
    have : (ps.map fun (p : Nat × Operand) => (p.1, cev p.2)) = (ps.toList.map fun p => (p.1, cev p.2)).toArray := by
      apply Array.ext'; simp
    simp only [execOp, Sem.run_bind]
    rw [show (ps.map fun x => match x with | (i, x) => (i, cev x)) = (ps.map fun (p : Nat × Operand) => (p.1, cev p.2)) from rfl, this, r1]
    rfl
  · rename_i t a
    split at h
    · rename_i u hu
      simp only [Option.some.injEq, Prod.mk.injEq] at h
      obtain ⟨rfl, rfl⟩ := h
      obtain ⟨V, r1, r2⟩ := aload_ok hT hR (hev a) hu
      exact .pure hR (V := V) (by simp only [execOp, Sem.run_bind, r1, Result.andThen_ok, Sem.run_pure]) r2
    · cases h
  · rename_i t a x
    split at h
    · rename_i H1 hs
      simp only [Option.some.injEq, Prod.mk.injEq] at h
      obtain ⟨rfl, rfl⟩ := h
      obtain ⟨w', r1, r2, r3⟩ := astore_ok hT hR (hev a) (hev x) hs
      exact ⟨undef, w', ρ, .inr ⟨by simp only [execOp, Sem.run_bind, r1, Result.andThen_ok, Sem.run_pure], rfl⟩, r2, r3, undef_rel ρ⟩
    · cases h
  · rename_i x
    have hx := hev x
    split at h
    · rename_i a ha
      simp only [Option.some.injEq, Prod.mk.injEq] at h
      obtain ⟨rfl, rfl⟩ := h
      refine .pure hR (V := cev x) ?_ (by rw [← ha]; exact hx)
      rw [ha] at hx
      have : ∃ A, cev x = .pointer (some A) := by
        generalize cev x = X at hx
        cases hx; exact ⟨_, rfl⟩
      obtain ⟨A, hA⟩ := this
      simp only [execOp, hA]; rfl
    · rename_i t u ha
      simp only [Option.some.injEq, Prod.mk.injEq] at h
      obtain ⟨rfl, rfl⟩ := h
      refine .pure hR (V := cev x) ?_ (by rw [← ha]; exact hx)
      rw [ha] at hx
      have : ∃ U, cev x = .iface t U := by
        generalize cev x = X at hx
        cases hx; exact ⟨_, rfl⟩
      obtain ⟨A, hA⟩ := this
      simp only [execOp, hA]; rfl
    · cases h
  · rename_i op t x y yt
    split at h
    · rename_i u hu
      simp only [Option.some.injEq, Prod.mk.injEq] at h
      obtain ⟨rfl, rfl⟩ := h
      obtain ⟨r1, r2⟩ := abin_ok hT (x := x) (y := y) (hev x) (hev y) (by cases x <;> cases y <;> simp [isConstO]) hu w
      exact .pure hR (V := u) (by simp only [execOp]; rw [Sem.run_bind, r1]; rfl) r2
    · cases h
  · rename_i op t x
    split at h
    · rename_i u hu
      simp only [Option.some.injEq, Prod.mk.injEq] at h
      obtain ⟨rfl, rfl⟩ := h
      obtain ⟨r1, r2⟩ := aun_ok (P := E.P) (hev x) hu w
      exact .pure hR (V := u) (by simp only [execOp, Sem.run_bind, r1, Result.andThen_ok, Sem.run_pure]) r2
    · cases h
  · rename_i s d x
    obtain ⟨V, w', ρ', r1, r2, r3, r4⟩ := aconv_ok hT hR (hev x) h
    exact ⟨V, w', ρ', .inl (by simp only [execOp, Sem.run_bind, r1, Result.andThen_ok, Sem.run_pure]), r2, r3, r4⟩
  · rename_i t x
    split at h
    · rename_i i hi
      split at h
      · cases h
      · rename_i hni
        simp only [Option.some.injEq, Prod.mk.injEq] at h
        obtain ⟨rfl, rfl⟩ := h
        refine .pure hR (V := .iface t (cev x)) ?_ (.iface _ _ _ (hev x))
        have hc : E.P.concrete t = true := by
          unfold Program.concrete
          rw [(hT.ty t i hi).und]
          unfold aiface at hni
          rw [hi] at hni
          simp only at hni
          cases hd : i.desc <;> simp_all
        simp only [execOp, Sem.run_bind, run_makeInterface w t (cev x) hc, Result.andThen_ok, Sem.run_pure]
    · cases h
  · rename_i fn fs cs
    simp only [Option.some.injEq, Prod.mk.injEq] at h
    obtain ⟨rfl, rfl⟩ := h
    refine .pure hR (V := .func fn (fs.map cev) (cs.map cev)) ?_ ?_
    · simp only [execOp, Instr.makeFunc, Sem.run_bind, Sem.run_pure, Result.andThen_ok]
    · refine .func _ _ _ _ _ (by simp) (by simp) ?_ ?_
      · intro i x y hx hy
        rw [Array.getElem?_map] at hx hy
        cases hf : fs[i]? with
        | none => simp [hf] at hx
        | some q => simp [hf] at hx hy; subst hx hy; exact hev q
      · intro i x y hx hy
        rw [Array.getElem?_map] at hx hy
        cases hf : cs[i]? with
        | none => simp [hf] at hx
        | some q => simp [hf] at hx hy; subst hx hy; exact hev q
  · rename_i t
    simp only [Option.some.injEq, Prod.mk.injEq] at h
    obtain ⟨rfl, rfl⟩ := h
    have ho : ORel (ρ.upd H.size ⟨w.heap.size, 0, 0, 0⟩) (w.alloc (.map #[] 0)) ⟨w.heap.size, 0, 0, 0⟩ (.map [] ([], 0) .live) :=
      ⟨#[], heap_alloc_new _ _, .nil _, .nil _, rfl⟩
    obtain ⟨r1, r2⟩ := hR.alloc (.map #[] 0) (.map [] ([], 0) .live) ⟨w.heap.size, 0, 0, 0⟩ rfl ho
    refine ⟨_, _, _, .inl ?_, r1, r2, .map H.size ⟨w.heap.size, 0, 0, 0⟩ (Ren.upd_eq _ _ _)⟩
    simp [execOp, Instr.makeMap]
  · rename_i t l c
    obtain ⟨V, w', ρ', r1, r2, r3, r4⟩ := amakeSlice_ok hT hR (hev l) (hev c) h
    exact ⟨V, w', ρ', .inl (by simp only [execOp, Sem.run_bind, r1, Result.andThen_ok, Sem.run_pure]), r2, r3, r4⟩
  · rename_i t x lo hi
    split at h
    · rename_i u hu
      simp only [Option.some.injEq, Prod.mk.injEq] at h
      obtain ⟨rfl, rfl⟩ := h
      have hor : ∀ q : Option Operand, ORel' ρ (q.map ev) (q.map cev) := by
        intro q
        cases q with
        | none => exact ⟨fun v hv => by simp at hv, fun _ => rfl⟩
        | some q => exact ⟨fun v hv => ⟨cev q, rfl, by simp at hv; subst hv; exact hev q⟩, fun h => by simp at h⟩
      obtain ⟨V, r1, r2⟩ := aslice_ok hT hR (hev x) (hor lo) (hor hi) hu
      exact .pure hR (V := V) (by simp only [execOp, Sem.run_bind, Option.map_none, r1, Result.andThen_ok, Sem.run_pure]) r2
    · cases h
  · rename_i t x f
    split at h
    · rename_i u hu
      simp only [Option.some.injEq, Prod.mk.injEq] at h
      obtain ⟨rfl, rfl⟩ := h
      obtain ⟨V, r1, r2⟩ := afieldAddr_ok hT (hev x) hu w
      exact .pure hR (V := V) (by simp only [execOp, Sem.run_bind, r1, Result.andThen_ok, Sem.run_pure]) r2
    · cases h
  · rename_i t x f
    split at h
    · rename_i u hu
      simp only [Option.some.injEq, Prod.mk.injEq] at h
      obtain ⟨rfl, rfl⟩ := h
      obtain ⟨V, r1, r2⟩ := afield_ok hT (hev x) hu w
      exact .pure hR (V := V) (by simp only [execOp, Sem.run_bind, r1, Result.andThen_ok, Sem.run_pure]) r2
    · cases h
  · rename_i t x i
    split at h
    · rename_i u hu
      simp only [Option.some.injEq, Prod.mk.injEq] at h
      obtain ⟨rfl, rfl⟩ := h
      obtain ⟨V, r1, r2⟩ := aindexAddr_ok hT (hev x) (hev i) hu w
      exact .pure hR (V := V) (by simp only [execOp, Sem.run_bind, r1, Result.andThen_ok, Sem.run_pure]) r2
    · cases h
  · rename_i t x i
    split at h
    · rename_i u hu
      simp only [Option.some.injEq, Prod.mk.injEq] at h
      obtain ⟨rfl, rfl⟩ := h
      obtain ⟨V, r1, r2⟩ := aindex_ok hT (hev x) (hev i) hu w
      exact .pure hR (V := V) (by simp only [execOp, Sem.run_bind, r1, Result.andThen_ok, Sem.run_pure]) r2
    · cases h
  · rename_i t x k ok
    split at h
    · rename_i u hu
      simp only [Option.some.injEq, Prod.mk.injEq] at h
      obtain ⟨rfl, rfl⟩ := h
      obtain ⟨V, r1, r2⟩ := alookup_ok hT hR (hev x) (hev k) hu
      exact .pure hR (V := V) (by simp only [execOp, Sem.run_bind, r1, Result.andThen_ok, Sem.run_pure]) r2
    · cases h
  · rename_i t m k x
    split at h
    · rename_i H1 hs
      simp only [Option.some.injEq, Prod.mk.injEq] at h
      obtain ⟨rfl, rfl⟩ := h
      obtain ⟨w', r1, r2, r3⟩ := aupdate_ok hT hR (hev m) (hev k) (hev x) hs
      exact ⟨undef, w', ρ, .inr ⟨by simp only [execOp, Sem.run_bind, r1, Result.andThen_ok, Sem.run_pure], rfl⟩, r2, r3, undef_rel ρ⟩
    · cases h
  · rename_i t m k x
    split at h
    · rename_i H1 hs
      simp only [Option.some.injEq, Prod.mk.injEq] at h
      obtain ⟨rfl, rfl⟩ := h
      obtain ⟨w', r1, r2, r3⟩ := aupdate_ok hT hR (hev m) (hev k) (hev x) hs
      exact ⟨undef, w', ρ, .inr ⟨by simp only [execOp, Sem.run_bind, r1, Result.andThen_ok, Sem.run_pure], rfl⟩, r2, r3, undef_rel ρ⟩
    · cases h
  · rename_i x i
    have hx := hev x
    split at h
    · rename_i vs hvs
      rw [hvs] at hx
      split at h
      · rename_i u hu
        simp only [Option.some.injEq, Prod.mk.injEq] at h
        obtain ⟨rfl, rfl⟩ := h
        obtain ⟨ys, hY, hr⟩ := hx.tuple_inv
        have hlt : i < ys.toList.length := by rw [← hr.1]; simpa using (Array.getElem?_eq_some_iff.1 hu).1
        have hy : ys[i]? = some ys.toList[i] := by rw [← Array.getElem?_toList, List.getElem?_eq_getElem hlt]
        refine .pure hR (V := ys.toList[i]) ?_ (hr.2 i u _ (by rw [Array.getElem?_toList]; exact hu) (List.getElem?_eq_getElem hlt))
        simp only [execOp, Sem.run_bind, hY, Instr.extract, hy, Sem.run_pure, Result.andThen_ok]
      · cases h
    · cases h
  · rename_i args ts
    split at h
    · rename_i s x st xt h1 h2 h3 h4
      obtain ⟨V, w', ρ', r1, r2, r3, r4⟩ := aappend_ok hT hR (hev s) (hev x) h (ats := ts) (args := args.map cev) (ty := ty) h3 h4 (by simp [h1]) (by simp [h2])
      refine ⟨V, w', ρ', .inl ?_, r2, r3, r4⟩
      simp only [execOp, resolve, Sem.run_bind, Sem.run_pure, Result.andThen_ok, invoke, builtin, r1]
    · cases h
  · rename_i args ts
    split at h
    · rename_i s x st h1 h2 h3
      obtain ⟨w', r1, r2, r3, r4⟩ := acopy_ok hT hR (hev s) (hev x) h (ats := ts) (args := args.map cev) (ty := ty) h3 (by simp [h1]) (by simp [h2])
      refine ⟨v, w', ρ, .inl ?_, r2, r3, r4⟩
      simp only [execOp, resolve, Sem.run_bind, Sem.run_pure, Result.andThen_ok, invoke, builtin, r1]
    · cases h
  · rename_i args ts
    split at h
    · rename_i x t h1 h3
      split at h
      · rename_i u hu
        simp only [Option.some.injEq, Prod.mk.injEq] at h
        obtain ⟨rfl, rfl⟩ := h
        obtain ⟨r1, r2⟩ := alen_ok hT hR (hev x) hu (ats := ts) (args := args.map cev) (ty := ty) h3 (by simp [h1])
        exact .pure hR (V := u) (by simp only [execOp, resolve, Sem.run_bind, Sem.run_pure, Result.andThen_ok, invoke, builtin, r1]) r2
      · cases h
    · cases h
  · rename_i args ts
    split at h
    · rename_i m k t h1 h2 h3
      split at h
      · rename_i H1 hs
        simp only [Option.some.injEq, Prod.mk.injEq] at h
        obtain ⟨rfl, rfl⟩ := h
        obtain ⟨w', r1, r2, r3⟩ := adelete_ok hT hR (hev m) (hev k) hs (ats := ts) (args := args.map cev) (ty := ty) h3 (by simp [h1]) (by simp [h2])
        exact ⟨undef, w', ρ, .inl (by simp only [execOp, resolve, Sem.run_bind, Sem.run_pure, Result.andThen_ok, invoke, builtin, r1]; rfl), r2, r3, undef_rel ρ⟩
      · cases h
    · cases h
  · rename_i args ts
    split at h
    · rename_i x y l hl
      split at h
      · rename_i u hu
        simp only [Option.some.injEq, Prod.mk.injEq] at h
        obtain ⟨rfl, rfl⟩ := h
        rcases afold_max (P := E.P) ((y :: l).map ev) ((y :: l).map cev) _ _ u w (hev x) (LRel.mapv hev _) hu with ⟨r1, r2⟩ | ⟨e, _⟩
        · refine .pure hR (V := u) ?_ r2
          have hm : (args.map cev).toList = cev x :: (y :: l).map cev := by simp [hl]
          simp only [execOp, resolve, Sem.run_bind, Sem.run_pure, Result.andThen_ok, invoke, builtin, Builtin.max_, hm, r1]
        · simp at e
      · cases h
    · cases h
  · rename_i args ts
    split at h
    · rename_i x y l hl
      split at h
      · rename_i u hu
        simp only [Option.some.injEq, Prod.mk.injEq] at h
        obtain ⟨rfl, rfl⟩ := h
        rcases afold_min (P := E.P) ((y :: l).map ev) ((y :: l).map cev) _ _ u w (hev x) (LRel.mapv hev _) hu with ⟨r1, r2⟩ | ⟨e, _⟩
        · refine .pure hR (V := u) ?_ r2
          have hm : (args.map cev).toList = cev x :: (y :: l).map cev := by simp [hl]
          simp only [execOp, resolve, Sem.run_bind, Sem.run_pure, Result.andThen_ok, invoke, builtin, Builtin.min_, hm, r1]
        · simp at e
      · cases h
    · cases h
  · cases h
end Go.Ev
