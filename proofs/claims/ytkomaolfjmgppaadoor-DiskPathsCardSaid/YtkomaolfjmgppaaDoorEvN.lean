/- Operations that only read; operations that lay a new block. -/
import Derived.Test.YtkomaolfjmgppaaDoorEvM
namespace Go.Ev
open Go
set_option linter.unusedVariables false
set_option linter.unusedSimpArgs false

/-- The world stays as it is. -/
def QOk (P : Program) (ρ : Ren) (H : AHeap) (w : World) (s : Sem Next) (v : Value) (H' : AHeap) : Prop :=
  H' = H ∧ ∃ V, s.run P w = .ok (.value V) w ∧ VRel ρ v V
theorem QOk.pure {P : Program} {ρ : Ren} {H : AHeap} {w : World} (hR : Rel ρ H w) {s : Sem Next} {v V : Value} (h : s.run P w = .ok (.value V) w) (r : VRel ρ v V) : QOk P ρ H w s v H :=
  ⟨rfl, V, h, r⟩

theorem aop_quiet {E : Env} (hT : E.TOk) {ρ : Ren} {H H' : AHeap} {w : World} (hR : Rel ρ H w) {ev cev : Operand → Value} (hev : ∀ x, VRel ρ (ev x) (cev x)) {o : Oper} {v : Value}
    (hk : kindOf E o.op = .pure ∨ kindOf E o.op = .read) (h : aop E ev o.op H = some (v, H')) : QOk E.P ρ H w (execOp cev o) v H' := by
  obtain ⟨dst, op, ty, pos, after, guard⟩ := o
  simp only at h hk
  unfold aop at h
  split at h
  · simp only [Option.some.injEq, Prod.mk.injEq] at h
    obtain ⟨rfl, rfl⟩ := h
    exact .pure hR rfl (hev _)
  · simp only [Option.some.injEq, Prod.mk.injEq] at h
    obtain ⟨rfl, rfl⟩ := h
    exact .pure hR rfl (hev _)
  · rename_i c a b
    split at h
    · rename_i t ht
      simp only [Option.some.injEq, Prod.mk.injEq] at h
      obtain ⟨rfl, rfl⟩ := h
      have hc := hev c
      rw [ht] at hc
      have hc' := hc.bool_inv
      refine .pure hR (V := if t then cev a else cev b) ?_ ?_
      · simp only [execOp, Sem.run_bind, hc', asBool, Sem.run_pure, Result.andThen_ok]
      · split <;> exact hev _
    · cases h
  · rename_i t
    exfalso
    rcases hk with hk | hk <;> simp [kindOf] at hk
  · rename_i t x
    exfalso
    rcases hk with hk | hk <;> simp [kindOf] at hk
  · rename_i t ps
    split at h
    · rename_i u hu
      simp only [Option.some.injEq, Prod.mk.injEq] at h
      obtain ⟨rfl, rfl⟩ := h
      obtain ⟨V, r1, r2⟩ := abuild_ok hT hev hu w
      refine .pure hR (V := V) ?_ r2
      have : (ps.map fun (p : Nat × Operand) => (p.1, cev p.2)) = (ps.toList.map fun p => (p.1, cev p.2)).toArray := by
        apply Array.ext'; simp
      simp only [execOp, Sem.run_bind]
      rw [show (ps.map fun x => match x with | (i, x) => (i, cev x)) = (ps.map fun (p : Nat × Operand) => (p.1, cev p.2)) from rfl, this, r1]
      rfl
    · cases h
  · rename_i t n ps
    exfalso
    rcases hk with hk | hk <;> simp [kindOf] at hk
  · rename_i t a
    split at h
    · rename_i u hu
      simp only [Option.some.injEq, Prod.mk.injEq] at h
      obtain ⟨rfl, rfl⟩ := h
      obtain ⟨V, r1, r2⟩ := aload_ok hT hR (hev a) hu
      exact .pure hR (V := V) (by simp only [execOp, Sem.run_bind, r1, Result.andThen_ok, Sem.run_pure]) r2
    · cases h
  · rename_i t a x
    exfalso
    rcases hk with hk | hk <;> simp [kindOf] at hk
  · rename_i x
    have hx := hev x
    split at h
    · rename_i a ha
      simp only [Option.some.injEq, Prod.mk.injEq] at h
      obtain ⟨rfl, rfl⟩ := h
      refine .pure hR (V := cev x) ?_ (by rw [← ha]; exact hx)
      rw [ha] at hx
      have : ∃ A, cev x = .pointer (some A) := by
        generalize cev x = X at hx
        cases hx; exact ⟨_, rfl⟩
      obtain ⟨A, hA⟩ := this
      simp only [execOp, hA]; rfl
    · rename_i t u ha
      simp only [Option.some.injEq, Prod.mk.injEq] at h
      obtain ⟨rfl, rfl⟩ := h
      refine .pure hR (V := cev x) ?_ (by rw [← ha]; exact hx)
      rw [ha] at hx
      have : ∃ U, cev x = .iface t U := by
        generalize cev x = X at hx
        cases hx; exact ⟨_, rfl⟩
      obtain ⟨A, hA⟩ := this
      simp only [execOp, hA]; rfl
    · cases h
  · rename_i op t x y yt
    split at h
    · rename_i u hu
      simp only [Option.some.injEq, Prod.mk.injEq] at h
      obtain ⟨rfl, rfl⟩ := h
      obtain ⟨r1, r2⟩ := abin_ok hT (x := x) (y := y) (hev x) (hev y) (by cases x <;> cases y <;> simp [isConstO]) hu w
      exact .pure hR (V := u) (by simp only [execOp]; rw [Sem.run_bind, r1]; rfl) r2
    · cases h
  · rename_i op t x
    split at h
    · rename_i u hu
      simp only [Option.some.injEq, Prod.mk.injEq] at h
      obtain ⟨rfl, rfl⟩ := h
      obtain ⟨r1, r2⟩ := aun_ok (P := E.P) (hev x) hu w
      exact .pure hR (V := u) (by simp only [execOp, Sem.run_bind, r1, Result.andThen_ok, Sem.run_pure]) r2
    · cases h
  · rename_i s d x
    have hx := hev x
    unfold aconv at h
    split at h
    · rename_i i j hi hj
      have di := desc_eq hi
      have dj := desc_eq hj
      have ui := (hT.ty s i hi).und
      have uj := (hT.ty d j hj).und
      generalize ev x = y at h hx
      split at h
      · rename_i ei k k' n hdj
        have hc := hx.int_inv
        simp only [Option.some.injEq, Prod.mk.injEq] at h
        obtain ⟨rfl, rfl⟩ := h
        refine .pure hR (V := .int k (k.wrap n)) ?_ (.int _ _)
        simp only [execOp, hc, Go.convert, Sem.run_bind, run_und hT hi, run_und hT hj, hdj, Result.andThen_ok, Conv.intToInt, Sem.run_pure]
      · rename_i ei t hdj
        have hc := hx.string_inv
        simp only [Option.some.injEq, Prod.mk.injEq] at h
        obtain ⟨rfl, rfl⟩ := h
        refine .pure hR (V := .string t) ?_ (.string _)
        simp only [execOp, hc, Go.convert, Sem.run_bind, run_und hT hi, run_und hT hj, hdj, Result.andThen_ok, Sem.run_pure]
      · rename_i ei e t hdj
        exfalso
        have hk2 : kindOf E (.convert s d x) = .alloc ∨ kindOf E (.convert s d x) = .bad := by
          simp only [kindOf, di, dj, hdj]
          cases hdi : i.desc <;> simp
        rcases hk2 with e1 | e1 <;> rw [e1] at hk <;> rcases hk with hk | hk <;> cases hk
      · rename_i e n c hdi hdj
        obtain ⟨hc, _, _⟩ := hx.slice_nil_inv
        split at h
        · rename_i ei hei
          split at h
          · rename_i hde
            simp only [Option.some.injEq, Prod.mk.injEq] at h
            obtain ⟨rfl, rfl⟩ := h
            refine .pure hR (V := .string .empty) ?_ (.string _)
            simp only [execOp, hc, Go.convert, Sem.run_bind, run_und hT hi, run_und hT hj, hdi, hdj, Result.andThen_ok, run_und hT hei, hde, Conv.bytesToString, Sem.run_pure]
          · cases h
        · cases h
      · rename_i e b o n c hdi hdj
        obtain ⟨l, C, A, hb, hn, hc, hN, hA, hX⟩ := hx.slice_inv
        split at h
        · rename_i ei hei
          split at h
          · rename_i hde
            split at h
            · rename_i cs hcs
              split at h
              · rename_i bs hbs
                simp only [Option.some.injEq, Prod.mk.injEq] at h
                obtain ⟨rfl, rfl⟩ := h
                obtain ⟨ns, rfl, rfl⟩ := unbytes_ok hbs
                have hload : (loadCells A n).run E.P w = .ok (ns.map (Value.int .u8)).toArray w := by
                  split at hcs
                  · rename_i hz
                    injection hcs with hcs
                    have : ns = [] := List.map_eq_nil_iff.1 hcs.symm
                    subst this
                    subst hz
                    simp [loadCells, loadCellsFrom]
                  · rename_i hz
                    obtain ⟨Vs, x1, x2, x3, x4⟩ := rd_rel hR hb hcs
                    have := x1.ints
                    subst this
                    have hA' := hA (by omega)
                    subst hA'
                    have h1 := run_loadCells_list (P := E.P) (w := w) ⟨l.B, l.s + o, none⟩ _ x4
                    rw [x2] at h1
                    exact h1
                have he := (hT.ty e ei hei).und
                rw [hde] at he
                rw [hdi] at ui
                rw [hdj] at uj
                refine .pure hR (V := .string ⟨⟨ns.map fun n => UInt8.ofNat n.toNat⟩⟩) ?_ (.string _)
                simp only [execOp, hX, Sem.run_bind]
                rw [run_convert_bytes_string w s d e (some A) n C ui he uj, run_bytesToString w A n C ns hload, fold_push]
                simp only [Result.andThen_ok, Sem.run_pure]
                congr 4
                apply Array.ext'
                simp
              · cases h
            · cases h
          · cases h
        · cases h
      · cases h
    · cases h
  · rename_i t x
    split at h
    · rename_i i hi
      split at h
      · cases h
      · rename_i hni
        simp only [Option.some.injEq, Prod.mk.injEq] at h
        obtain ⟨rfl, rfl⟩ := h
        refine .pure hR (V := .iface t (cev x)) ?_ (.iface _ _ _ (hev x))
        have hc : E.P.concrete t = true := by
          unfold Program.concrete
          rw [(hT.ty t i hi).und]
          unfold aiface at hni
          rw [hi] at hni
          simp only at hni
          cases hd : i.desc <;> simp_all
        simp only [execOp, Sem.run_bind, run_makeInterface w t (cev x) hc, Result.andThen_ok, Sem.run_pure]
    · cases h
  · rename_i fn fs cs
    simp only [Option.some.injEq, Prod.mk.injEq] at h
    obtain ⟨rfl, rfl⟩ := h
    refine .pure hR (V := .func fn (fs.map cev) (cs.map cev)) ?_ ?_
    · simp only [execOp, Instr.makeFunc, Sem.run_bind, Sem.run_pure, Result.andThen_ok]
    · refine .func _ _ _ _ _ (by simp) (by simp) ?_ ?_
      · intro i x y hx hy
        rw [Array.getElem?_map] at hx hy
        cases hf : fs[i]? with
        | none => simp [hf] at hx
        | some q => simp [hf] at hx hy; subst hx hy; exact hev q
      · intro i x y hx hy
        rw [Array.getElem?_map] at hx hy
        cases hf : cs[i]? with
        | none => simp [hf] at hx
        | some q => simp [hf] at hx hy; subst hx hy; exact hev q
  · rename_i t
    exfalso
    rcases hk with hk | hk <;> simp [kindOf] at hk
  · rename_i t l c
    exfalso
    rcases hk with hk | hk <;> simp [kindOf] at hk
  · rename_i t x lo hi
    split at h
    · rename_i u hu
      simp only [Option.some.injEq, Prod.mk.injEq] at h
      obtain ⟨rfl, rfl⟩ := h
      have hor : ∀ q : Option Operand, ORel' ρ (q.map ev) (q.map cev) := by
        intro q
        cases q with
        | none => exact ⟨fun v hv => by simp at hv, fun _ => rfl⟩
        | some q => exact ⟨fun v hv => ⟨cev q, rfl, by simp at hv; subst hv; exact hev q⟩, fun h => by simp at h⟩
      obtain ⟨V, r1, r2⟩ := aslice_ok hT hR (hev x) (hor lo) (hor hi) hu
      exact .pure hR (V := V) (by simp only [execOp, Sem.run_bind, Option.map_none, r1, Result.andThen_ok, Sem.run_pure]) r2
    · cases h
  · rename_i t x f
    split at h
    · rename_i u hu
      simp only [Option.some.injEq, Prod.mk.injEq] at h
      obtain ⟨rfl, rfl⟩ := h
      obtain ⟨V, r1, r2⟩ := afieldAddr_ok hT (hev x) hu w
      exact .pure hR (V := V) (by simp only [execOp, Sem.run_bind, r1, Result.andThen_ok, Sem.run_pure]) r2
    · cases h
  · rename_i t x f
    split at h
    · rename_i u hu
      simp only [Option.some.injEq, Prod.mk.injEq] at h
      obtain ⟨rfl, rfl⟩ := h
      obtain ⟨V, r1, r2⟩ := afield_ok hT (hev x) hu w
      exact .pure hR (V := V) (by simp only [execOp, Sem.run_bind, r1, Result.andThen_ok, Sem.run_pure]) r2
    · cases h
  · rename_i t x i
    split at h
    · rename_i u hu
      simp only [Option.some.injEq, Prod.mk.injEq] at h
      obtain ⟨rfl, rfl⟩ := h
      obtain ⟨V, r1, r2⟩ := aindexAddr_ok hT (hev x) (hev i) hu w
      exact .pure hR (V := V) (by simp only [execOp, Sem.run_bind, r1, Result.andThen_ok, Sem.run_pure]) r2
    · cases h
  · rename_i t x i
    split at h
    · rename_i u hu
      simp only [Option.some.injEq, Prod.mk.injEq] at h
      obtain ⟨rfl, rfl⟩ := h
      obtain ⟨V, r1, r2⟩ := aindex_ok hT (hev x) (hev i) hu w
      exact .pure hR (V := V) (by simp only [execOp, Sem.run_bind, r1, Result.andThen_ok, Sem.run_pure]) r2
    · cases h
  · rename_i t x k ok
    split at h
    · rename_i u hu
      simp only [Option.some.injEq, Prod.mk.injEq] at h
      obtain ⟨rfl, rfl⟩ := h
      obtain ⟨V, r1, r2⟩ := alookup_ok hT hR (hev x) (hev k) hu
      exact .pure hR (V := V) (by simp only [execOp, Sem.run_bind, r1, Result.andThen_ok, Sem.run_pure]) r2
    · cases h
  · rename_i t m k x
    exfalso
    rcases hk with hk | hk <;> simp [kindOf] at hk
  · rename_i t m k x
    exfalso
    rcases hk with hk | hk <;> simp [kindOf] at hk
  · rename_i x i
    have hx := hev x
    split at h
    · rename_i vs hvs
      rw [hvs] at hx
      split at h
      · rename_i u hu
        simp only [Option.some.injEq, Prod.mk.injEq] at h
        obtain ⟨rfl, rfl⟩ := h
        obtain ⟨ys, hY, hr⟩ := hx.tuple_inv
        have hlt : i < ys.toList.length := by rw [← hr.1]; simpa using (Array.getElem?_eq_some_iff.1 hu).1
        have hy : ys[i]? = some ys.toList[i] := by rw [← Array.getElem?_toList, List.getElem?_eq_getElem hlt]
        refine .pure hR (V := ys.toList[i]) ?_ (hr.2 i u _ (by rw [Array.getElem?_toList]; exact hu) (List.getElem?_eq_getElem hlt))
        simp only [execOp, Sem.run_bind, hY, Instr.extract, hy, Sem.run_pure, Result.andThen_ok]
      · cases h
    · cases h
  · rename_i args ts
    exfalso
    rcases hk with hk | hk <;> simp [kindOf] at hk
  · rename_i args ts
    exfalso
    rcases hk with hk | hk <;> simp [kindOf] at hk
  · rename_i args ts
    split at h
    · rename_i x t h1 h3
      split at h
      · rename_i u hu
        simp only [Option.some.injEq, Prod.mk.injEq] at h
        obtain ⟨rfl, rfl⟩ := h
        obtain ⟨r1, r2⟩ := alen_ok hT hR (hev x) hu (ats := ts) (args := args.map cev) (ty := ty) h3 (by simp [h1])
        exact .pure hR (V := u) (by simp only [execOp, resolve, Sem.run_bind, Sem.run_pure, Result.andThen_ok, invoke, builtin, r1]) r2
      · cases h
    · cases h
  · rename_i args ts
    exfalso
    rcases hk with hk | hk <;> simp [kindOf] at hk
  · rename_i args ts
    split at h
    · rename_i x y l hl
      split at h
      · rename_i u hu
        simp only [Option.some.injEq, Prod.mk.injEq] at h
        obtain ⟨rfl, rfl⟩ := h
        rcases afold_max (P := E.P) ((y :: l).map ev) ((y :: l).map cev) _ _ u w (hev x) (LRel.mapv hev _) hu with ⟨r1, r2⟩ | ⟨e, _⟩
        · refine .pure hR (V := u) ?_ r2
          have hm : (args.map cev).toList = cev x :: (y :: l).map cev := by simp [hl]
          simp only [execOp, resolve, Sem.run_bind, Sem.run_pure, Result.andThen_ok, invoke, builtin, Builtin.max_, hm, r1]
        · simp at e
      · cases h
    · cases h
  · rename_i args ts
    split at h
    · rename_i x y l hl
      split at h
      · rename_i u hu
        simp only [Option.some.injEq, Prod.mk.injEq] at h
        obtain ⟨rfl, rfl⟩ := h
        rcases afold_min (P := E.P) ((y :: l).map ev) ((y :: l).map cev) _ _ u w (hev x) (LRel.mapv hev _) hu with ⟨r1, r2⟩ | ⟨e, _⟩
        · refine .pure hR (V := u) ?_ r2
          have hm : (args.map cev).toList = cev x :: (y :: l).map cev := by simp [hl]
          simp only [execOp, resolve, Sem.run_bind, Sem.run_pure, Result.andThen_ok, invoke, builtin, Builtin.min_, hm, r1]
        · simp at e
      · cases h
    · cases h
  · cases h

/-- An operation that hangs on its operands alone, not on the heap. -/
theorem aop_pure {E : Env} {ev : Operand → Value} {op : Op} {H H' : AHeap} {v : Value} (hk : kindOf E op = .pure) (h : aop E ev op H = some (v, H')) (H2 : AHeap) :
    aop E ev op H2 = some (v, H2) := by
  cases op with
  | convert s d x =>
    simp only [aop, aconv] at h ⊢
    split at h
    · rename_i i j hi hj
      have di := desc_eq hi
      have dj := desc_eq hj
      simp only [kindOf, di, dj] at hk
      generalize ev x = y at h ⊢
      split at h
      · rename_i ei k k' n hdj
        simp only [Option.some.injEq, Prod.mk.injEq] at h
        simp [hdj, h.1]
      · rename_i ei t hdj
        simp only [Option.some.injEq, Prod.mk.injEq] at h
        simp [hdj, h.1]
      · rename_i ei e t hdj
        exfalso
        rw [hdj] at hk
        cases hdi : i.desc <;> simp [hdi] at hk
      · rename_i e n c hdi hdj
        exfalso
        simp [hdi, hdj] at hk
      · rename_i e b o n c hdi hdj
        exfalso
        simp [hdi, hdj] at hk
      · cases h
    · cases h
  | slice t x lo hi mx =>
    cases mx with
    | some m => simp [aop] at h
    | none =>
      simp only [aop, aslice] at h ⊢
      cases hi' : E.ty t with
      | none => simp [hi'] at h
      | some i =>
        have di := desc_eq hi'
        simp only [kindOf, di] at hk
        cases hd : i.desc <;> simp [hd] at hk
        simp only [hi', hd] at h ⊢
        generalize ev x = y at h ⊢
        cases y <;> simp only [] at h ⊢ <;> first
          | (cases h; done)
          | skip
        split at h
        · rename_i u hu
          simp only [Option.some.injEq, Prod.mk.injEq] at h
          rw [h.1]
        · cases h
  | call c =>
    obtain ⟨callee, as, ts⟩ := c
    cases callee with
    | builtin b =>
      cases b <;> simp [kindOf] at hk
      all_goals
        simp only [aop] at h ⊢
        split at h
        · split at h
          · rename_i u hu
            simp only [Option.some.injEq, Prod.mk.injEq] at h
            simp [hu, h.1]
          · cases h
        · cases h
    | _ => simp [kindOf] at hk
  | move x => simp only [aop, Option.some.injEq, Prod.mk.injEq] at h ⊢; exact ⟨h.1, trivial⟩
  | assign x => simp only [aop, Option.some.injEq, Prod.mk.injEq] at h ⊢; exact ⟨h.1, trivial⟩
  | makeFunc fn fs cs => simp only [aop, Option.some.injEq, Prod.mk.injEq] at h ⊢; exact ⟨h.1, trivial⟩
  | pick c a b =>
    simp only [aop] at h ⊢
    split at h
    · simp only [Option.some.injEq, Prod.mk.injEq] at h ⊢; exact ⟨h.1, trivial⟩
    · cases h
  | nilCheck x =>
    simp only [aop] at h ⊢
    split at h
    · simp only [Option.some.injEq, Prod.mk.injEq] at h ⊢; exact ⟨h.1, trivial⟩
    · simp only [Option.some.injEq, Prod.mk.injEq] at h ⊢; exact ⟨h.1, trivial⟩
    · cases h
  | makeInterface t x =>
    simp only [aop] at h ⊢
    split at h
    · split at h
      · cases h
      · simp only [Option.some.injEq, Prod.mk.injEq] at h
        simp_all
    · cases h
  | build t ps =>
    simp only [aop] at h ⊢
    split at h
    · rename_i u hu; simp only [Option.some.injEq, Prod.mk.injEq] at h; simp [h.1]
    · cases h
  | binOp op t x y u =>
    simp only [aop] at h ⊢
    split at h
    · rename_i u hu; simp only [Option.some.injEq, Prod.mk.injEq] at h; simp [h.1]
    · cases h
  | unOp op t x =>
    simp only [aop] at h ⊢
    split at h
    · rename_i u hu; simp only [Option.some.injEq, Prod.mk.injEq] at h; simp [h.1]
    · cases h
  | fieldAddr t x f =>
    simp only [aop] at h ⊢
    split at h
    · rename_i u hu; simp only [Option.some.injEq, Prod.mk.injEq] at h; simp [h.1]
    · cases h
  | field t x f =>
    simp only [aop] at h ⊢
    split at h
    · rename_i u hu; simp only [Option.some.injEq, Prod.mk.injEq] at h; simp [h.1]
    · cases h
  | indexAddr t x y =>
    simp only [aop] at h ⊢
    split at h
    · rename_i u hu; simp only [Option.some.injEq, Prod.mk.injEq] at h; simp [h.1]
    · cases h
  | index t x y =>
    simp only [aop] at h ⊢
    split at h
    · rename_i u hu; simp only [Option.some.injEq, Prod.mk.injEq] at h; simp [h.1]
    · cases h
  | extract x i =>
    simp only [aop] at h ⊢
    split at h
    · split at h
      · rename_i u hu; simp only [Option.some.injEq, Prod.mk.injEq] at h; simp [h.1]
      · cases h
    · cases h
  | _ => simp [kindOf] at hk
/-- The block of a new value. -/
def idOf : Value → Option Nat
  | .pointer (some a) => some a.block
  | .slice (some a) _ _ => some a.block
  | .map (some b) => some b
  | _ => none

/-- One more block, and all else as it was. -/
structure OneMore (w w' : World) : Prop where
  size : w'.heap.size = w.heap.size + 1
  old : ∀ k, k < w.heap.size → w'.heap[k]? = w.heap[k]?
  os : w'.os = w.os
  tape : w'.tape = w.tape
  output : w'.output = w.output
theorem OneMore.alloc (w : World) (o : Obj) : OneMore w (w.alloc o) := ⟨by simp, fun k hk => heap_alloc_old w o hk, rfl, rfl, rfl⟩

/-- An operation that lays a new block: what it lays, and where it lies in the model's memory, under whatever number. -/
def AllocOk (E : Env) (ρ : Ren) (ev cev : Operand → Value) (o : Oper) (w : World) (v : Value) (H H' : AHeap) : Prop :=
  ∃ obj anc, H' = H.push obj ∧ idOf v = some H.size ∧ obj.owns = some anc ∧ anc = [] ∧
    ∃ V w' l, (execOp cev o).run E.P w = .ok (.value V) w' ∧ OneMore w w' ∧ l.B = w.heap.size ∧ ORel ρ w' l obj ∧
      ∀ ρ' : Ren, Ren.le ρ ρ' → ρ' H.size = some l → VRel ρ' v V

theorem newVar_raw {P : Program} {ρ : Ren} {w : World} {t : TypeId} {v V : Value} {cs : List Value} (hc : acells v = some cs) (hv : VRel ρ v V) :
    (newVar t V).run P w = .ok ⟨w.heap.size, 0, none⟩ (w.alloc (.cells V.cells t)) ∧ ORel ρ (w.alloc (.cells V.cells t)) ⟨w.heap.size, 0, V.cells.size, 0⟩ (.cells cs ⟨0, none, true⟩ .live []) := by
  obtain ⟨c1, c2, c3⟩ := acells_rel hc hv
  refine ⟨by simp [newVar, newRow], V.cells, t, (0, 0), heap_alloc_new _ _, rfl, ⟨rfl, fun _ h => (by cases h), fun _ => rfl⟩, ?_, fun i _ _ => by omega⟩
  intro i y hy
  have hlt : i < V.cells.toList.length := by rw [← c1.1]; exact (List.getElem?_eq_some_iff.1 hy).1
  refine ⟨V.cells.toList[i], ?_, c2 _ (List.getElem_mem hlt), c1.2 i y _ hy (List.getElem?_eq_getElem hlt)⟩
  rw [← List.getElem?_eq_getElem hlt, Array.getElem?_toList, Nat.zero_add]

theorem newRow_raw {P : Program} {ρ : Ren} {w : World} {cs : List Value} {CS : Array Value} {e : TypeId} (t : ET) (ht : ∀ e', t.el = some e' → e = e') (hc : LRel ρ cs CS.toList) (h1 : ∀ v ∈ CS.toList, one v = true) :
    (newRow e CS).run P w = .ok ⟨w.heap.size, 0, none⟩ (w.alloc (.cells CS e)) ∧ ORel ρ (w.alloc (.cells CS e)) ⟨w.heap.size, 0, CS.size, t.sz⟩ (.cells cs t .live []) := by
  refine ⟨by simp [newRow], CS, e, (0, 0), heap_alloc_new _ _, rfl, ⟨rfl, ht, fun _ => rfl⟩, ?_, fun i _ _ => by omega⟩
  intro i y hy
  have hlt : i < CS.toList.length := by rw [← hc.1]; exact (List.getElem?_eq_some_iff.1 hy).1
  refine ⟨CS.toList[i], ?_, h1 _ (List.getElem_mem hlt), hc.2 i y _ hy (List.getElem?_eq_getElem hlt)⟩
  rw [← List.getElem?_eq_getElem hlt, Array.getElem?_toList, Nat.zero_add]

theorem aop_alloc {E : Env} (hT : E.TOk) {ρ : Ren} {H H' : AHeap} {w : World} {ev cev : Operand → Value} (hev : ∀ x, VRel ρ (ev x) (cev x)) {o : Oper} {v : Value}
    (hk : kindOf E o.op = .alloc) (h : aop E ev o.op H = some (v, H')) : AllocOk E ρ ev cev o w v H H' := by
  obtain ⟨dst, op, ty, pos, after, guard⟩ := o
  simp only at h hk
  cases op with
  | alloc t =>
    simp only [aop] at h
    split at h
    · rename_i z hz
      obtain ⟨z1, z2⟩ := azero_ok hT hz w
      unfold anew at h
      split at h
      · rename_i cs hcs
        simp only [Option.some.injEq, Prod.mk.injEq] at h
        obtain ⟨rfl, rfl⟩ := h
        obtain ⟨n1, n2⟩ := newVar_raw (P := E.P) (w := w) (t := t) hcs (VRel.plain (ρ := ρ) z2)
        refine ⟨_, [], rfl, rfl, rfl, rfl, .pointer (some ⟨w.heap.size, 0, none⟩), _, _, ?_, .alloc w _, rfl, n2, fun ρ' _ h' => .ptr _ 0 ⟨w.heap.size, 0, z.cells.size, 0⟩ h'⟩
        simp only [execOp, Instr.alloc, Sem.run_bind, z1, Result.andThen_ok, n1, Sem.run_pure]
      · cases h
    · cases h
  | box t x =>
    simp only [aop, anew] at h
    split at h
    · rename_i cs hcs
      simp only [Option.some.injEq, Prod.mk.injEq] at h
      obtain ⟨rfl, rfl⟩ := h
      obtain ⟨n1, n2⟩ := newVar_raw (P := E.P) (w := w) (t := t) hcs (hev x)
      refine ⟨_, [], rfl, rfl, rfl, rfl, .pointer (some ⟨w.heap.size, 0, none⟩), _, _, ?_, .alloc w _, rfl, n2, fun ρ' _ h' => .ptr _ 0 ⟨w.heap.size, 0, (cev x).cells.size, 0⟩ h'⟩
      simp only [execOp, Instr.box, Sem.run_bind, Result.andThen_ok, n1, Sem.run_pure]
    · cases h
  | makeMap t r =>
    cases r with
    | some r => simp [aop] at h
    | none =>
      simp only [aop, Option.some.injEq, Prod.mk.injEq] at h
      obtain ⟨rfl, rfl⟩ := h
      refine ⟨_, [], rfl, rfl, rfl, rfl, .map (some w.heap.size), w.alloc (.map #[] 0), ⟨w.heap.size, 0, 0, 0⟩, ?_, .alloc w _, rfl, ⟨#[], heap_alloc_new _ _, .nil _, .nil _, rfl⟩,
        fun ρ' _ h' => .map _ ⟨w.heap.size, 0, 0, 0⟩ h'⟩
      simp [execOp, Instr.makeMap]
  | buildSlice t n ps =>
    simp only [aop, abuildSlice] at h
    split at h
    · cases h
    · rename_i i hi
      split at h
      · rename_i e hd
        split at h
        · cases h
        · rename_i ei hei
          split at h
          · cases h
          · rename_i z hz
            have hzs := (hT.ty e ei hei).zsize z hz
            have hzp := (hT.ty e ei hei).zok z hz
            split at h
            · cases h
            · rename_i zc hzc
              split at h
              · rename_i hb
                split at h
                · rename_i cs hcs
                  simp only [Option.some.injEq, Prod.mk.injEq] at h
                  obtain ⟨rfl, rfl⟩ := h
                  obtain ⟨r1, r2⟩ := zeros_rel (ρ := ρ) hzc hzp n
                  rw [hzs] at r1 r2
                  obtain ⟨Out, s1, s2, s3⟩ := fill_ok hev (Place := fun k => some (k * ei.size, ei.size)) (fun k p hk => hk) ps.toList _ _ _ r1 hcs
                  have hOut : n * ei.size ≤ Out.size := by
                    have a1 : ∀ (ps : List (Nat × Value)) (cells out : List Value), afill (fun k => some (k * ei.size, ei.size)) cells ps = some out → out.length = cells.length := by
                      intro ps
                      induction ps with
                      | nil => intro cells out h; simp only [afill] at h; injection h with h; rw [h]
                      | cons p ps ih =>
                        intro cells out h
                        simp only [afill] at h
                        split at h
                        · cases h
                        · split at h
                          · rw [ih _ _ h, length_splice]
                          · cases h
                    have a2 := a1 _ _ _ hcs
                    rw [length_azeros, hb.1] at a2
                    have a3 := s2.1
                    simp only [Array.length_toList] at a3
                    omega
                  obtain ⟨n1, n2⟩ := newRow_raw (P := E.P) (w := w) (e := e) ⟨ei.size, some e, true⟩ (fun _ h => Option.some.inj h) s2 (s3 r2)
                  refine ⟨_, [], rfl, rfl, rfl, rfl, .slice (some ⟨w.heap.size, 0, none⟩) n n, _, ⟨w.heap.size, 0, Out.size, ei.size⟩, ?_, .alloc w _, rfl, n2, fun ρ' _ h' => ?_⟩
                  · have hbig : ¬ (n * ei.size > 2 ^ 24) := by omega
                    have hps : (ps.map fun (p : Nat × Operand) => (p.1, cev p.2)) = (ps.toList.map fun p => (p.1, cev p.2)).toArray := by
                      apply Array.ext'; simp
                    simp only [execOp, Sem.run_bind]
                    rw [show (ps.map fun x => match x with | (i, x) => (i, cev x)) = (ps.map fun (p : Nat × Operand) => (p.1, cev p.2)) from rfl, hps]
                    simp only [Instr.buildSlice, Sem.run_bind, run_und hT hi, hd, Result.andThen_ok, run_size hT hei, Sem.run_ite, hbig, if_false]
                    by_cases hn : n * ei.size = 0
                    · rw [if_pos hn]
                      have e0 : (Array.map (fun x => (#[] : Array Value)[x % (#[] : Array Value).size]!) (Array.range (n * ei.size))) =
                          (Array.range (n * ei.size)).map fun i => z.cells[i % ei.size]! := by rw [hn]; simp
                      simp only [Sem.run_pure, Result.andThen_ok, e0, s1, Sem.run_bind, n1]
                    · rw [if_neg hn]
                      simp only [Sem.run_bind, run_zero hT hei hz, Sem.run_pure, Result.andThen_ok, hzs, s1, n1]
                  · exact .slice _ 0 n n ⟨w.heap.size, 0, Out.size, ei.size⟩ n _ h' (Nat.le_refl _) ⟨Nat.le_refl _, by omega⟩ (fun _ => by simp only []; omega) (fun _ => rfl)
                · cases h
              · cases h
      · cases h
  | makeSlice t a b =>
    simp only [aop, amakeSlice] at h
    have ha := hev a
    have hb := hev b
    generalize ev a = ea at h ha
    generalize ev b = eb at h hb
    split at h
    · rename_i i k l k' c hi
      have ha' := ha.int_inv
      have hb' := hb.int_inv
      split at h
      · rename_i e hd
        split at h
        · cases h
        · rename_i ei hei
          split at h
          · cases h
          · rename_i z hz
            have hzs := (hT.ty e ei hei).zsize z hz
            have hzp := (hT.ty e ei hei).zok z hz
            split at h
            · cases h
            · rename_i zc hzc
              split at h
              · rename_i hb
                simp only [Option.some.injEq, Prod.mk.injEq] at h
                obtain ⟨rfl, rfl⟩ := h
                obtain ⟨b1, b2, b3, b4, b5⟩ := hb
                obtain ⟨f, hf, hf1, hf2⟩ := run_info hT hei w
                have hwl : IntKind.i64.wrap l = l := wrap_i64 b2 (by omega)
                have hwc : IntKind.i64.wrap c = c := wrap_i64 (by omega) b5
                obtain ⟨r1, r2⟩ := zeros_rel (ρ := ρ) hzc hzp c.toNat
                have hsz : c.toNat * ei.size ≤ (Array.map (fun i => z.cells[i % z.cells.size]!) (Array.range (c.toNat * z.cells.size))).size := by
                  simp [hzs]
                obtain ⟨n1, n2⟩ := newRow_raw (P := E.P) (w := w) (e := e) ⟨ei.size, some e, true⟩ (fun _ h => Option.some.inj h) r1 r2
                refine ⟨_, [], rfl, rfl, rfl, rfl, .slice (some ⟨w.heap.size, 0, none⟩) l.toNat c.toNat, _, _, ?_, .alloc w _, rfl, n2, fun ρ' _ h' => ?_⟩
                · have hlarge : ((decide (c < 0) || decide ((f.bytes : Int) * c > 2 ^ 48)) || decide (l < 0) || decide (l > c)) = false := by
                    rw [hf2]
                    have : (ei.bytes : Int) * c = c * ei.bytes := Int.mul_comm _ _
                    simp only [Bool.or_eq_false_iff, decide_eq_false_iff_not]
                    refine ⟨⟨⟨by omega, by rw [this]; omega⟩, by omega⟩, by omega⟩
                  simp only [execOp, ha', hb', Instr.makeSlice, Sem.run_bind, run_und hT hi, hd, Result.andThen_ok, asInt, asIntOf, Sem.run_pure, hf, hwl, hwc, Sem.run_ite, run_askRoom, run_size hT hei, hlarge,
                    Bool.false_eq_true, if_false]
                  by_cases hn : c.toNat * ei.size = 0
                  · rw [if_pos hn]
                    have e0 : (Array.map (fun x => (#[] : Array Value)[x % (#[] : Array Value).size]!) (Array.range (c.toNat * ei.size))) =
                        (Array.range (c.toNat * ei.size)).map fun i => z.cells[i % ei.size]! := by rw [hn]; simp
                    simp only [Result.andThen_ok, e0]
                    rw [hzs] at n1 ⊢
                    rw [n1]
                    rfl
                  · rw [if_neg hn]
                    simp only [run_zero hT hei hz, Result.andThen_ok, hzs]
                    rw [hzs] at n1
                    rw [n1]
                    rfl
                · exact .slice _ 0 _ _ _ _ _ h' (by omega) ⟨Nat.le_refl _, by omega⟩ (fun _ => by simp only []; omega) (fun _ => rfl)
              · cases h
      · cases h
    · cases h
  | convert s d x =>
    simp only [aop, aconv] at h
    have hx := hev x
    split at h
    · rename_i i j hi hj
      have di := desc_eq hi
      have dj := desc_eq hj
      simp only [kindOf, di, dj] at hk
      have ui := (hT.ty s i hi).und
      have uj := (hT.ty d j hj).und
      generalize ev x = y at h hx
      split at h
      · rename_i ei k k' n hdj
        exfalso
        cases hdi : i.desc <;> simp [hdi, hdj] at hk
      · rename_i ei t hdj
        exfalso
        cases hdi : i.desc <;> simp [hdi, hdj] at hk
      · rename_i di' e t hdj
        have hX := hx.string_inv
        split at h
        · rename_i ei hei
          split at h
          · rename_i hde
            split at h
            · rename_i hsz
              simp only [Option.some.injEq, Prod.mk.injEq] at h
              obtain ⟨rfl, rfl⟩ := h
              have he := (hT.ty e ei hei).und
              rw [hde] at he
              rw [hdj] at uj
              have hrun := Lib.run_convert_string_bytes w s d e t ui uj he
              have hcap : t.size ≤ grownCap w t.size 0 e := Nat.le_add_right _ _
              have hcap2 : grownCap w t.size 0 e ≤ 9223372036854775807 := grownCap_le_maxLen w t.size 0 e hsz.2
              have hN : (Lib.bytesCells w e t).size = grownCap w t.size 0 e := by
                unfold Lib.bytesCells
                rw [Array.size_append, Array.size_map, Array.size_replicate]
                have : t.data.size = t.size := rfl
                omega
              refine ⟨_, [], rfl, rfl, rfl, rfl, .slice (some ⟨w.heap.size, 0, none⟩) t.size (grownCap w t.size 0 e), Lib.bytesWorld w e t, ⟨w.heap.size, 0, (Lib.bytesCells w e t).size, 1⟩, ?_,
                ⟨Lib.bytesWorld_size w e t, fun k hk => Lib.bytesWorld_at_old w e t k hk, rfl, rfl, rfl⟩, rfl, ?_, fun ρ' _ h' => ?_⟩
              · simp only [execOp, hX, Sem.run_bind, hrun, Result.andThen_ok, Sem.run_pure]
              · refine ⟨Lib.bytesCells w e t, e, _, Lib.bytesWorld_at_new w e t, rfl, ⟨rfl, fun _ h => Option.some.inj h, fun h => by cases h⟩, ?_, ?_⟩
                · intro q y hy
                  have hlt : q < t.data.size := by
                    have := (List.getElem?_eq_some_iff.1 hy).1; simpa [bytesOf] using this
                  unfold bytesOf at hy
                  rw [List.getElem?_map, Array.getElem?_toList, Array.getElem?_eq_getElem hlt, Option.map_some] at hy
                  injection hy with hy
                  subst hy
                  refine ⟨.int .u8 (t.data[q]).toNat, ?_, rfl, .int _ _⟩
                  show (Lib.bytesCells w e t)[0 + q]? = _
                  unfold Lib.bytesCells
                  rw [Nat.zero_add, Array.getElem?_append_left (by simpa using hlt), Array.getElem?_map, Array.getElem?_eq_getElem hlt]
                  rfl
                · intro _ q _ hq
                  have : q < (Lib.bytesCells w e t).size := hq
                  omega
              · refine .slice _ 0 t.size t.size _ _ _ h' (Nat.le_refl _) ⟨hcap, hcap2⟩ (fun _ => ?_) (fun _ => rfl)
                show 0 + 0 + grownCap w t.size 0 e * 1 ≤ (Lib.bytesCells w e t).size
                omega
            · cases h
          · cases h
        · cases h
      · rename_i e n c hdi hdj
        exfalso
        simp [hdi, hdj] at hk
      · rename_i e b o n c hdi hdj
        exfalso
        simp [hdi, hdj] at hk
      · cases h
    · cases h
  | slice t x lo hi mx =>
    exfalso
    simp only [kindOf] at hk
    split at hk
    · cases hk
    · split at hk <;> cases hk
  | call c =>
    exfalso
    obtain ⟨callee, as, ts⟩ := c
    cases callee with
    | builtin b => cases b <;> simp [kindOf] at hk
    | _ => simp [kindOf] at hk
  | _ => simp [kindOf] at hk
end Go.Ev
