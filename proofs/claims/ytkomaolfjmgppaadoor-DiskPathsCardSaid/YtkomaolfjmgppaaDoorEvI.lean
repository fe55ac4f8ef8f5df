/- The abstract operations are sound: composite values, make, conversions. -/
import Derived.Test.YtkomaolfjmgppaaDoorEvH
namespace Go.Ev
open Go
set_option linter.unusedVariables false
set_option linter.unusedSimpArgs false

theorem fold_splice (off : Nat) : ∀ (l : List Value) (k : Nat) (A : Array Value),
    ((l.zipIdx k).foldl (fun (cs : Array Value) (p : Value × Nat) => cs.setIfInBounds (off + p.2) p.1) A).toList = splice A.toList (off + k) l := by
  intro l
  induction l with
  | nil => intro k A; rfl
  | cons v l ih =>
    intro k A
    simp only [List.zipIdx_cons, List.foldl_cons, splice]
    rw [ih]
    simp [Array.toList_setIfInBounds, Nat.add_assoc]

theorem LRel.splice {ρ : Ren} : ∀ {vs Vs cs Cs : List Value} {o : Nat}, LRel ρ vs Vs → LRel ρ cs Cs → LRel ρ (splice cs o vs) (Ev.splice Cs o Vs) := by
  intro vs
  induction vs with
  | nil => intro Vs cs Cs o h k; obtain rfl := h.nil_left; exact k
  | cons v vs ih =>
    intro Vs cs Cs o h k
    obtain ⟨V, T, rfl, h1, h2⟩ := h.cons_left
    exact ih h2 (k.set o h1)
theorem mem_splice : ∀ {vs cs : List Value} {o : Nat} {p : Value → Prop}, (∀ v ∈ vs, p v) → (∀ v ∈ cs, p v) → ∀ v ∈ splice cs o vs, p v := by
  intro vs
  induction vs with
  | nil => intro cs o p _ h; exact h
  | cons u vs ih =>
    intro cs o p h k
    refine ih (fun v hv => h v (by simp [hv])) fun v hv => ?_
    rcases List.mem_or_eq_of_mem_set hv with e | e
    · exact k v e
    · subst e; exact h v (by simp)

theorem fill_ok {ρ : Ren} {ev cev : Operand → Value} (hev : ∀ x, VRel ρ (ev x) (cev x)) {place Place : Nat → Option (Nat × Nat)} (hp : ∀ k p, place k = some p → Place k = some p) :
    ∀ (ps : List (Nat × Operand)) (cells out : List Value) (Cells : Array Value), LRel ρ cells Cells.toList → afill place cells (ps.map fun p => (p.1, ev p.2)) = some out →
      ∃ Out : Array Value, Instr.fill Place Cells (ps.map fun p => (p.1, cev p.2)) = some Out ∧ LRel ρ out Out.toList ∧
        ((∀ v ∈ Cells.toList, one v = true) → ∀ v ∈ Out.toList, one v = true) := by
  intro ps
  induction ps with
  | nil =>
    intro cells out Cells hc h
    simp only [List.map_nil, afill] at h
    injection h with h; subst h
    exact ⟨Cells, rfl, hc, fun h => h⟩
  | cons p ps ih =>
    intro cells out Cells hc h
    simp only [List.map_cons, afill] at h
    split at h
    · cases h
    · rename_i o n hpl
      split at h
      · cases h
      · rename_i cs hcs
        split at h
        · rename_i hlen
          obtain ⟨r1, r2, r3⟩ := acells_rel hcs (hev p.2)
          have hsz : (cev p.2).cells.size = cs.length := by have := r1.1; simp at this; exact this.symm
          have hcl : Cells.size = cells.length := by have := hc.1; simp at this; exact this.symm
          have hfold : ((cev p.2).cells.zipIdx.foldl (fun (cs : Array Value) (p : Value × Nat) => cs.setIfInBounds (o + p.2) p.1) Cells).toList = splice Cells.toList o (cev p.2).cells.toList := by
            have := fold_splice o (cev p.2).cells.toList 0 Cells
            rw [← Array.foldl_toList, Array.toList_zipIdx]
            exact this
          obtain ⟨Out, s1, s2, s3⟩ := ih (splice cells o cs) out ((cev p.2).cells.zipIdx.foldl (fun (cs : Array Value) (p : Value × Nat) => cs.setIfInBounds (o + p.2) p.1) Cells)
            (by rw [hfold]; exact .splice r1 hc) h
          refine ⟨Out, ?_, s2, fun h => s3 ?_⟩
          · simp only [List.map_cons, Instr.fill, hp _ _ hpl]
            rw [if_neg (by simp [hsz, hcl, hlen.1]; omega)]
            exact s1
          · rw [hfold]; exact mem_splice r2 h
        · cases h

theorem run_places {E : Env} (hT : E.TOk) (w : World) : ∀ (fs : List Field), (∀ f ∈ fs, ∃ g, E.P.info? f.type = some g) →
    ∃ ps : List (Nat × Nat), (fs.mapM (fun f => do pure (f.offset, ← sizeOf f.type)) : Sem (List (Nat × Nat))).run E.P w = .ok ps w ∧ ps.length = fs.length ∧
      ∀ (k : Nat) (f : Field), fs[k]? = some f → ∀ (n : Nat), asize E f.type = some n → ps[k]? = some (f.offset, n) := by
  intro fs
  induction fs with
  | nil => intro _; exact ⟨[], rfl, rfl, fun k f h => by simp at h⟩
  | cons f fs ih =>
    intro h
    obtain ⟨g, hg⟩ := h f (by simp)
    obtain ⟨ps, p1, p2, p3⟩ := ih fun f hf => h f (by simp [hf])
    have hs : (sizeOf f.type).run E.P w = .ok g.size w := by simp [sizeOf, typeInfo, hg]
    refine ⟨(f.offset, g.size) :: ps, ?_, by simp [p2], ?_⟩
    · simp only [List.mapM_cons, Sem.run_bind, hs, Result.andThen_ok, Sem.run_pure, p1]
    · intro k f' hk n hn
      cases k with
      | zero =>
        simp at hk; subst hk
        obtain ⟨i, hi, rfl⟩ := asize_some hn
        have := run_size hT hi w
        rw [hs] at this
        injection this with this
        simp [this]
      | succ k => simp at hk ⊢; exact p3 k f' hk n hn

theorem abuild_ok {E : Env} (hT : E.TOk) {ρ : Ren} {ev cev : Operand → Value} (hev : ∀ x, VRel ρ (ev x) (cev x)) {t : TypeId} {ps : List (Nat × Operand)} {v : Value}
    (h : abuild E t (ps.map fun p => (p.1, ev p.2)) = some v) (w : World) : ∃ V, (Instr.build t (ps.map fun p => (p.1, cev p.2)).toArray).run E.P w = .ok V w ∧ VRel ρ v V := by
  unfold abuild at h
  split at h
  · cases h
  · rename_i i hi
    split at h
    · cases h
    · rename_i z hz
      have hzz : VRel ρ z z := .plain ((hT.ty t i hi).zok z hz)
      have hzt : z ≠ Ev.top := by
        rintro rfl
        have := (hT.ty t i hi).zok _ hz
        simp [plain, top, plain1] at this
      have hzc := hzz.cells hzt
      split at h
      · rename_i fs hd
        split at h
        · rename_i cs hcs
          injection h with h; subst h
          obtain ⟨pl, q1, q2, q3⟩ := run_places hT w fs.toList ((hT.ty t i hi).fields fs hd)
          obtain ⟨Out, s1, s2, _⟩ := fill_ok hev (Place := (pl.toArray[·]?)) (place := aplace E fs) (by
            intro k p hk
            unfold aplace at hk
            split at hk
            · rename_i f hf
              split at hk
              · rename_i n hn
                injection hk with hk; subst hk
                rw [List.getElem?_toArray]
                exact q3 k f (by rw [Array.getElem?_toList]; exact hf) n hn
              · cases hk
            · cases hk) ps _ _ z.cells hzc hcs
          refine ⟨.agg Out, ?_, .agg _ _ (by simpa using s2.1) fun j x y hx hy => s2.2 j x y (by simpa using hx) (by simpa using hy)⟩
          have hm : (fs.mapM (fun f => do pure (f.offset, ← sizeOf f.type)) : Sem (Array (Nat × Nat))).run E.P w = .ok pl.toArray w := by
            rw [Array.mapM_eq_mapM_toList, Sem.run_map, q1]; rfl
          simp only [Instr.build, Sem.run_bind, run_zero hT hi hz, run_und hT hi, hd, Result.andThen_ok, hm, s1, Sem.run_pure]
        · cases h
      · rename_i n e hd
        split at h
        · rename_i sz hs
          obtain ⟨ei, hei, rfl⟩ := asize_some hs
          split at h
          · rename_i cs hcs
            injection h with h; subst h
            obtain ⟨Out, s1, s2, _⟩ := fill_ok hev (Place := fun k => some (k * ei.size, ei.size)) (fun k p hk => hk) ps _ _ z.cells hzc hcs
            refine ⟨.agg Out, ?_, .agg _ _ (by simpa using s2.1) fun j x y hx hy => s2.2 j x y (by simpa using hx) (by simpa using hy)⟩
            simp only [Instr.build, Sem.run_bind, run_zero hT hi hz, run_und hT hi, hd, Result.andThen_ok, run_size hT hei, s1, Sem.run_pure]
          · cases h
        · cases h
      · cases h

/-- A row of new cells, all of which are known. -/
theorem newRow_ok {P : Program} {ρ : Ren} {H : AHeap} {w : World} (hR : Rel ρ H w) {cs : List Value} {CS : Array Value} {e : TypeId} {t : ET} {n c : Nat} (ht : ∀ e', t.el = some e' → e = e') (hc : LRel ρ cs CS.toList)
    (h1 : ∀ v ∈ CS.toList, one v = true) (hn : n ≤ c) (hc63 : c ≤ 9223372036854775807) (hlen : c * t.sz ≤ CS.size) :
    ∃ w' ρ', (newRow e CS).run P w = .ok ⟨w.heap.size, 0, none⟩ w' ∧ Rel ρ' (H.push (.cells cs t .live [])) w' ∧ Step ρ H w ρ' (H.push (.cells cs t .live [])) w' ∧
      VRel ρ' (.slice (some ⟨H.size, 0, none⟩) n c) (.slice (some ⟨w.heap.size, 0, none⟩) n c) := by
  have ho : ORel (ρ.upd H.size ⟨w.heap.size, 0, CS.size, t.sz⟩) (w.alloc (.cells CS e)) ⟨w.heap.size, 0, CS.size, t.sz⟩ (.cells cs t .live []) := by
    refine ⟨CS, e, (0, 0), heap_alloc_new _ _, rfl, ⟨rfl, ht, fun _ => rfl⟩, ?_, fun i _ _ => by omega⟩
    intro i y hy
    have hlt : i < CS.toList.length := by rw [← hc.1]; exact (List.getElem?_eq_some_iff.1 hy).1
    refine ⟨CS.toList[i], ?_, h1 _ (List.getElem_mem hlt), (hc.2 i y _ hy (List.getElem?_eq_getElem hlt)).mono (Ren.upd_le hR.fresh)⟩
    rw [← List.getElem?_eq_getElem hlt, Array.getElem?_toList, Nat.zero_add]
  obtain ⟨r1, r2⟩ := hR.alloc (.cells CS e) (.cells cs t .live []) ⟨w.heap.size, 0, CS.size, t.sz⟩ rfl ho
  refine ⟨_, _, by simp [newRow], r1, r2, .slice H.size 0 n c _ c _ (Ren.upd_eq _ _ _) hn ⟨Nat.le_refl _, hc63⟩ (fun _ => ?_) (fun _ => rfl)⟩
  show 0 + 0 + c * t.sz ≤ CS.size
  omega

theorem abuildSlice_ok {E : Env} (hT : E.TOk) {ρ : Ren} {H H' : AHeap} {w : World} (hR : Rel ρ H w) {ev cev : Operand → Value} (hev : ∀ x, VRel ρ (ev x) (cev x)) {t : TypeId} {n : Nat}
    {ps : List (Nat × Operand)} {v : Value} (h : abuildSlice E t n (ps.map fun p => (p.1, ev p.2)) H = some (v, H')) :
    ∃ V w' ρ', (Instr.buildSlice t n (ps.map fun p => (p.1, cev p.2)).toArray).run E.P w = .ok V w' ∧ Rel ρ' H' w' ∧ Step ρ H w ρ' H' w' ∧ VRel ρ' v V := by
  unfold abuildSlice at h
  split at h
  · cases h
  · rename_i i hi
    split at h
    · rename_i e hd
      split at h
      · cases h
      · rename_i ei hei
        split at h
        · cases h
        · rename_i z hz
          have hzs := (hT.ty e ei hei).zsize z hz
          have hzp := (hT.ty e ei hei).zok z hz
          split at h
          · cases h
          · rename_i zc hzc
            split at h
            · rename_i hb
              split at h
              · rename_i cs hcs
                simp only [Option.some.injEq, Prod.mk.injEq] at h
                obtain ⟨rfl, rfl⟩ := h
                obtain ⟨r1, r2⟩ := zeros_rel (ρ := ρ) hzc hzp n
                rw [hzs] at r1 r2
                obtain ⟨Out, s1, s2, s3⟩ := fill_ok hev (Place := fun k => some (k * ei.size, ei.size)) (fun k p hk => hk) ps _ _ _ r1 hcs
                have hOut : n * ei.size ≤ Out.size := by
                  have a1 : ∀ (ps : List (Nat × Value)) (cells out : List Value), afill (fun k => some (k * ei.size, ei.size)) cells ps = some out → out.length = cells.length := by
                    intro ps
                    induction ps with
                    | nil => intro cells out h; simp only [afill] at h; injection h with h; rw [h]
                    | cons p ps ih =>
                      intro cells out h
                      simp only [afill] at h
                      split at h
                      · cases h
                      · split at h
                        · rw [ih _ _ h, length_splice]
                        · cases h
                  have a2 := a1 _ _ _ hcs
                  rw [length_azeros, hb.1] at a2
                  have a3 := s2.1
                  simp only [Array.length_toList] at a3
                  omega
                obtain ⟨w', ρ', q1, q2, q3, q4⟩ := newRow_ok (P := E.P) (e := e) (t := ⟨ei.size, some e, true⟩) hR (fun _ h => Option.some.inj h) s2 (s3 r2) (Nat.le_refl n) (by omega) hOut
                refine ⟨_, w', ρ', ?_, q2, q3, q4⟩
                have hbig : ¬ (n * ei.size > 2 ^ 24) := by omega
                simp only [Instr.buildSlice, Sem.run_bind, run_und hT hi, hd, Result.andThen_ok, run_size hT hei, Sem.run_ite, hbig, if_false]
                by_cases hn : n * ei.size = 0
                · rw [if_pos hn]
                  have e0 : (Array.map (fun x => (#[] : Array Value)[x % (#[] : Array Value).size]!) (Array.range (n * ei.size))) =
                      (Array.range (n * ei.size)).map fun i => z.cells[i % ei.size]! := by rw [hn]; simp
                  simp only [Sem.run_pure, Result.andThen_ok, e0, s1, Sem.run_bind, q1]
                · rw [if_neg hn]
                  simp only [Sem.run_bind, run_zero hT hei hz, Sem.run_pure, Result.andThen_ok, hzs, s1, q1]
              · cases h
            · cases h
    · cases h
end Go.Ev
