/- The abstract operations are sound: append, copy, len, makeslice, maps, the rest. -/
import Derived.Test.YtkomaolfjmgppaaDoorEvG
namespace Go.Ev
open Go
set_option linter.unusedVariables false
set_option linter.unusedSimpArgs false

theorem Step.drew (ρ : Ren) (H : AHeap) (w : World) : Step ρ H w ρ H w.drew :=
  ⟨.refl ρ, fun _ _ => rfl, Nat.le_refl _, rfl, rfl, rfl, Nat.le_refl _, fun _ _ h => h, fun _ _ _ => rfl⟩

theorem Src.nil {E : Env} {ρ : Ren} {xt : TypeId} {ei : TyI} {z X : Value} {new : List Value} {w : World} (h : Src E ρ xt ei z X 0 new w) : new = [] := by
  have := h.1; simpa using this

/-- Where an append lays what it makes anew. -/
theorem grow_new {E : Env} (hT : E.TOk) {ρ : Ren} {H : AHeap} {w : World} (hR : Rel ρ H w) {e : TypeId} {ei : TyI} {z : Value} (hei : E.ty e = some ei) (hz : ei.zero = some z)
    {old new : List Value} {Old New : Array Value} (ho : LRel ρ old Old.toList) (ho1 : ∀ v ∈ Old.toList, one v = true) (hn : LRel ρ new New.toList) (hn1 : ∀ v ∈ New.toList, one v = true)
    {k c : Nat} (hk : k ≤ c ∧ c ≤ 9223372036854775807) (hlen : (old ++ new).length = k * ei.size) (anc : List Nat) {t : ET} (ht : t.sz = ei.size ∧ (t.el = none ∨ t.el = some e)) :
    ∃ ρ', Rel ρ' (H.push (.cells (old ++ new) t .live anc)) (w.drew.alloc (.cells (Old ++ New ++ Builtin.zeroCells z.cells (c - k)) e)) ∧
      Step ρ H w ρ' (H.push (.cells (old ++ new) t .live anc)) (w.drew.alloc (.cells (Old ++ New ++ Builtin.zeroCells z.cells (c - k)) e)) ∧
      VRel ρ' (.slice (some ⟨H.size, 0, none⟩) k k) (.slice (some ⟨w.heap.size, 0, none⟩) k c) := by
  have hzs := (hT.ty e ei hei).zsize z hz
  let CS := Old ++ New ++ Builtin.zeroCells z.cells (c - k)
  have hR' := hR.heap (w' := w.drew) rfl
  have hcs : CS.size = c * ei.size := by
    show (Old ++ New ++ Builtin.zeroCells z.cells (c - k)).size = _
    have e1 := ho.1
    have e2 := hn.1
    simp only [Array.length_toList] at e1 e2
    rw [Array.size_append, Array.size_append, ← e1, ← e2]
    simp only [List.length_append] at hlen
    rw [hlen]
    simp only [Builtin.zeroCells, Array.size_map, Array.size_range, hzs]
    rw [← Nat.add_mul]; congr 1; omega
  let l : Loc := ⟨w.heap.size, 0, CS.size, ei.size⟩
  have hf := hR.fresh
  have hle : Ren.le ρ (ρ.upd H.size l) := Ren.upd_le hf
  have hor : ORel (ρ.upd H.size l) (w.drew.alloc (.cells CS e)) l (.cells (old ++ new) t .live anc) := by
    refine ⟨CS, e, (0, 0), heap_alloc_new w.drew _, rfl, ⟨ht.1.symm, fun e' he => by rcases ht.2 with h | h <;> rw [h] at he <;> cases he; rfl, fun _ => rfl⟩, ?_, fun i _ _ => by omega⟩
    intro i v hv
    have hon : LRel ρ (old ++ new) (Old ++ New).toList := by rw [Array.toList_append]; exact ho.append hn
    have hlt : i < (Old ++ New).toList.length := by rw [← hon.1]; exact (List.getElem?_eq_some_iff.1 hv).1
    refine ⟨(Old ++ New).toList[i], ?_, ?_, (hon.2 i v _ hv (List.getElem?_eq_getElem hlt)).mono hle⟩
    · rw [Nat.zero_add]
      show (Old ++ New ++ Builtin.zeroCells z.cells (c - k))[i]? = _
      rw [Array.getElem?_append_left (by simpa using hlt), ← Array.getElem?_toList, List.getElem?_eq_getElem hlt]
    · have hmem : ∀ v ∈ (Old ++ New).toList, v ∈ Old.toList ∨ v ∈ New.toList := fun v hv => by rw [Array.toList_append, List.mem_append] at hv; exact hv
      rcases hmem _ (List.getElem_mem hlt) with h | h
      · exact ho1 _ h
      · exact hn1 _ h
  obtain ⟨r1, r2⟩ := hR'.alloc (.cells CS e) (.cells (old ++ new) t .live anc) l rfl hor
  refine ⟨_, r1, (Step.drew ρ H w).trans r2, ?_⟩
  refine .slice H.size 0 k k l c _ (Ren.upd_eq _ _ _) (Nat.le_refl _) hk (fun _ => ?_) (fun _ => rfl)
  show 0 + 0 + c * ei.size ≤ CS.size
  rw [hcs]; omega

theorem aappend_ok {E : Env} (hT : E.TOk) {ρ : Ren} {H H' : AHeap} {w : World} (hR : Rel ρ H w) {st xt : TypeId} {s S x X v : Value} (hs : VRel ρ s S) (hx : VRel ρ x X)
    (h : aappend E st xt s x H = some (v, H')) {ats : Array TypeId} {args : Array Value} {ty : TypeId} (h0 : ats[0]? = some st) (h1 : ats[1]? = some xt)
    (a0 : args[0]? = some S) (a1 : args[1]? = some X) :
    ∃ V w' ρ', (Builtin.append_ ats ty args).run E.P w = .ok V w' ∧ Rel ρ' H' w' ∧ Step ρ H w ρ' H' w' ∧ VRel ρ' v V := by
  unfold aappend at h
  split at h
  · cases h
  · rename_i i hi
    split at h
    · rename_i e hd
      split at h
      · cases h
      · rename_i ei hei
        split at h
        · cases h
        · rename_i z hz
          have hzs := (hT.ty e ei hei).zsize z hz
          have hzp := (hT.ty e ei hei).zok z hz
          split at h
          · cases h
          · rename_i m new hadd
            have hsrc := aadd_ok hR hzp hzs hx hadd
            split at h
            · -- a nil slice
              obtain ⟨rfl, _, _⟩ := hs.slice_nil_inv
              split at h
              · rename_i hm
                simp only [Option.some.injEq, Prod.mk.injEq] at h
                obtain ⟨rfl, rfl⟩ := h
                subst hm
                obtain ⟨New, r1, r2, r3⟩ := app_room hT (ty := ty) hi hd hei hz hsrc h0 h1 a0 a1 (Nat.le_refl _)
                exact ⟨.slice none 0 0, w, ρ, by rw [r3]; rfl, hR, .refl _ _ _, .nils⟩
              · rename_i hm
                split at h
                · rename_i hb
                  simp only [Option.some.injEq, Prod.mk.injEq] at h
                  obtain ⟨rfl, rfl⟩ := h
                  obtain ⟨New, r1, r2, c, r3, r4⟩ := app_grow hT (ty := ty) hi hd hei hz hsrc h0 h1 a0 a1 (by omega) (by simpa using hb.1) (by simpa using hb.2) (Old := #[]) rfl
                  simp only [Nat.zero_add] at r3 r4
                  obtain ⟨ρ', s1, s2, s3⟩ := grow_new hT hR hei hz (LRel.nil ρ) (by simp) r1 r2 r3 (by simpa using hsrc.1) [] (t := ⟨ei.size, some e, true⟩) ⟨rfl, .inr rfl⟩
                  exact ⟨_, _, ρ', r4, s1, s2, s3⟩
                · cases h
            · rename_i b o n c
              obtain ⟨l, C, A, hb, hn, hc, hN, hA, rfl⟩ := hs.slice_inv
              split at h
              · rename_i hm
                simp only [Option.some.injEq, Prod.mk.injEq] at h
                obtain ⟨rfl, rfl⟩ := h
                subst hm
                obtain ⟨New, r1, r2, r3⟩ := app_room hT (ty := ty) hi hd hei hz hsrc h0 h1 a0 a1 (by omega)
                have := hsrc.nil
                subst this
                have hNew : New.toList = [] := r1.nil_left
                refine ⟨.slice (some A) n C, w, ρ, ?_, hR, .refl _ _ _, hs⟩
                rw [r3]
                simp only [appSt, hNew, storeCells, Sem.run_bind, Sem.run_pure, Result.andThen_ok, Nat.add_zero]
              · rename_i hm
                split at h
                · rename_i hroom
                  split at h
                  · rename_i hst
                    split at h
                    · rename_i H1 hw
                      simp only [Option.some.injEq, Prod.mk.injEq] at h
                      obtain ⟨rfl, rfl⟩ := h
                      have hCz : C ≠ 0 := by omega
                      have hA' := hA hCz
                      subst hA'
                      obtain ⟨New, r1, r2, r3⟩ := app_room hT (ty := ty) hi hd hei hz hsrc h0 h1 a0 a1 (Nat.le_trans hroom hc.1)
                      obtain ⟨w', s1, s2, s3⟩ := wr_ok (P := E.P) hR hb r1 r2 hw
                      refine ⟨.slice (some ⟨l.B, l.s + o, none⟩) (n + m) C, w', ρ, ?_, s2, s3, ?_⟩
                      · rw [r3]
                        simp only [appSt, Sem.run_bind, addr_add]
                        rw [Nat.add_assoc l.s o, s1]
                        rfl
                      · exact .slice b o (n + m) c l C _ hb hroom hc hN hA
                    · cases h
                  · cases h
                · rename_i hroom
                  split at h
                  · rename_i cs t anc hg
                    split at h
                    · rename_i hb2
                      simp only [Option.some.injEq, Prod.mk.injEq] at h
                      obtain ⟨rfl, rfl⟩ := h
                      obtain ⟨q1, q2, q3, q4, q5⟩ := hb2
                      obtain ⟨CS, el, fr, e0, e1, e2, e3, e4⟩ := hR.obj b l _ hb hg
                      obtain ⟨qs, qe⟩ := q1
                      rw [qs] at q2 ⊢
                      have hnt : n * ei.size ≤ c * ei.size := Nat.mul_le_mul_right _ q3
                      have hwh : (n == c) = true → o + n * ei.size = cs.length := by
                        intro hh
                        have : n = c := by simpa using hh
                        rw [this]
                        exact q2
                      by_cases hin : n + m ≤ C
                      · -- within the model's capacity
                        have hCz : C ≠ 0 := by omega
                        have hA' := hA hCz
                        subst hA'
                        obtain ⟨New, r1, r2, r3⟩ := app_room hT (ty := ty) hi hd hei hz hsrc h0 h1 a0 a1 hin
                        have hlen : New.toList.length = m * ei.size := by rw [← r1.1]; exact hsrc.1
                        have hNC := hN hCz
                        rw [e2.1, qs] at hNC
                        have hmul : (n + m) * ei.size ≤ C * ei.size := Nat.mul_le_mul_right _ hin
                        rw [Nat.add_mul] at hmul
                        obtain ⟨w', s1, s2⟩ := run_storeCells E.P l.B el fr New.toList w (l.s + o + n * ei.size) 0 CS e0 (by omega) (fun j h1 h2 => e4 (by simp) j (by omega) (by omega)) r2
                        have := hR.growIn hb hg e0 r1 r2 (o := o) (p := n * ei.size) (by omega) s2 (by omega) (n == c) hwh
                        refine ⟨.slice (some ⟨l.B, l.s + o, none⟩) (n + m) C, w', _, ?_, this.1, this.2, ?_⟩
                        · rw [r3]
                          simp only [appSt, Sem.run_bind, addr_add]
                          rw [s1]
                          rfl
                        · exact .slice H.size 0 (n + m) (n + m) ⟨l.B, l.s + o, l.N, l.t⟩ C _ (Ren.upd_eq _ _ _) (Nat.le_refl _) ⟨hin, hc.2⟩ (fun _ => by simp only [e2.1, qs]; omega) (fun _ => rfl)
                      · -- a new array
                        have hrd : rd H b o (n * ei.size) = some ((cs.drop o).take (n * ei.size)) := by unfold rd; rw [hg]; simp only []; rw [if_pos (by omega)]
                        obtain ⟨Vs, x1, x2, x3, x4⟩ := rd_rel hR hb hrd
                        have hold : (Builtin.firstCells ei.size n (.slice (some A) n C)).run E.P w.drew = .ok ⟨Vs⟩ w.drew := by
                          have hlen : Vs.length = n * ei.size := by rw [← x1.1]; exact x2
                          by_cases hnz : n * ei.size = 0
                          · have : Vs = [] := List.length_eq_zero_iff.1 (by omega)
                            subst this
                            simp [Builtin.firstCells, hnz, loadCells, loadCellsFrom]
                          · have hCz : C ≠ 0 := by
                              intro hh
                              have : n = 0 := by omega
                              rw [this] at hnz; simp at hnz
                            have hA' := hA hCz
                            subst hA'
                            have := run_loadCells_list (P := E.P) (w := w.drew) ⟨l.B, l.s + o, none⟩ Vs (fun j V hj => x4 j V hj)
                            rw [hlen] at this
                            exact this
                        obtain ⟨New, r1, r2, c', r3, r4⟩ := app_grow hT (ty := ty) hi hd hei hz hsrc h0 h1 a0 a1 (by omega) q4 q5 hold
                        obtain ⟨t1, t2⟩ := hR.taken hg (n == c)
                        have hol : ((cs.drop o).take (n * ei.size) ++ new).length = (n + m) * ei.size := by
                          have := hsrc.1
                          have hl : ((cs.drop o).take (n * ei.size)).length = n * ei.size := by rw [List.length_take, List.length_drop]; omega
                          rw [List.length_append, this, hl, Nat.add_mul]
                        obtain ⟨ρ', s1, s2, s3⟩ := grow_new hT t1 hei hz x1 x3 r1 r2 r3 hol (takenAnc b anc (n == c)) (t := t) ⟨qs, qe⟩
                        refine ⟨_, _, ρ', r4, s1, t2.trans s2, ?_⟩
                        rw [size_taken] at s3
                        exact s3
                    · cases h
                  · cases h
            · cases h
    · cases h
theorem acopy_ok {E : Env} (hT : E.TOk) {ρ : Ren} {H H' : AHeap} {w : World} (hR : Rel ρ H w) {st : TypeId} {s S x X v : Value} (hs : VRel ρ s S) (hx : VRel ρ x X)
    (h : acopy E st s x H = some (v, H')) {ats : Array TypeId} {args : Array Value} {ty : TypeId} (h0 : ats[0]? = some st)
    (a0 : args[0]? = some S) (a1 : args[1]? = some X) :
    ∃ w', (Builtin.copy_ ats ty args).run E.P w = .ok v w' ∧ Rel ρ H' w' ∧ Step ρ H w ρ H' w' ∧ VRel ρ v v := by
  unfold acopy at h
  split at h
  · cases h
  · rename_i i hi
    split at h
    · rename_i e hd
      split at h
      · cases h
      · rename_i ei hei
        have cut : ∀ (m : Nat) (cs : List Value) (k : Nat), asrc ei.size x H = some (m, cs) → k ≤ m → ∃ New : Array Value, (Builtin.firstCells ei.size k X).run E.P w = .ok New w ∧
            LRel ρ (cs.take (k * ei.size)) New.toList ∧ ∀ v ∈ New.toList, one v = true := by
          intro m cs k ha hk
          have hle : k * ei.size ≤ m * ei.size := Nat.mul_le_mul_right _ hk
          unfold asrc at ha
          split at ha
          · obtain ⟨rfl, _, _⟩ := hx.slice_nil_inv
            simp only [Option.some.injEq, Prod.mk.injEq] at ha
            obtain ⟨rfl, rfl⟩ := ha
            exact ⟨#[], rfl, by simpa using LRel.nil ρ, by simp⟩
          · rename_i b o n c
            obtain ⟨l, C, A, hb, hn, hc, hN, hA, rfl⟩ := hx.slice_inv
            split at ha
            · simp only [Option.some.injEq, Prod.mk.injEq] at ha
              obtain ⟨rfl, rfl⟩ := ha
              have : k = 0 := by omega
              subst this
              refine ⟨#[], ?_, by simpa using LRel.nil ρ, by simp⟩
              simp [Builtin.firstCells, loadCells, loadCellsFrom]
            · split at ha
              · rename_i cs' hr
                simp only [Option.some.injEq, Prod.mk.injEq] at ha
                obtain ⟨rfl, rfl⟩ := ha
                have hr2 : rd H b o (k * ei.size) = some (cs'.take (k * ei.size)) := by
                  unfold rd at hr ⊢
                  split at hr
                  · rename_i cs0 t st' anc hg
                    split at hr
                    · rename_i hlt
                      injection hr with hr
                      rw [if_pos (by omega), ← hr, List.take_take, Nat.min_eq_left hle]
                    · cases hr
                  · cases hr
                obtain ⟨Vs, r1, r2, r3, r4⟩ := rd_rel hR hb hr2
                have hA' := hA (by omega)
                subst hA'
                have := run_loadCells_list (P := E.P) (w := w) ⟨l.B, l.s + o, none⟩ Vs r4
                have hlen : Vs.length = k * ei.size := by rw [← r1.1]; exact r2
                rw [hlen] at this
                exact ⟨⟨Vs⟩, this, r1, r3⟩
              · cases ha
          · rename_i t
            obtain rfl := hx.string_inv
            split at ha
            · rename_i hone
              simp only [Option.some.injEq, Prod.mk.injEq] at ha
              obtain ⟨rfl, rfl⟩ := ha
              obtain ⟨b1, b2⟩ := bytes_rel ρ (t.extract 0 k)
              refine ⟨_, rfl, ?_, b2⟩
              have : bytesOf (t.extract 0 k) = (bytesOf t).take (k * ei.size) := by
                rw [hone, Nat.mul_one]
                unfold bytesOf
                rw [← List.map_take]
                congr 1
                rw [ByteArray.data_extract, Array.toList_extract]
                simp [List.extract_eq_take_drop]
              rw [← this]
              exact b1
            · cases ha
          · cases ha
        split at h
        · obtain ⟨rfl, _, _⟩ := hs.slice_nil_inv
          split at h
          · rename_i m hsrc
            simp only [Option.some.injEq, Prod.mk.injEq] at h
            obtain ⟨rfl, rfl⟩ := h
            obtain ⟨l1, _, _⟩ := asrc_ok (P := E.P) hR hx hsrc
            obtain ⟨New, c1, c2, c3⟩ := cut _ _ 0 hsrc (Nat.zero_le _)
            refine ⟨w, ?_, hR, .refl _ _ _, .int _ _⟩
            have hz : Nat.min m.1 0 = 0 := Nat.min_zero m.1
            simp only [Builtin.copy_, h0, a0, a1, Sem.run_bind, run_und hT hi, hd, Result.andThen_ok, l1, run_size hT hei, hz, c1, Sem.run_pure]
            rfl
          · cases h
        · rename_i b o n c
          obtain ⟨l, C, A, hb, hn, hc, hN, hA, rfl⟩ := hs.slice_inv
          split at h
          · rename_i m cs hsrc
            obtain ⟨l1, _, _⟩ := asrc_ok (P := E.P) hR hx hsrc
            obtain ⟨New, c1, c2, c3⟩ := cut _ _ (min m n) hsrc (Nat.min_le_left _ _)
            split at h
            · rename_i hz
              simp only [Option.some.injEq, Prod.mk.injEq] at h
              obtain ⟨rfl, rfl⟩ := h
              have hz' : Nat.min m n = 0 := hz
              rw [hz] at c1 c2
              have hNew : New.toList = [] := by
                have := c2.1; simp at this; exact List.length_eq_zero_iff.1 (by rw [Array.length_toList]; omega)
              refine ⟨w, ?_, hR, .refl _ _ _, .int _ _⟩
              simp only [Builtin.copy_, h0, a0, a1, Sem.run_bind, run_und hT hi, hd, Result.andThen_ok, l1, run_size hT hei, hz', c1, Sem.run_pure, hNew, storeCells]
              rfl
            · rename_i hz
              split at h
              · rename_i H1 hw
                simp only [Option.some.injEq, Prod.mk.injEq] at h
                obtain ⟨rfl, rfl⟩ := h
                have hA' := hA (by omega)
                subst hA'
                obtain ⟨w', s1, s2, s3⟩ := wr_ok (P := E.P) hR hb c2 c3 hw
                have c1' : (Builtin.firstCells ei.size (Nat.min m n) X).run E.P w = .ok New w := c1
                refine ⟨w', ?_, s2, s3, .int _ _⟩
                simp only [Builtin.copy_, h0, a0, a1, Sem.run_bind, run_und hT hi, hd, Result.andThen_ok, l1, run_size hT hei, c1', Sem.run_pure, s1]
                rfl
              · cases h
          · cases h
        · cases h
    · cases h

theorem alen_ok {E : Env} (hT : E.TOk) {ρ : Ren} {H : AHeap} {w : World} (hR : Rel ρ H w) {t : TypeId} {x X v : Value} (hx : VRel ρ x X)
    (h : alen E t x H = some v) {ats : Array TypeId} {args : Array Value} {ty : TypeId} (h0 : ats[0]? = some t) (a0 : args[0]? = some X) :
    (Builtin.len_ ats ty args).run E.P w = .ok v w ∧ VRel ρ v v := by
  unfold alen at h
  split at h
  · cases h
  · rename_i i hi
    split at h
    · rename_i s hd
      obtain rfl := hx.string_inv
      injection h with h; subst h
      exact ⟨by simp only [Builtin.len_, h0, a0, Sem.run_bind, run_und hT hi, hd, Result.andThen_ok, Sem.run_pure, goInt], .int _ _⟩
    · rename_i e base n c hd
      injection h with h; subst h
      refine ⟨?_, .int _ _⟩
      have : ∃ A C, X = .slice A n C := by
        cases hx with
        | nils => exact ⟨_, _, rfl⟩
        | slice => exact ⟨_, _, rfl⟩
      obtain ⟨A, C, rfl⟩ := this
      simp only [Builtin.len_, h0, a0, Sem.run_bind, run_und hT hi, hd, Result.andThen_ok, Sem.run_pure, goInt]
    · rename_i n e hd
      injection h with h; subst h
      exact ⟨by simp only [Builtin.len_, h0, a0, Sem.run_bind, run_und hT hi, hd, Result.andThen_ok, Sem.run_pure, goInt], .int _ _⟩
    · rename_i k e hd
      injection h with h; subst h
      have : X = .map none := by cases hx; rfl
      subst this
      exact ⟨by simp only [Builtin.len_, h0, a0, Sem.run_bind, run_und hT hi, hd, Result.andThen_ok, Sem.run_pure, goInt], .int _ _⟩
    · rename_i k e b hd
      split at h
      · rename_i es bs st hg
        injection h with h; subst h
        have : ∃ l, ρ b = some l ∧ X = .map (some l.B) := by cases hx with | map _ l hb => exact ⟨l, hb, rfl⟩
        obtain ⟨l, hb, rfl⟩ := this
        obtain ⟨ES, o1, o2, o3, _⟩ := hR.obj b l _ hb hg
        have hl : ES.size = es.length := by have := o2.1; simp at this; omega
        refine ⟨?_, .int _ _⟩
        simp only [Builtin.len_, h0, a0, Sem.run_bind, run_und hT hi, hd, Result.andThen_ok]
        simp only [getObj, Sem.run, o1, Sem.run_pure, goInt, hl, Result.andThen_ok]
      · cases h
    · cases h

theorem afold_max {P : Program} {ρ : Ren} : ∀ (l L : List Value) (x X v : Value) (w : World), VRel ρ x X → LRel ρ l L → afold amax2 x l = some v →
    (L.foldlM Builtin.max2 X : Sem Value).run P w = .ok v w ∧ VRel ρ v v ∨ (l = [] ∧ L = [] ∧ v = x) := by
  intro l
  induction l with
  | nil =>
    intro L x X v w hx hl h
    simp only [afold] at h
    injection h with h
    exact .inr ⟨rfl, hl.nil_left, h.symm⟩
  | cons y l ih =>
    intro L x X v w hx hl h
    obtain ⟨Y, T, rfl, hy, ht⟩ := hl.cons_left
    simp only [afold] at h
    split at h
    · rename_i z hz
      unfold amax2 at hz
      split at hz
      · rename_i k a k' b
        injection hz with hz; subst hz
        obtain rfl := hx.int_inv
        obtain rfl := hy.int_inv
        refine .inl ?_
        simp only [List.foldlM_cons, Builtin.max2, Sem.run_bind, Sem.run_pure, Result.andThen_ok]
        rcases ih T _ _ v w (.int k (if b > a then b else a)) ht h with h1 | ⟨h1, h2, h3⟩
        · exact h1
        · subst h1 h2 h3; exact ⟨rfl, .int _ _⟩
      · cases hz
    · cases h
theorem afold_min {P : Program} {ρ : Ren} : ∀ (l L : List Value) (x X v : Value) (w : World), VRel ρ x X → LRel ρ l L → afold amin2 x l = some v →
    (L.foldlM Builtin.min2 X : Sem Value).run P w = .ok v w ∧ VRel ρ v v ∨ (l = [] ∧ L = [] ∧ v = x) := by
  intro l
  induction l with
  | nil =>
    intro L x X v w hx hl h
    simp only [afold] at h
    injection h with h
    exact .inr ⟨rfl, hl.nil_left, h.symm⟩
  | cons y l ih =>
    intro L x X v w hx hl h
    obtain ⟨Y, T, rfl, hy, ht⟩ := hl.cons_left
    simp only [afold] at h
    split at h
    · rename_i z hz
      unfold amin2 at hz
      split at hz
      · rename_i k a k' b
        injection hz with hz; subst hz
        obtain rfl := hx.int_inv
        obtain rfl := hy.int_inv
        refine .inl ?_
        simp only [List.foldlM_cons, Builtin.min2, Sem.run_bind, Sem.run_pure, Result.andThen_ok]
        rcases ih T _ _ v w (.int k (if b < a then b else a)) ht h with h1 | ⟨h1, h2, h3⟩
        · exact h1
        · subst h1 h2 h3; exact ⟨rfl, .int _ _⟩
      · cases hz
    · cases h
end Go.Ev
