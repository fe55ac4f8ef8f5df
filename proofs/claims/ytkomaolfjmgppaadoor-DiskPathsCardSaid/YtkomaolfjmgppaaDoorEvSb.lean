/- slices.Insert at []int: its summary. -/
import Derived.Test.YtkomaolfjmgppaaDoorEvSa
import Derived.Shelf.Spec.SlicesInsert
import Derived.Shelf.Spec.SlicesInsertGrow
namespace Go.Ev
open Go RowKit
set_option linter.unusedVariables false
set_option linter.unusedSectionVars false
set_option linter.unusedSimpArgs false

def isI : Value → Bool
  | .int _ _ => true
  | _ => false
def St.free : St → Bool
  | .ro => false
  | _ => true
def insSum : Summ
  | [s, .int .i64 i, .slice (some ⟨b2, o2, none⟩) m _], H =>
    match H.get b2 with
    | some (.cells cs2 t2 st2 _) =>
      if (m ≠ 0 ∧ o2 + m ≤ cs2.length ∧ t2.clean = true ∧ st2.free = true) ∧ ((cs2.drop o2).take m).all isI = true then
        match s with
        | .slice none 0 0 =>
          if i = 0 ∧ m * 8 ≤ 140737488355328 then some (true, .slice (some ⟨H.size, 0, none⟩) m m, H.push (.cells ((cs2.drop o2).take m) ⟨1, none, true⟩ .live [])) else none
        | .slice (some ⟨b, o, none⟩) n _ =>
          match H.get b with
          | some (.cells cs t .live anc) =>
            if (0 ≤ i ∧ i ≤ n ∧ t.sz = 1 ∧ t.clean = true ∧ b2 ≠ b ∧ b2 ∉ anc ∧ o + n ≤ cs.length ∧ (n + m) * 8 ≤ 140737488355328) ∧ ((cs.drop o).take n).all isI = true then
              some (true, .slice (some ⟨H.size, 0, none⟩) (n + m) (n + m),
                ((H.kill anc).set b .dead).push (.cells (((cs.drop o).take n).take i.toNat ++ (cs2.drop o2).take m ++ ((cs.drop o).take n).drop i.toNat) ⟨1, none, true⟩ .live []))
            else none
          | _ => none
        | _ => none
      else none
    | _ => none
  | _, _ => none

theorem allI_one {ρ : Ren} {xs Xs : List Value} (h : xs.all isI = true) (r : LRel ρ xs Xs) : Xs = xs ∧ (∀ v ∈ Xs, v.oneCell' = true) ∧ ∀ v ∈ Xs, one v = true := by
  have hall : ∀ v ∈ xs, isI v = true := by simpa using h
  have e : Xs = xs := by
    apply List.ext_getElem?
    intro i
    by_cases hi : i < xs.length
    · have hi' : i < Xs.length := by rw [← r.1]; exact hi
      have hv := r.2 i _ _ (List.getElem?_eq_getElem hi) (List.getElem?_eq_getElem hi')
      have hI := hall _ (List.getElem_mem hi)
      rw [List.getElem?_eq_getElem hi, List.getElem?_eq_getElem hi']
      generalize xs[i] = x at hv hI
      cases x <;> simp [isI] at hI
      rw [hv.int_inv]
    · have := r.1
      rw [List.getElem?_eq_none (by omega), List.getElem?_eq_none (by omega)]
  subst e
  refine ⟨rfl, fun v hv => ?_, fun v hv => ?_⟩ <;> (have := hall v hv; cases v <;> simp [isI] at this; rfl)

theorem List.append_toArray_left' {l : List Value} {i : Nat} {A B : Array Value} (j : Nat) (hj : j < i) (hl : (l.take i).length = i) : ((l.take i).toArray ++ A ++ B)[j]? = l[j]? := by
  have h1 : j < ((l.take i).toArray ++ A).size := by rw [Array.size_append]; simp at hl ⊢; omega
  rw [Array.getElem?_append_left h1, Array.getElem?_append_left (by simp at hl ⊢; omega)]
  simp [List.getElem?_take, hj]
/-- The row that a slice reads, as the contracts ask for it. -/
theorem rd_cells {ρ : Ren} {H : AHeap} {w : World} (h : Rel ρ H w) {b o n : Nat} {l : Loc} {cs : List Value} {t : ET} {st : St} {anc : List Nat} (hb : ρ b = some l)
    (hg : H.get b = some (.cells cs t st anc)) (hle : o + n ≤ cs.length) (hi : ((cs.drop o).take n).all isI = true) :
    ((cs.drop o).take n).length = n ∧ ∀ j v, ((cs.drop o).take n)[j]? = some v → w.cell? ⟨l.B, l.s + o + j, none⟩ = some v := by
  have hrd : rd H b o n = some ((cs.drop o).take n) := by unfold rd; rw [hg]; simp only []; rw [if_pos hle]
  obtain ⟨Vs, x1, x2, x3, x4⟩ := rd_rel h hb hrd
  obtain ⟨rfl, _, _⟩ := allI_one hi x1
  refine ⟨x2, fun j v hj => ?_⟩
  have := x4 j v hj
  rwa [addr_add] at this

theorem insSum_ok {P : Program} {q : Go.Shelf.Ren} (L : Go.Proofs.Lays2.n21 P q) {f : FuncId} (hf : q.f 21 = f) {F : Func} (hF : P.funcs[f]? = some F) (hb : F.body.isSome = true) (hn : F.name ≠ "runtime.NumGoroutine") :
    SumOk P f insSum := by
  intro args H v H' h
  unfold insSum at h
  split at h
  case h_2 => cases h
  rename_i s i b2 o2 m c2
  split at h
  case h_2 => cases h
  rename_i cs2 t2 st2 anc2 hg2
  split at h
  case isFalse => cases h
  rename_i hc2
  obtain ⟨⟨hm, hle2, hcl2, hst2⟩, hi2⟩ := hc2
  have hst2' : st2 ≠ .ro := by rintro rfl; cases hst2
  refine ⟨⟨F, hF, hb, hn⟩, ?_, ?_⟩
  · split at h
    · split at h
      · simp only [Option.some.injEq, Prod.mk.injEq] at h; obtain ⟨_, _, rfl⟩ := h; simp
      · cases h
    · split at h
      · split at h
        · simp only [Option.some.injEq, Prod.mk.injEq] at h; obtain ⟨_, _, rfl⟩ := h; simp
        · cases h
      · cases h
    · cases h
  intro ρ w cargs hR ha
  obtain ⟨S, T1, e1, hs, r1⟩ := ha.cons_left
  obtain ⟨I, T2, e2, hI, r2⟩ := r1.cons_left
  obtain ⟨V2, T3, e3, hV, r3⟩ := r2.cons_left
  obtain rfl := r3.nil_left
  subst e2 e3
  obtain rfl := hI.int_inv
  obtain ⟨l2, C2, A2, hb2, hn2, hcc2, hN2, hA2, rfl⟩ := hV.slice_inv
  have hA2' := hA2 (by omega)
  subst hA2'
  have hcargs : cargs = #[S, .int .i64 i, .slice (some ⟨l2.B, l2.s + o2, none⟩) m C2] := by apply Array.ext'; simpa using e1
  subst hcargs
  obtain ⟨hlen2, hcell2⟩ := rd_cells hR hb2 hg2 hle2 hi2
  obtain ⟨CS2, el2, fr2, x0, x1, x2, x3, x4⟩ := hR.obj b2 l2 _ hb2 hg2
  have hfr2 : fr2 = (0, 0) := x2.2.2 hcl2
  subst hfr2
  have h1v : ∀ v ∈ (cs2.drop o2).take m, v.oneCell' = true ∧ one v = true ∧ VRel ρ v v := by
    intro v hv
    have := List.all_eq_true.1 hi2 v hv
    cases v <;> simp [isI] at this
    exact ⟨rfl, rfl, .int _ _⟩
  subst hf
  -- the new row, of which all is known
  have hnew : ∀ (full : List Value), (∀ v ∈ full, one v = true ∧ VRel ρ v v) → ∀ (CS' : Array Value) (e : TypeId) (W : World), W.os = w.os → W.tape = w.tape → W.output = w.output → W.heap.size = w.heap.size + 1 →
      (∀ k, k < w.heap.size → W.heap[k]? = w.heap[k]?) → W.heap[w.heap.size]? = some (.cells CS' e (0, 0)) → (∀ i, i < full.length → CS'[i]? = full[i]?) → full.length ≤ CS'.size → CS'.size ≤ 9223372036854775807 →
      ∀ H0, Rel ρ H0 w → H0.size = H.size → Step ρ H w ρ H0 w →
      Post ρ H w (.slice (some ⟨H.size, 0, none⟩) full.length full.length) (H0.push (.cells full ⟨1, none, true⟩ .live [])) (.returned (.slice (some ⟨w.heap.size, 0, none⟩) full.length CS'.size)) W := by
    intro full hfull CS' e W hW1 hW2 hW3 hWs hWo hWn hWc hC hC63 H0 hR0 hH0 hS0
    have ho : ORel (ρ.upd H0.size ⟨w.heap.size, 0, CS'.size, 1⟩) W ⟨w.heap.size, 0, CS'.size, 1⟩ (.cells full ⟨1, none, true⟩ .live []) := by
      refine ⟨CS', e, (0, 0), hWn, rfl, ⟨rfl, fun _ h => (by cases h), fun _ => rfl⟩, fun i v hv => ?_, fun _ i _ _ => by omega⟩
      have hlt : i < full.length := (List.getElem?_eq_some_iff.1 hv).1
      have hm := hfull v (List.mem_of_getElem? hv)
      refine ⟨v, ?_, hm.1, hm.2.mono (Ren.upd_le hR0.fresh)⟩
      show CS'[0 + i]? = _
      rw [Nat.zero_add, hWc i hlt, hv]
    obtain ⟨q1, q2⟩ := hR0.allocG hWs hWo hW1 hW2 hW3 (.cells full ⟨1, none, true⟩ .live []) ⟨w.heap.size, 0, CS'.size, 1⟩ rfl ho
    refine ⟨_, _, rfl, q1, hS0.trans q2, ?_⟩
    rw [← hH0]
    exact .slice H0.size 0 full.length full.length ⟨w.heap.size, 0, CS'.size, 1⟩ CS'.size _ (Ren.upd_eq _ _ _) (Nat.le_refl _) ⟨hC, hC63⟩ (fun _ => by simp) (fun _ => rfl)
  have hgrown : ∀ (full : List Value) (need old : Nat) (W : World), need < 9223372036854775807 → full.length = need →
      ((full.toArray ++ Builtin.zeroCells (Value.int .i64 0).cells (grownCap W need old (q.t 3) - need)).size = grownCap W need old (q.t 3)) ∧ grownCap W need old (q.t 3) ≤ 9223372036854775807 ∧ need ≤ grownCap W need old (q.t 3) := by
    intro full need old W h1 h2
    have a1 := grownCap_ge W need old (q.t 3)
    have a2 : grownCap W need old (q.t 3) ≤ 9223372036854775807 := grownCap_le_maxLen W need old (q.t 3) (by unfold maxLen; omega)
    refine ⟨?_, a2, a1⟩
    rw [Array.size_append]
    simp [Builtin.zeroCells, Value.cells]
    omega
  split at h
  · -- nil
    split at h
    case isFalse => cases h
    rename_i hc
    obtain ⟨rfl, hbig⟩ := hc
    simp only [Option.some.injEq, Prod.mk.injEq] at h
    obtain ⟨_, rfl, rfl⟩ := h
    obtain ⟨rfl, _, _⟩ := hs.slice_nil_inv
    have hc := Go.Proofs.Any2.slices_Insert_int_end_grow L none 0 0 l2.B (l2.s + o2) m C2 [] ((cs2.drop o2).take m) w (by omega) (Nat.le_refl _) (by omega) (by omega) rfl hlen2 (fun _ => rfl) (fun a h => by cases h) hcell2 (fun v hv => (h1v v hv).1)
    refine hc.mono ?_
    rintro e w' ⟨rfl, rfl⟩
    obtain ⟨g1, g2, g3⟩ := hgrown ((cs2.drop o2).take m) (0 + m) 0 w (by omega) (by rw [hlen2]; omega)
    have := hnew ((cs2.drop o2).take m) (fun v hv => (h1v v hv).2) _ (q.t 3) (w.drew.alloc (.cells (((cs2.drop o2).take m).toArray ++ Builtin.zeroCells (Value.int .i64 0).cells (grownCap w (0 + m) 0 (q.t 3) - (0 + m))) (q.t 3))) rfl rfl rfl (by simp)
      (fun k hk => heap_alloc_old w.drew _ hk) (heap_alloc_new w.drew _) (fun i hi => by rw [Array.getElem?_append_left (by simpa using hi)]; simp) (by rw [g1, hlen2]; omega) (by rw [g1]; exact g2) H hR rfl (Step.refl _ _ _)
    rw [g1, hlen2] at this
    simpa using this
  · rename_i b o n c
    split at h
    case h_2 => cases h
    rename_i cs t anc hg
    split at h
    case isFalse => cases h
    rename_i hc
    obtain ⟨⟨hi0, hin, ht1, htc, hbb, hanc, hle, hbig⟩, hii⟩ := hc
    simp only [Option.some.injEq, Prod.mk.injEq] at h
    obtain ⟨_, rfl, rfl⟩ := h
    obtain ⟨i', rfl⟩ := Int.eq_ofNat_of_zero_le hi0
    obtain ⟨l, C, A, hbl, hnc, hcC, hN, hA, rfl⟩ := hs.slice_inv
    obtain ⟨hlen, hcell⟩ := rd_cells hR hbl hg hle hii
    have h1o : ∀ v ∈ (cs.drop o).take n, v.oneCell' = true ∧ one v = true ∧ VRel ρ v v := by
      intro v hv
      have := List.all_eq_true.1 hii v hv
      cases v <;> simp [isI] at this
      exact ⟨rfl, rfl, .int _ _⟩
    generalize (cs.drop o).take n = old at *
    generalize (cs2.drop o2).take m = new at *
    obtain ⟨CS, el, fr, y0, y1, y2, y3, y4⟩ := hR.obj b l _ hbl hg
    have hfr : fr = (0, 0) := y2.2.2 htc
    subst hfr
    rw [Int.toNat_natCast]
    have hi'n : i' ≤ n := by omega
    have hfl : (old.take i' ++ new ++ old.drop i').length = n + m := by
      rw [List.length_append, List.length_append, List.length_take, List.length_drop]; omega
    have hfull : ∀ v ∈ old.take i' ++ new ++ old.drop i', one v = true ∧ VRel ρ v v := by
      intro v hv
      rw [List.mem_append, List.mem_append] at hv
      rcases hv with (hv | hv) | hv
      · exact (h1o v (List.mem_of_mem_take hv)).2
      · exact (h1v v hv).2
      · exact (h1o v (List.mem_of_mem_drop hv)).2
    have hget : ∀ j, (old.take i' ++ new ++ old.drop i')[j]? = if j < i' then old[j]? else if j < i' + m then new[j - i']? else old[j - m]? := by
      intro j
      have e1 : (old.take i').length = i' := by rw [List.length_take]; omega
      rw [List.append_assoc, List.getElem?_append, e1]
      split
      · rename_i hj; rw [List.getElem?_take, if_pos hj]
      · rename_i hj
        rw [List.getElem?_append, hlen2]
        split
        · rename_i hj2; rw [if_pos (by omega)]
        · rename_i hj2; rw [if_neg (by omega), List.getElem?_drop]; congr 1; omega
    have hdead := hR.taken hg false
    have hdead1 : Rel ρ ((H.kill anc).set b .dead) w := hdead.1
    have hdead2 : Step ρ H w ρ ((H.kill anc).set b .dead) w := hdead.2
    by_cases hroom : n + m ≤ C
    · -- in place
      have hA' := hA (by omega)
      subst hA'
      have hNC := hN (by omega)
      rw [y2.1, ht1] at hNC
      have hvb : l2.B ≠ l.B := fun e => hanc (hR.excl b l _ anc b2 l2 _ hbl hg rfl hb2 hg2 rfl hbb e).1
      have hsome : ∀ k, l.s + o + k < CS.size → (w.cell? ⟨l.B, l.s + o + k, none⟩).isSome = true := by
        intro k hk
        simp [World.cell?, y0, hk]
      have hfz : ∀ k, w.frozen? ⟨l.B, k, none⟩ = false := by intro k; simp [World.frozen?, y0]
      -- what is there behind it
      have fin : ∀ (W : World) (CS' : Array Value), W.os = w.os → W.tape = w.tape → W.output = w.output → W.heap.size = w.heap.size → (∀ k, k ≠ l.B → W.heap[k]? = w.heap[k]?) → W.heap[l.B]? = some (.cells CS' el (0, 0)) → CS'.size = CS.size →
          (∀ j, j < n + m → CS'[l.s + o + j]? = (old.take i' ++ new ++ old.drop i')[j]?) →
          Post ρ H w (.slice (some ⟨H.size, 0, none⟩) (n + m) (n + m)) (((H.kill anc).set b .dead).push (.cells (old.take i' ++ new ++ old.drop i') ⟨1, none, true⟩ .live [])) (.returned (.slice (some ⟨l.B, l.s + o, none⟩) (n + m) C)) W := by
        intro W CS' w1 w2 w3 w4 w5 w6 w7 w8
        obtain ⟨r1, r2⟩ := hR.redo hbl hg y0 w1 w2 w3 w4 w5 w6 w7 (o := o) (new := old.take i' ++ new ++ old.drop i') (t' := ⟨1, none, true⟩)
          (fun j v hj => by
            have hj' : j < n + m := by rw [← hfl]; exact (List.getElem?_eq_some_iff.1 hj).1
            have hm := hfull v (List.mem_of_getElem? hj)
            exact ⟨v, by rw [w8 j hj', hj], hm.1, hm.2⟩) ht1.symm (.inl rfl) (fun _ => htc)
        refine ⟨_, _, rfl, r1, r2, .slice H.size 0 (n + m) (n + m) ⟨l.B, l.s + o, l.N, l.t⟩ C _ (Ren.upd_eq _ _ _) (Nat.le_refl _) ⟨hroom, hcC.2⟩ (fun _ => ?_) (fun _ => rfl)⟩
        show l.s + o + 0 + C * l.t ≤ l.N
        rw [y2.1, ht1]; omega
      by_cases hlt : i' < n
      · have hc := Go.Proofs.Any2.slices_Insert_int_shift L l.B (l.s + o) n C i' l2.B (l2.s + o2) m C2 old new w hlt (by omega) hroom hcC.2 hvb hlen hlen2 hcell
          (fun j hj => hsome j (by omega)) (fun j hj => hfz _) hcell2 (fun v hv => (h1o v hv).1) (fun v hv => (h1v v hv).1) el2 el CS2.size CS.size
          (by simp [World.shape?, x0]) (by simp [World.shape?, y0]) (by omega) (by simp [World.frozen?, x0]) (by simp [World.frozen?, x0])
        refine hc.mono ?_
        rintro e w' ⟨rfl, rfl⟩
        have hdl : (old.drop i').length = n - i' := by rw [List.length_drop, hlen]
        have k1 := wrote_setCells (el := el) (fr := (0, 0)) (B := l.B) (old.drop i') w.drew (l.s + o + (i' + m)) CS y0 (by rw [hdl]; omega)
        obtain ⟨CS1, b1, s1, g1⟩ := k1.block
        have k2 := wrote_setCells (el := el) (fr := (0, 0)) (B := l.B) new _ (l.s + o + i') CS1 b1 (by rw [hlen2, s1]; omega)
        obtain ⟨CS3, b3, s3, g3⟩ := k2.block
        refine fin _ CS3 (k2.os.trans k1.os) (k2.tape.trans k1.tape) (k2.output.trans k1.output) (k2.size.trans k1.size) (fun k hk => (k2.other k hk).trans (k1.other k hk)) b3 (s3.trans s1) ?_
        intro j hj
        rw [g3, g1, hget, hlen2, hdl]
        by_cases h1 : j < i'
        · rw [if_pos h1, if_neg (by omega), if_neg (by omega)]
          have := hcell j (old[j]'(by omega)) (List.getElem?_eq_getElem _)
          rw [List.getElem?_eq_getElem (by omega : j < old.length)]
          simpa [World.cell?, y0] using this
        · rw [if_neg h1]
          by_cases h2 : j < i' + m
          · rw [if_pos h2, if_pos (by omega)]; congr 1; omega
          · rw [if_neg h2, if_neg (by omega), if_pos (by omega), List.getElem?_drop]; congr 1; omega
      · have hin' : i' = n := by omega
        subst hin'
        have hc := Go.Proofs.Any2.slices_Insert_int_end_room L l.B (l.s + o) i' C l2.B (l2.s + o2) m C2 new w (by omega) hroom hcC.2 hlen2
          (fun j hj => by rw [Nat.add_assoc]; exact hsome (i' + j) (by omega)) (fun j hj => hfz _) hcell2 (fun v hv => (h1v v hv).1)
        refine hc.mono ?_
        rintro e w' ⟨rfl, rfl⟩
        have k1 := wrote_setCells (el := el) (fr := (0, 0)) (B := l.B) new w (l.s + o + i') CS y0 (by rw [hlen2]; omega)
        obtain ⟨CS1, b1, s1, g1⟩ := k1.block
        refine fin _ CS1 k1.os k1.tape k1.output k1.size k1.other b1 s1 ?_
        intro j hj
        rw [g1, hget, hlen2]
        by_cases h1 : j < i'
        · rw [if_pos h1, if_neg (by omega)]
          have := hcell j (old[j]'(by omega)) (List.getElem?_eq_getElem _)
          rw [List.getElem?_eq_getElem (by omega : j < old.length)]
          simpa [World.cell?, y0] using this
        · rw [if_neg h1, if_pos (by omega), if_pos (by omega)]; congr 1; omega
    · -- a new array
      by_cases hlt : i' < n
      · have hA' := hA (by omega)
        subst hA'
        have hc := Go.Proofs.Any2.slices_Insert_int_grow L l.B (l.s + o) n C i' l2.B (l2.s + o2) m C2 old new w hlt (by omega) (by omega) (by omega) (by omega) hlen hlen2 hcell hcell2 (fun v hv => (h1o v hv).1) (fun v hv => (h1v v hv).1)
        refine hc.mono ?_
        rintro e w' ⟨rfl, rfl⟩
        have hdl : (old.drop i').length = n - i' := by rw [List.length_drop, hlen]
        have htl : (old.take i').length = i' := by rw [List.length_take]; omega
        have a1 := grownCap_ge w (n + m) C (q.t 3)
        have a2 : grownCap w (n + m) C (q.t 3) ≤ 9223372036854775807 := grownCap_le_maxLen w (n + m) C (q.t 3) (by unfold maxLen; omega)
        generalize hG : grownCap w (n + m) C (q.t 3) = G at *
        generalize hZ : (old.take i').toArray ++ Builtin.zeroCells (Value.int .i64 0).cells (n + m - i') ++ Builtin.zeroCells (Value.int .i64 0).cells (G - (n + m)) = Z at *
        have hZs : Z.size = G := by
          rw [← hZ, Array.size_append, Array.size_append]
          simp [Builtin.zeroCells, Value.cells]
          omega
        have k1 := wrote_setCells (el := q.t 3) (fr := (0, 0)) (B := w.heap.size) new (w.alloc (.cells Z (q.t 3))).drew i' Z (heap_alloc_new w _) (by rw [hlen2]; omega)
        obtain ⟨CS1, b1, s1, g1⟩ := k1.block
        have k2 := wrote_setCells (el := q.t 3) (fr := (0, 0)) (B := w.heap.size) (old.drop i') (((w.alloc (.cells Z (q.t 3))).drew.setCells w.heap.size i' new).drew) (i' + m) CS1 b1 (by rw [hdl, s1]; omega)
        obtain ⟨CS3, b3, s3, g3⟩ := k2.block
        have hs3 : CS3.size = G := by rw [s3, s1, hZs]
        have := hnew (old.take i' ++ new ++ old.drop i') hfull CS3 (q.t 3) _ (k2.os.trans k1.os) (k2.tape.trans k1.tape) (k2.output.trans k1.output)
          (by rw [k2.size]; show _ = _; exact k1.size.trans (by simp)) (fun k hk => by rw [k2.other k (by omega)]; exact (k1.other k (by omega)).trans (heap_alloc_old w _ hk)) b3
          (fun j hj => by
            rw [hfl] at hj
            rw [g3, g1, hget, hlen2, hdl]
            by_cases h1 : j < i'
            · rw [if_pos h1, if_neg (by omega), if_neg (by omega), ← hZ, List.append_toArray_left' j h1 htl]
            · rw [if_neg h1]
              by_cases h2 : j < i' + m
              · rw [if_pos h2, if_neg (by omega), if_pos (by omega)]
              · rw [if_neg h2, if_pos (by omega), List.getElem?_drop]; congr 1; omega)
          (by rw [hfl, hs3]; omega) (by rw [hs3]; exact a2) _ hdead1 (by simp) hdead2
        rw [hfl, hs3] at this
        exact this
      · have hin' : i' = n := by omega
        subst hin'
        have hc := Go.Proofs.Any2.slices_Insert_int_end_grow L (some A) i' C l2.B (l2.s + o2) m C2 old new w (by omega) (by omega) (by omega) (by omega) hlen hlen2 (fun h => by cases h)
          (fun a ha j v hj => by
            injection ha with ha
            subst ha
            have hj' : j < old.length := (List.getElem?_eq_some_iff.1 hj).1
            have hA' := hA (by omega)
            subst hA'
            rw [addr_add]; exact hcell j v hj) hcell2 (fun v hv => (h1v v hv).1)
        refine hc.mono ?_
        rintro e w' ⟨rfl, rfl⟩
        have hfe : old.take i' ++ new ++ old.drop i' = old ++ new := by
          rw [List.take_of_length_le (by omega), List.drop_of_length_le (by omega), List.append_nil]
        obtain ⟨g1, g2, g3⟩ := hgrown (old ++ new) (i' + m) C w (by omega) (by rw [List.length_append, hlen, hlen2])
        have := hnew (old.take i' ++ new ++ old.drop i') hfull _ (q.t 3) (w.drew.alloc (.cells ((old ++ new).toArray ++ Builtin.zeroCells (Value.int .i64 0).cells (grownCap w (i' + m) C (q.t 3) - (i' + m))) (q.t 3))) rfl rfl rfl (by simp)
          (fun k hk => heap_alloc_old w.drew _ hk) (heap_alloc_new w.drew _) (fun i hi => by rw [hfe] at hi ⊢; rw [Array.getElem?_append_left (by simpa using hi)]; simp) (by rw [g1, hfl]; omega) (by rw [g1]; exact g2) _ hdead1 (by simp) hdead2
        rw [g1, hfl] at this
        exact this
  · cases h
end Go.Ev
