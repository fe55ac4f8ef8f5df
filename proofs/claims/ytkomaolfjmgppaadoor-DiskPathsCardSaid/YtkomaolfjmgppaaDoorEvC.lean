/- Growth by append: in place behind what is known, or in a new block. -/
import Derived.Test.YtkomaolfjmgppaaDoorEvB
namespace Go.Ev
open Go
set_option linter.unusedVariables false
set_option linter.unusedSimpArgs false

/-- The block that an append has taken up: read alone, if its end is the slice's end; else dead, and with it what lay there before. -/
def taken (H : AHeap) (b : Nat) (cs : List Value) (t : ET) (anc : List Nat) (whole : Bool) : AHeap :=
  match whole with
  | true => H.set b (.cells cs t .old anc)
  | false => (H.kill anc).set b .dead
def takenAnc (b : Nat) (anc : List Nat) (whole : Bool) : List Nat :=
  match whole with
  | true => b :: anc
  | false => []

theorem size_taken (H : AHeap) (b : Nat) (cs : List Value) (t : ET) (anc : List Nat) (whole : Bool) : (taken H b cs t anc whole).size = H.size := by
  cases whole <;> simp [taken]

theorem taken_get {H : AHeap} {b : Nat} {cs : List Value} {t : ET} {anc : List Nat} {whole : Bool} (hg : H.get b = some (.cells cs t .live anc))
    {c : Nat} {o : AObj} (h : (taken H b cs t anc whole).get c = some o) (ha : o.alive = true) :
    (c = b ∧ whole = true ∧ o = .cells cs t .old anc) ∨ (c ≠ b ∧ H.get c = some o ∧ (whole = false → c ∉ anc)) := by
  cases whole with
  | true =>
    simp only [taken] at h
    by_cases e : c = b
    · subst e; rw [AHeap.get_set_eq] at h; cases h; exact .inl ⟨rfl, rfl, rfl⟩
    · rw [AHeap.get_set_ne _ _ _ _ e] at h; exact .inr ⟨e, h, fun h => by cases h⟩
  | false =>
    simp only [taken] at h
    by_cases e : c = b
    · subst e; rw [AHeap.get_set_eq] at h; cases h; cases ha
    · rw [AHeap.get_set_ne _ _ _ _ e, AHeap.get_kill] at h
      split at h
      · cases h; cases ha
      · rename_i hn; exact .inr ⟨e, h, fun _ => hn⟩

theorem alive_of_owns {o : AObj} {anc : List Nat} (h : o.owns = some anc) : o.alive = true := by
  cases o <;> simp [AObj.alive, AObj.owns] at h ⊢

theorem Rel.taken {ρ : Ren} {H : AHeap} {w : World} (h : Rel ρ H w) {b : Nat} {cs : List Value} {t : ET} {anc : List Nat}
    (hg : H.get b = some (.cells cs t .live anc)) (whole : Bool) :
    Rel ρ (taken H b cs t anc whole) w ∧ Step ρ H w ρ (Ev.taken H b cs t anc whole) w := by
  refine ⟨{ bd := ?_, obj := ?_, excl := ?_ }, { le := .refl ρ, keep := fun _ _ => rfl, hs := by rw [size_taken]; exact Nat.le_refl _, os := rfl, tape := rfl, output := rfl, size := Nat.le_refl _, own := ?_, same := fun _ _ _ => rfl }⟩
  · intro c k hk; rw [size_taken]; exact h.bd c k hk
  · intro c k o hk hgc
    cases hal : o.alive with
    | false => cases o <;> simp [AObj.alive] at hal; trivial
    | true =>
      rcases taken_get hg hgc hal with ⟨rfl, _, rfl⟩ | ⟨_, hgc', _⟩
      · obtain ⟨CS, el, fr, e0, e1, e2, e3, e4⟩ := h.obj c k _ hk hg
        exact ⟨CS, el, fr, e0, e1, e2, e3, fun _ => e4 (by simp)⟩
      · exact h.obj c k o hk hgc'
  · intro c k o1 anc1 c' k' o2 hk hgc how hk' hgc' hal hne hB
    rcases taken_get hg hgc (alive_of_owns how) with ⟨rfl, _, rfl⟩ | ⟨hcb, hgc1, _⟩
    · cases how
    · rcases taken_get hg hgc' hal with ⟨rfl, _, rfl⟩ | ⟨_, hgc2, _⟩
      · have := h.excl c k o1 anc1 c' k' _ hk hgc1 how hk' hg rfl hne hB
        simp [AObj.owns] at this
      · exact h.excl c k o1 anc1 c' k' o2 hk hgc1 how hk' hgc2 hal hne hB
  · rintro B hB ⟨c, k, o1, hk, rfl, hgc, how⟩
    have hal : o1.alive = true := by cases o1 <;> simp [AObj.alive, AObj.owns] at how ⊢
    rcases taken_get hg hgc hal with ⟨rfl, _, rfl⟩ | ⟨_, hgc1, _⟩
    · simp [AObj.owns] at how
    · exact ⟨c, k, o1, hk, rfl, hgc1, how⟩

/-- An append that writes behind what is known of its block. -/
theorem Rel.growIn {ρ : Ren} {H : AHeap} {w w' : World} (h : Rel ρ H w) {b : Nat} {l : Loc} {cs : List Value} {t : ET} {anc : List Nat}
    (hb : ρ b = some l) (hg : H.get b = some (.cells cs t .live anc)) {CS : Array Value} {el : TypeId} {fr : Nat × Nat} (hc : w.heap[l.B]? = some (.cells CS el fr))
    {o p : Nat} {vs Vs : List Value} (hv : LRel ρ vs Vs) (h1 : ∀ v ∈ Vs, one v = true) (hp : o + p ≤ cs.length) (hw : Wrote w l.B CS el fr (l.s + o + p) Vs w')
    (hN : l.s + o + p + Vs.length ≤ l.N) (whole : Bool) (hwh : whole = true → o + p = cs.length) :
    let ρ' := ρ.upd H.size ⟨l.B, l.s + o, l.N, l.t⟩
    let H' := (Ev.taken H b cs t anc whole).push (.cells ((cs.drop o).take p ++ vs) t .live (takenAnc b anc whole))
    Rel ρ' H' w' ∧ Step ρ H w ρ' H' w' := by
  intro ρ' H'
  obtain ⟨CS0, el0, fr0, e0, e1, e2, e3, e4⟩ := h.obj b l _ hb hg
  rw [hc] at e0
  injection e0 with e0
  injection e0 with e00 e01 e02
  subst e00 e01 e02
  obtain ⟨CS', hb', hs', hg'⟩ := hw.block
  have hlen := hv.1
  have hf := h.fresh
  have hle : Ren.le ρ ρ' := Ren.upd_le hf
  have hsz : (Ev.taken H b cs t anc whole).size = H.size := size_taken ..
  have hH' : ∀ c, H'.get c = if c = H.size then some (.cells ((cs.drop o).take p ++ vs) t .live (takenAnc b anc whole)) else (Ev.taken H b cs t anc whole).get c := by
    intro c
    show ((Ev.taken H b cs t anc whole).push _).get c = _
    rw [AHeap.get_push, hsz]
  have hbd : b < H.size := (h.bd b l hb).1
  -- an elder block that lives: elsewhere, or it ends where the write begins
  have key : ∀ c k o', c ≠ H.size → ρ c = some k → H'.get c = some o' → o'.alive = true →
      (k.B = l.B → (∃ o0, H.get c = some o0 ∧ o0.alive = true) ∧ o'.owns = none ∧ c ∈ takenAnc b anc whole ∧ k.s + o'.len ≤ l.s + o + p) ∧
      (o'.owns.isSome = true → H.get c = some o' ∧ c ≠ b) ∧ ORel ρ w k o' := by
    intro c k o' hne hk hgc hal
    rw [hH', if_neg hne] at hgc
    rcases taken_get hg hgc hal with ⟨rfl, hwt, rfl⟩ | ⟨hcb, hgc1, hna⟩
    · rw [hb] at hk; cases hk
      subst hwt
      refine ⟨fun _ => ⟨⟨_, hg, rfl⟩, rfl, by simp [takenAnc], ?_⟩, fun ho => by simp [AObj.owns] at ho, ⟨CS, el, fr, hc, e1, e2, e3, fun _ => e4 (by simp)⟩⟩
      have := hwh rfl
      show l.s + cs.length ≤ _
      omega
    · refine ⟨fun hB => ?_, fun _ => ⟨hgc1, hcb⟩, h.obj c k o' hk hgc1⟩
      obtain ⟨hin, hno, hend⟩ := h.excl b l _ anc c k o' hb hg rfl hk hgc1 hal hcb hB
      cases whole with
      | false => exact absurd hin (hna rfl)
      | true =>
        have := hwh rfl
        refine ⟨⟨_, hgc1, hal⟩, hno, by simp [takenAnc, hin], ?_⟩
        change k.s + o'.len ≤ l.s + cs.length at hend
        omega
  refine ⟨{ bd := ?_, obj := ?_, excl := ?_ }, { le := hle, keep := fun b hb => Ren.upd_ne _ _ (by omega), hs := ?_, os := hw.os, tape := hw.tape, output := hw.output, size := by rw [hw.size]; exact Nat.le_refl _, own := ?_, same := ?_ }⟩
  · intro c k hk
    show c < (Ev.taken H b cs t anc whole).size + 1 ∧ _
    rw [hsz, hw.size]
    rcases Ren.upd_inv hk with ⟨rfl, rfl⟩ | ⟨_, hk⟩
    · exact ⟨by omega, (h.bd b l hb).2⟩
    · have := h.bd c k hk; exact ⟨by omega, this.2⟩
  · intro c k o' hk hgc
    rcases Ren.upd_inv hk with ⟨rfl, rfl⟩ | ⟨hne, hk⟩
    · rw [hH', if_pos rfl] at hgc
      injection hgc with hgc
      subst hgc
      refine ⟨CS', el, fr, hb', hs'.trans e1, e2, ?_, fun _ i hi hi' => e4 (by simp) i (Nat.le_trans (Nat.le_add_right _ _) hi) hi'⟩
      intro i v hi
      have hdl : ((cs.drop o).take p).length = p := by simp; omega
      rw [hg']
      by_cases hin : i < p
      · rw [List.getElem?_append_left (by omega), List.getElem?_take, if_pos hin, List.getElem?_drop] at hi
        obtain ⟨V, x1, x2, x3⟩ := e3 _ _ hi
        rw [if_neg (by simp; omega)]
        exact ⟨V, by rw [← x1]; congr 1; simp only []; omega, x2, x3.mono hle⟩
      · rw [List.getElem?_append_right (by omega), hdl] at hi
        have hlt : i - p < vs.length := (List.getElem?_eq_some_iff.1 hi).1
        rw [if_pos (by simp; omega)]
        have : l.s + o + i - (l.s + o + p) = i - p := by omega
        simp only [this]
        exact ⟨Vs[i - p], List.getElem?_eq_getElem (by omega), h1 _ (List.getElem_mem _), (hv.2 _ _ _ hi (List.getElem?_eq_getElem (by omega))).mono hle⟩
    · cases hal : o'.alive with
      | false => cases o' <;> simp [AObj.alive] at hal; trivial
      | true =>
        obtain ⟨k1, _, k3⟩ := key c k o' hne hk hgc hal
        by_cases hB : k.B = l.B
        · obtain ⟨_, _, _, hend⟩ := k1 hB
          cases o' with
          | cells cs1 t1 st1 anc1 =>
            obtain ⟨CS1, el1, fr1, y0, y1, y2, y3, y4⟩ := k3
            rw [hB, hc] at y0
            injection y0 with y0
            injection y0 with y00 y01 y02
            subst y00 y01 y02
            refine ⟨CS', el, fr, by rw [hB]; exact hb', by omega, y2, ?_, y4⟩
            intro i v hi
            obtain ⟨V, x1, x2, x3⟩ := y3 _ _ hi
            have hlt : i < cs1.length := (List.getElem?_eq_some_iff.1 hi).1
            simp only [AObj.len] at hend
            rw [hg', if_neg (by omega)]
            exact ⟨V, x1, x2, x3.mono hle⟩
          | map es bs st => obtain ⟨ES, y0, _⟩ := k3; rw [hB, hc] at y0; cases y0
          | siter s pos => obtain ⟨_, y0⟩ := k3; rw [hB, hc] at y0; cases y0
          | miter m x y z => obtain ⟨_, M, y0, _⟩ := k3; rw [hB, hc] at y0; cases y0
          | dead => trivial
        · exact (k3.congr (hw.other _ hB)).mono hle
  · intro c k o1 anc1 c' k' o2 hk hgc how hk' hgc' hal hne hB
    rcases Ren.upd_inv hk with ⟨e1', e2'⟩ | ⟨hnc, hk0⟩
    · rcases Ren.upd_inv hk' with ⟨e3', e4'⟩ | ⟨hnc', hk1⟩
      · exact absurd (e3'.trans e1'.symm) hne
      · rw [hH', if_pos e1'] at hgc
        injection hgc with hgc
        subst hgc
        simp only [AObj.owns, Option.some.injEq] at how
        subst how e2'
        obtain ⟨kk, _, _⟩ := key c' k' o2 hnc' hk1 hgc' hal
        obtain ⟨_, x2, x3, x4⟩ := kk hB
        refine ⟨x3, x2, ?_⟩
        simp only [AObj.len, List.length_append, List.length_take, List.length_drop] at x4 ⊢
        omega
    · obtain ⟨_, kk2, _⟩ := key c k o1 hnc hk0 hgc (alive_of_owns how)
      obtain ⟨hgc1, hcb⟩ := kk2 (by simp [how])
      rcases Ren.upd_inv hk' with ⟨e3', e4'⟩ | ⟨hnc', hk1⟩
      · have hB' : l.B = k.B := by rw [← hB, e4']
        have := h.excl c k o1 anc1 b l _ hk0 hgc1 how hb hg rfl (Ne.symm hcb) hB'
        simp [AObj.owns] at this
      · have hgc2 := hgc'
        rw [hH', if_neg hnc'] at hgc2
        rcases taken_get hg hgc2 hal with ⟨rfl, _, rfl⟩ | ⟨_, hgc3, _⟩
        · have := h.excl c k o1 anc1 c' k' _ hk0 hgc1 how hk1 hg rfl hne hB
          simp [AObj.owns] at this
        · exact h.excl c k o1 anc1 c' k' o2 hk0 hgc1 how hk1 hgc3 hal hne hB
  · show H.size ≤ (Ev.taken H b cs t anc whole).size + 1
    rw [hsz]; omega
  · rintro B hB ⟨c, k, o1, hk, rfl, hgc, how⟩
    rcases Ren.upd_inv hk with ⟨e1', e2'⟩ | ⟨hnc, hk0⟩
    · exact ⟨b, l, _, hb, by rw [e2'], hg, rfl⟩
    · have hal : o1.alive = true := by cases o1 <;> simp [AObj.alive, AObj.owns] at how ⊢
      obtain ⟨_, kk2, _⟩ := key c k o1 hnc hk0 hgc hal
      exact ⟨c, k, o1, hk0, rfl, (kk2 how).1, how⟩
  · intro B hB hn
    refine hw.other _ fun e => hn ?_
    subst e
    exact ⟨b, l, _, hb, rfl, hg, rfl⟩
end Go.Ev
