/- Allocation, writes and growth: what they do to the relation of the abstract heap and the model's world. -/
import Derived.Test.YtkomaolfjmgppaaDoorEvA
namespace Go.Ev
open Go
set_option linter.unusedVariables false
set_option linter.unusedSimpArgs false

theorem ORel.congr {ρ : Ren} {w w' : World} {l : Loc} {o : AObj} (h : w'.heap[l.B]? = w.heap[l.B]?) (k : ORel ρ w l o) : ORel ρ w' l o := by
  cases o <;> simp only [ORel] at k ⊢ <;> first | trivial | (rw [h]; exact k)
theorem ORel.mono {ρ ρ' : Ren} (hr : Ren.le ρ ρ') {w : World} {l : Loc} {o : AObj} (k : ORel ρ w l o) : ORel ρ' w l o := by
  cases o with
  | cells cs t st anc =>
    obtain ⟨CS, el, fr, h1, h2, h3, h4, h5⟩ := k
    exact ⟨CS, el, fr, h1, h2, h3, fun i v hv => let ⟨V, a, b, c⟩ := h4 i v hv; ⟨V, a, b, c.mono hr⟩, h5⟩
  | map es bs st =>
    obtain ⟨ES, h1, h2, h3, h4⟩ := k
    exact ⟨ES, h1, h2.mono hr, h3.mono hr, h4⟩
  | siter s pos => exact k
  | miter m a b c =>
    obtain ⟨h0, M, h1, h2⟩ := k
    refine ⟨h0, M, h1, ?_⟩
    rcases m with _ | _ | b
    · trivial
    · exact h2
    · obtain ⟨q, h3, h4⟩ := h2; exact ⟨q, hr _ _ h3, h4⟩
  | dead => trivial

def Ren.upd (ρ : Ren) (b : Nat) (l : Loc) : Ren := fun c => if c = b then some l else ρ c
theorem Ren.upd_eq (ρ : Ren) (b : Nat) (l : Loc) : ρ.upd b l b = some l := by simp [Ren.upd]
theorem Ren.upd_ne (ρ : Ren) {b c : Nat} (l : Loc) (h : c ≠ b) : ρ.upd b l c = ρ c := by simp [Ren.upd, h]
theorem Ren.upd_le {ρ : Ren} {b : Nat} {l : Loc} (h : ρ b = none) : Ren.le ρ (ρ.upd b l) := by
  intro c k hc
  by_cases e : c = b
  · subst e; rw [h] at hc; cases hc
  · rw [Ren.upd_ne _ _ e]; exact hc
theorem Ren.upd_inv {ρ : Ren} {b c : Nat} {l k : Loc} (h : ρ.upd b l c = some k) : (c = b ∧ k = l) ∨ (c ≠ b ∧ ρ c = some k) := by
  by_cases e : c = b
  · subst e; rw [Ren.upd_eq] at h; cases h; exact .inl ⟨rfl, rfl⟩
  · rw [Ren.upd_ne _ _ e] at h; exact .inr ⟨e, h⟩

theorem Rel.fresh {ρ : Ren} {H : AHeap} {w : World} (h : Rel ρ H w) : ρ H.size = none := by
  cases hx : ρ H.size with
  | none => rfl
  | some l => have := (h.bd _ _ hx).1; omega

/-- A world that parts from w in no block. -/
theorem Rel.heap {ρ : Ren} {H : AHeap} {w w' : World} (h : Rel ρ H w) (e : w'.heap = w.heap) : Rel ρ H w' :=
  { bd := fun b l hb => by rw [e]; exact h.bd b l hb
    obj := fun b l o hb ho => (h.obj b l o hb ho).congr (by rw [e])
    excl := h.excl }

theorem heap_alloc_old (w : World) (o : Obj) {k : Nat} (h : k < w.heap.size) : (w.alloc o).heap[k]? = w.heap[k]? := RowKit.Below.heap_alloc w o k h
theorem heap_alloc_new (w : World) (o : Obj) : (w.alloc o).heap[w.heap.size]? = some o := by
  show (w.heap.push o)[w.heap.size]? = _
  simp

/-- A new block. -/
theorem Rel.allocG {ρ : Ren} {H : AHeap} {w w' : World} (h : Rel ρ H w) (hsz : w'.heap.size = w.heap.size + 1) (hold : ∀ k, k < w.heap.size → w'.heap[k]? = w.heap[k]?)
    (hos : w'.os = w.os) (htp : w'.tape = w.tape) (hou : w'.output = w.output) (oa : AObj) (l : Loc) (hl : l.B = w.heap.size) (ho : ORel (ρ.upd H.size l) w' l oa) :
    Rel (ρ.upd H.size l) (H.push oa) w' ∧ Step ρ H w (ρ.upd H.size l) (H.push oa) w' := by
  have hf := h.fresh
  have hle := Ren.upd_le (l := l) hf
  refine ⟨{ bd := ?_, obj := ?_, excl := ?_ }, { le := hle, keep := fun b hb => Ren.upd_ne _ _ (by omega), hs := by simp, os := hos, tape := htp, output := hou, size := by omega, own := ?_, same := ?_ }⟩
  · intro b k hb
    rcases Ren.upd_inv hb with ⟨rfl, rfl⟩ | ⟨hne, hb⟩
    · simp; omega
    · have := h.bd b k hb
      simp
      omega
  · intro b k o hb ho'
    rcases Ren.upd_inv hb with ⟨rfl, rfl⟩ | ⟨hne, hb⟩
    · rw [AHeap.get_push_eq] at ho'; cases ho'; exact ho
    · rw [AHeap.get_push_ne _ _ _ hne] at ho'
      exact ((h.obj b k o hb ho').congr (hold _ (h.bd b k hb).2)).mono hle
  · intro b k o anc b' k' o' hb hg hw hb' hg' ha hne hB
    rcases Ren.upd_inv hb with ⟨e1, e2⟩ | ⟨hn, hb0⟩
    · rcases Ren.upd_inv hb' with ⟨e3, e4⟩ | ⟨hn', hb1⟩
      · exact absurd (e3.trans e1.symm) hne
      · have := (h.bd _ _ hb1).2; rw [e2] at hB; omega
    · rcases Ren.upd_inv hb' with ⟨e3, e4⟩ | ⟨hn', hb1⟩
      · have := (h.bd _ _ hb0).2; rw [e4] at hB; omega
      · rw [AHeap.get_push_ne _ _ _ hn] at hg
        rw [AHeap.get_push_ne _ _ _ hn'] at hg'
        exact h.excl _ _ _ _ _ _ _ hb0 hg hw hb1 hg' ha hne hB
  · rintro B hB ⟨b, k, o, hb, rfl, hg, hw⟩
    rcases Ren.upd_inv hb with ⟨rfl, rfl⟩ | ⟨hn, hb⟩
    · omega
    · rw [AHeap.get_push_ne _ _ _ hn] at hg
      exact ⟨b, k, o, hb, rfl, hg, hw⟩
  · intro B hB _
    exact hold _ hB

theorem Rel.alloc {ρ : Ren} {H : AHeap} {w : World} (h : Rel ρ H w) (oc : Obj) (oa : AObj) (l : Loc) (hl : l.B = w.heap.size)
    (ho : ORel (ρ.upd H.size l) (w.alloc oc) l oa) :
    Rel (ρ.upd H.size l) (H.push oa) (w.alloc oc) ∧ Step ρ H w (ρ.upd H.size l) (H.push oa) (w.alloc oc) :=
  h.allocG (by simp) (fun k hk => heap_alloc_old _ _ hk) rfl rfl rfl oa l hl ho

/-! ### Writes -/
def splice : List Value → Nat → List Value → List Value
  | cs, _, [] => cs
  | cs, o, v :: vs => splice (cs.set o v) (o + 1) vs
theorem length_splice : ∀ (vs cs : List Value) (o : Nat), (splice cs o vs).length = cs.length := by
  intro vs
  induction vs with
  | nil => intro cs o; rfl
  | cons v vs ih => intro cs o; simp [splice, ih]
theorem get_splice : ∀ (vs cs : List Value) (o i : Nat), o + vs.length ≤ cs.length →
    (splice cs o vs)[i]? = if o ≤ i ∧ i < o + vs.length then vs[i - o]? else cs[i]? := by
  intro vs
  induction vs with
  | nil => intro cs o i _; simp [splice]; omega
  | cons v vs ih =>
    intro cs o i h
    simp only [List.length_cons] at h
    simp only [splice]
    rw [ih _ _ _ (by simp; omega)]
    simp only [List.length_cons]
    by_cases h1 : o + 1 ≤ i ∧ i < o + 1 + vs.length
    · rw [if_pos h1, if_pos (by omega)]
      have : i - o = (i - (o + 1)) + 1 := by omega
      rw [this, List.getElem?_cons_succ]
    · rw [if_neg h1, List.getElem?_set]
      by_cases e : o = i
      · subst e
        rw [if_pos rfl, if_pos (by omega), if_pos (by omega)]
        simp
      · rw [if_neg e, if_neg (by omega)]

/-- w' is w but for the cells from off on in block B, which hold vs. -/
structure Wrote (w : World) (B : Nat) (CS : Array Value) (el : TypeId) (fr : Nat × Nat) (off : Nat) (vs : List Value) (w' : World) : Prop where
  os : w'.os = w.os
  tape : w'.tape = w.tape
  output : w'.output = w.output
  size : w'.heap.size = w.heap.size
  other : ∀ k, k ≠ B → w'.heap[k]? = w.heap[k]?
  block : ∃ CS', w'.heap[B]? = some (.cells CS' el fr) ∧ CS'.size = CS.size ∧
    ∀ i : Nat, CS'[i]? = if off ≤ i ∧ i < off + vs.length then vs[i - off]? else CS[i]?

theorem run_store_cell (P : Program) (w : World) (B off : Nat) (CS : Array Value) (el : TypeId) (fr : Nat × Nat) (v : Value)
    (hb : w.heap[B]? = some (.cells CS el fr)) (ho : off < CS.size) (hf : ¬ (fr.1 ≤ off ∧ off < fr.2)) (hv : one v = true) :
    (store ⟨B, off, none⟩ v).run P w = .ok () (w.setCell ⟨B, off, none⟩ v) := by
  have hc : w.cell? ⟨B, off, none⟩ = some CS[off] := by simp [World.cell?, hb, ho]
  have hz : w.frozen? ⟨B, off, none⟩ = false := by
    simp [World.frozen?, hb]
    exact fun h => by have := fun k => hf ⟨h, k⟩; omega
  unfold store
  cases v <;> first | (simp [one] at hv; done) | simp [Sem.run, hc, hz]

theorem wrote_setCell (w : World) (B off : Nat) (CS : Array Value) (el : TypeId) (fr : Nat × Nat) (v : Value)
    (hb : w.heap[B]? = some (.cells CS el fr)) (ho : off < CS.size) : Wrote w B CS el fr off [v] (w.setCell ⟨B, off, none⟩ v) := by
  refine ⟨rfl, rfl, rfl, by simp, fun k hk => RowKit.Below.heap_setCell _ _ _ _ hk, CS.setIfInBounds off v, ?_, by simp, ?_⟩
  · simp [World.setCell, Array.getElem?_modify, hb]
  · intro i
    rw [Array.getElem?_setIfInBounds]
    by_cases e : off = i
    · subst e; simp [ho]
    · rw [if_neg e, if_neg (by simp; omega)]

theorem Wrote.append {w w1 w2 : World} {B : Nat} {CS CS1 : Array Value} {el : TypeId} {fr : Nat × Nat} {off : Nat} {v : Value} {vs : List Value}
    (h : Wrote w B CS el fr off [v] w1) (hb1 : w1.heap[B]? = some (.cells CS1 el fr)) (k : Wrote w1 B CS1 el fr (off + 1) vs w2) : Wrote w B CS el fr off (v :: vs) w2 := by
  obtain ⟨CS1', hb1', hs1, hg1⟩ := h.block
  rw [hb1] at hb1'
  injection hb1' with hb1'
  injection hb1' with e1
  subst e1
  obtain ⟨CS2, hb2, hs2, hg2⟩ := k.block
  refine ⟨k.os.trans h.os, k.tape.trans h.tape, k.output.trans h.output, k.size.trans h.size, fun j hj => (k.other j hj).trans (h.other j hj), CS2, hb2, hs2.trans hs1, ?_⟩
  intro i
  rw [hg2, hg1]
  simp only [List.length_cons, List.length_nil]
  by_cases h1 : off + 1 ≤ i ∧ i < off + 1 + vs.length
  · rw [if_pos h1, if_pos (by omega)]
    have : i - off = (i - (off + 1)) + 1 := by omega
    rw [this, List.getElem?_cons_succ]
  · rw [if_neg h1]
    by_cases e : off = i
    · subst e; rw [if_pos (by omega), if_pos (by omega)]; simp
    · rw [if_neg (by omega), if_neg (by omega)]

theorem run_storeCells (P : Program) (B : Nat) (el : TypeId) (fr : Nat × Nat) : ∀ (vs : List Value) (w : World) (off i : Nat) (CS : Array Value),
    w.heap[B]? = some (.cells CS el fr) → off + i + vs.length ≤ CS.size → (∀ j, off + i ≤ j → j < off + i + vs.length → ¬ (fr.1 ≤ j ∧ j < fr.2)) →
    (∀ v ∈ vs, one v = true) → ∃ w', (storeCells ⟨B, off, none⟩ vs i).run P w = .ok () w' ∧ Wrote w B CS el fr (off + i) vs w' := by
  intro vs
  induction vs with
  | nil =>
    intro w off i CS hb hl hf hv
    exact ⟨w, by simp [storeCells], rfl, rfl, rfl, rfl, fun _ _ => rfl, CS, hb, rfl, fun j => by simp; omega⟩
  | cons v vs ih =>
    intro w off i CS hb hl hf hv
    simp only [List.length_cons] at hl hf
    have hadd : (⟨B, off, none⟩ : Addr).add i = ⟨B, off + i, none⟩ := by
      unfold Addr.add; split
      · rename_i h; subst h; rfl
      · rfl
    have hr := run_store_cell P w B (off + i) CS el fr v hb (by omega) (hf _ (by omega) (by omega)) (hv v (by simp))
    have hw := wrote_setCell w B (off + i) CS el fr v hb (by omega)
    obtain ⟨CS1, hb1, hs1, hg1⟩ := hw.block
    obtain ⟨w', hr', hw'⟩ := ih (w.setCell ⟨B, off + i, none⟩ v) off (i + 1) CS1 hb1 (by omega) (fun j h1 h2 => hf j (by omega) (by omega)) (fun x hx => hv x (by simp [hx]))
    refine ⟨w', ?_, hw.append hb1 hw'⟩
    simp only [storeCells, hadd]
    rw [Sem.run_bind, hr]
    exact hr'

/-- A live block written, within what is known of it. -/
theorem Rel.write {ρ : Ren} {H : AHeap} {w w' : World} (h : Rel ρ H w) {b : Nat} {l : Loc} {cs : List Value} {t : ET} {anc : List Nat}
    (hb : ρ b = some l) (hg : H.get b = some (.cells cs t .live anc)) {CS : Array Value} {el : TypeId} {fr : Nat × Nat} (hc : w.heap[l.B]? = some (.cells CS el fr))
    {o : Nat} {vs Vs : List Value} (hv : LRel ρ vs Vs) (h1 : ∀ v ∈ Vs, one v = true) (ho : o + vs.length ≤ cs.length) (hw : Wrote w l.B CS el fr (l.s + o) Vs w') :
    Rel ρ ((H.kill anc).set b (.cells (splice cs o vs) t .live [])) w' ∧ Step ρ H w ρ ((H.kill anc).set b (.cells (splice cs o vs) t .live [])) w' := by
  obtain ⟨CS0, el0, fr0, e0, e1, e2, e3, e4⟩ := h.obj b l _ hb hg
  rw [hc] at e0
  injection e0 with e0
  injection e0 with e00 e01 e02
  subst e00 e01 e02
  obtain ⟨CS', hb', hs', hg'⟩ := hw.block
  have hlen := hv.1
  -- what another block that lives reads as behind the write
  have key : ∀ c k o', c ≠ b → ρ c = some k → ((H.kill anc).get c) = some o' → o'.alive = true → k.B ≠ l.B ∧ H.get c = some o' := by
    intro c k o' hne hc' hgc hal
    rw [AHeap.get_kill] at hgc
    split at hgc
    · injection hgc with hgc; subst hgc; cases hal
    · rename_i hn
      exact ⟨fun hB => hn (h.excl b l _ anc c k o' hb hg rfl hc' hgc hal hne hB).1, hgc⟩
  refine ⟨{ bd := ?_, obj := ?_, excl := ?_ }, { le := .refl ρ, keep := fun _ _ => rfl, hs := by simp, os := hw.os, tape := hw.tape, output := hw.output, size := by rw [hw.size]; exact Nat.le_refl _, own := ?_, same := ?_ }⟩
  · intro c k hk
    have := h.bd c k hk
    rw [hw.size]
    simpa using this
  · intro c k o' hk hgc
    by_cases e : c = b
    · subst e
      rw [hb] at hk; cases hk
      rw [AHeap.get_set_eq] at hgc
      injection hgc with hgc
      subst hgc
      refine ⟨CS', el, fr, hb', hs'.trans e1, e2, ?_, e4⟩
      intro i v hi
      rw [get_splice _ _ _ _ ho] at hi
      rw [hg']
      by_cases hin : o ≤ i ∧ i < o + vs.length
      · rw [if_pos hin] at hi
        rw [if_pos (by omega)]
        have : l.s + i - (l.s + o) = i - o := by omega
        rw [this]
        have hlt : i - o < Vs.length := by omega
        exact ⟨Vs[i - o], List.getElem?_eq_getElem hlt, h1 _ (List.getElem_mem hlt), hv.2 _ _ _ hi (List.getElem?_eq_getElem hlt)⟩
      · rw [if_neg hin] at hi
        rw [if_neg (by omega)]
        exact e3 i v hi
    · rw [AHeap.get_set_ne _ _ _ _ e] at hgc
      cases hal : o'.alive with
      | false => cases o' <;> simp [AObj.alive] at hal; trivial
      | true =>
        obtain ⟨hB, hgc'⟩ := key c k o' e hk hgc hal
        exact (h.obj c k o' hk hgc').congr (hw.other _ hB)
  · intro c k o1 anc1 c' k' o2 hk hgc how hk' hgc' hal hne hB
    by_cases e : c = b
    · subst e
      rw [hb] at hk; cases hk
      rw [AHeap.get_set_ne _ _ _ _ hne] at hgc'
      exact absurd hB (key c' k' o2 hne hk' hgc' hal).1
    · rw [AHeap.get_set_ne _ _ _ _ e] at hgc
      have hal1 : o1.alive = true := by cases o1 <;> simp [AObj.alive, AObj.owns] at how ⊢
      obtain ⟨hB1, hgc1⟩ := key c k o1 e hk hgc hal1
      by_cases e' : c' = b
      · subst e'
        rw [hb] at hk'; cases hk'
        exact absurd hB.symm hB1
      · rw [AHeap.get_set_ne _ _ _ _ e'] at hgc'
        obtain ⟨_, hgc2⟩ := key c' k' o2 e' hk' hgc' hal
        exact h.excl c k o1 anc1 c' k' o2 hk hgc1 how hk' hgc2 hal hne hB
  · rintro B hB ⟨c, k, o1, hk, rfl, hgc, how⟩
    by_cases e : c = b
    · subst e
      rw [hb] at hk; cases hk
      exact ⟨c, l, _, hb, rfl, hg, rfl⟩
    · rw [AHeap.get_set_ne _ _ _ _ e] at hgc
      have hal1 : o1.alive = true := by cases o1 <;> simp [AObj.alive, AObj.owns] at how ⊢
      obtain ⟨_, hgc1⟩ := key c k o1 e hk hgc hal1
      exact ⟨c, k, o1, hk, rfl, hgc1, how⟩
  · intro B hB hn
    refine hw.other _ fun e => hn ?_
    subst e
    exact ⟨b, l, _, hb, rfl, hg, rfl⟩
end Go.Ev
