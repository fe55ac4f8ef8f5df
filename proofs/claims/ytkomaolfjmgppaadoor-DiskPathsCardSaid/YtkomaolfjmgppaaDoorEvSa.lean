/- Summaries: what a library function comes to, as a function on abstract states. -/
import Derived.Test.YtkomaolfjmgppaaDoorEvZ
import Derived.Laws.IdiomCopy
namespace Go.Ev
open Go RowKit
set_option linter.unusedVariables false
set_option linter.unusedSectionVars false
set_option linter.unusedSimpArgs false

/-- What it asks, what it answers, the blocks behind it. -/
abbrev Summ := List Value → AHeap → Option (Bool × Value × AHeap)
/-- A summary is right. -/
def SumOk (P : Program) (f : FuncId) (g : Summ) : Prop := ∀ args H v H', g args H = some (true, v, H') →
  (∃ F, P.funcs[f]? = some F ∧ F.body.isSome = true ∧ F.name ≠ "runtime.NumGoroutine") ∧ H.size ≤ H'.size ∧
  ∀ ρ w (cargs : Array Value), Rel ρ H w → LRel ρ args cargs.toList → Calls P f cargs w (Post ρ H w v H')
def SumsOk (P : Program) : List (Nat × Summ) → Prop
  | [] => True
  | p :: l => SumOk P p.1 p.2 ∧ SumsOk P l
theorem SumsOk.mem {P : Program} : ∀ {ss : List (Nat × Summ)}, SumsOk P ss → ∀ p ∈ ss, SumOk P p.1 p.2 := by
  intro xs
  induction xs with
  | nil => intro _ p hp; cases hp
  | cons x xs ih =>
    intro h p hp
    rcases List.mem_cons.1 hp with rfl | hp
    · exact h.1
    · exact ih h.2 p hp
theorem sOk_of {P : Program} {ps : Plans} {xs : Exts} {ss : List (Nat × Summ)} (h : SumsOk P ss) : (mkEnv P ps xs fun f => look f ss).SOk := by
  intro f g hg args H v H' hv
  have hg' : (match look f ss with | some g => some fun args H => ofO (g args H) | none => none) = some g := hg
  split at hg'
  · rename_i g0 h0
    cases hg'
    rw [ofO_get] at hv
    exact h.mem _ (look_mem h0) args H v H' hv
  · cases hg'
abbrev BSumm := List Value → AHeap → SumR
def BSumOk (P : Program) (f : FuncId) (g : BSumm) : Prop := ∀ args H v H', (g args H).get = some (true, v, H') →
  (∃ F, P.funcs[f]? = some F ∧ F.body.isSome = true ∧ F.name ≠ "runtime.NumGoroutine") ∧ H.size ≤ H'.size ∧
  ∀ ρ w (cargs : Array Value), Rel ρ H w → LRel ρ args cargs.toList → Calls P f cargs w (Post ρ H w v H')
def liftS (g : Summ) : BSumm := fun args H => ofO (g args H)
theorem SumOk.lift {P : Program} {f : FuncId} {g : Summ} (h : SumOk P f g) : BSumOk P f (liftS g) := by
  intro args H v H' hv
  unfold liftS at hv
  rw [ofO_get] at hv
  exact h args H v H' hv
def BSumsOk (P : Program) : List (Nat × BSumm) → Prop
  | [] => True
  | p :: l => BSumOk P p.1 p.2 ∧ BSumsOk P l
theorem BSumsOk.mem {P : Program} : ∀ {ss : List (Nat × BSumm)}, BSumsOk P ss → ∀ p ∈ ss, BSumOk P p.1 p.2 := by
  intro xs
  induction xs with
  | nil => intro _ p hp; cases hp
  | cons x xs ih =>
    intro h p hp
    rcases List.mem_cons.1 hp with rfl | hp
    · exact h.1
    · exact ih h.2 p hp
theorem sOkB_of {P : Program} {ps : Plans} {xs : Exts} {ss : List (Nat × BSumm)} (h : BSumsOk P ss) : (mkEnvB P ps xs fun f => look f ss).SOk :=
  fun f g hg => h.mem _ (look_mem hg)

/-- The world has more blocks; of those that were there none is another. -/
theorem Rel.below {ρ : Ren} {H : AHeap} {w w' : World} (h : Rel ρ H w) (hb : Below w.heap.size w w') : Rel ρ H w' ∧ Step ρ H w ρ H w' :=
  ⟨{ bd := fun b l hl => ⟨(h.bd b l hl).1, Nat.lt_of_lt_of_le (h.bd b l hl).2 hb.size⟩
     obj := fun b l o hl ho => (h.obj b l o hl ho).congr (hb.block _ (h.bd b l hl).2)
     excl := h.excl },
   { le := .refl ρ, keep := fun _ _ => rfl, hs := Nat.le_refl _, os := hb.os, tape := hb.tape, output := hb.output, size := hb.size, own := fun _ _ h => h, same := fun B hB _ => hb.block B hB }⟩

/-- Plain values, and tuples of them. -/
def plainV : Value → Bool
  | .tuple xs => xs.toList.all plain
  | v => plain v
theorem VRel.plainV {ρ : Ren} {v : Value} (h : Go.Ev.plainV v = true) : VRel ρ v v := by
  unfold Go.Ev.plainV at h
  split at h
  · rename_i xs
    have hall : ∀ v ∈ xs.toList, Go.Ev.plain v = true := List.all_eq_true.1 h
    refine .tuple _ _ rfl fun i x y hx hy => ?_
    rw [hx] at hy
    cases hy
    exact VRel.plain (hall x (by simpa using Array.mem_of_getElem? hx))
  · exact VRel.plain h
/-- A function that reads and makes new memory alone, and answers with plain values. -/
def pureS (g : List Value → Option (Bool × Value)) : Summ := fun args H => match g args with | some (c, v) => some (c, v, H) | none => none
theorem sumOk_pure {P : Program} {f : FuncId} {g : List Value → Option (Bool × Value)} {F : Func} (hF : P.funcs[f]? = some F) (hb : F.body.isSome = true) (hn : F.name ≠ "runtime.NumGoroutine")
    (h : ∀ args v, g args = some (true, v) → plainV v = true ∧ ∀ (ρ : Ren) (w : World) (cargs : Array Value), LRel ρ args cargs.toList → Calls P f cargs w fun e w' => e = .returned v ∧ Below w.heap.size w w') :
    SumOk P f (pureS g) := by
  intro args H v H' hg
  unfold pureS at hg
  split at hg
  · rename_i c u hu
    simp only [Option.some.injEq, Prod.mk.injEq] at hg
    obtain ⟨rfl, rfl, rfl⟩ := hg
    obtain ⟨h1, h2⟩ := h _ _ hu
    refine ⟨⟨F, hF, hb, hn⟩, Nat.le_refl _, fun ρ w cargs hR ha => (h2 ρ w cargs ha).mono ?_⟩
    rintro e w' ⟨rfl, hbw⟩
    obtain ⟨r1, r2⟩ := hR.below hbw
    exact ⟨_, ρ, rfl, r1, r2, .plainV h1⟩
  · cases hg

/-! ### A row written anew, where it lies -/
theorem Rel.redo {ρ : Ren} {H : AHeap} {w w' : World} (h : Rel ρ H w) {b : Nat} {l : Loc} {cs : List Value} {t : ET} {anc : List Nat}
    (hb : ρ b = some l) (hg : H.get b = some (.cells cs t .live anc)) {CS CS' : Array Value} {el : TypeId} {fr : Nat × Nat} (hc : w.heap[l.B]? = some (.cells CS el fr))
    (hos : w'.os = w.os) (htp : w'.tape = w.tape) (hou : w'.output = w.output) (hsz : w'.heap.size = w.heap.size) (hoth : ∀ k, k ≠ l.B → w'.heap[k]? = w.heap[k]?)
    (hblk : w'.heap[l.B]? = some (.cells CS' el fr)) (hs : CS'.size = CS.size) {o : Nat} {new : List Value} (hn : ∀ i v, new[i]? = some v → ∃ V, CS'[l.s + o + i]? = some V ∧ one V = true ∧ VRel ρ v V)
    {t' : ET} (ht1 : t'.sz = t.sz) (ht2 : t'.el = none ∨ t'.el = t.el) (ht3 : t'.clean = true → t.clean = true) :
    let ρ' := ρ.upd H.size ⟨l.B, l.s + o, l.N, l.t⟩
    let H' := ((H.kill anc).set b .dead).push (.cells new t' .live [])
    Rel ρ' H' w' ∧ Step ρ H w ρ' H' w' := by
  intro ρ' H'
  obtain ⟨CS0, el0, fr0, e0, e1, e2, e3, e4⟩ := h.obj b l _ hb hg
  rw [hc] at e0
  injection e0 with e0
  injection e0 with e00 e01 e02
  subst e00 e01 e02
  have hf := h.fresh
  have hle : Ren.le ρ ρ' := Ren.upd_le hf
  have hbd : b < H.size := (h.bd b l hb).1
  have hsz' : ((H.kill anc).set b .dead).size = H.size := by simp
  have hH' : ∀ c, H'.get c = if c = H.size then some (.cells new t' .live []) else ((H.kill anc).set b .dead).get c := by
    intro c
    show (((H.kill anc).set b .dead).push _).get c = _
    rw [AHeap.get_push, hsz']
  have key : ∀ c k o', c ≠ H.size → ρ c = some k → H'.get c = some o' → o'.alive = true → k.B ≠ l.B ∧ H.get c = some o' := by
    intro c k o' hne hk hgc hal
    rw [hH', if_neg hne] at hgc
    have hcb : c ≠ b := by
      intro e
      subst e
      rw [AHeap.get_set_eq] at hgc
      cases hgc
      cases hal
    rw [AHeap.get_set_ne _ _ _ _ hcb, AHeap.get_kill] at hgc
    split at hgc
    · cases hgc; cases hal
    · rename_i hna
      exact ⟨fun hB => hna (h.excl b l _ anc c k o' hb hg rfl hk hgc hal hcb hB).1, hgc⟩
  refine ⟨{ bd := ?_, obj := ?_, excl := ?_ }, { le := hle, keep := fun c hc => Ren.upd_ne _ _ (by omega), hs := ?_, os := hos, tape := htp, output := hou, size := by omega, own := ?_, same := ?_ }⟩
  · intro c k hk
    show c < ((H.kill anc).set b .dead).size + 1 ∧ _
    rw [hsz', hsz]
    rcases Ren.upd_inv hk with ⟨rfl, rfl⟩ | ⟨_, hk⟩
    · exact ⟨by omega, (h.bd b l hb).2⟩
    · have := h.bd c k hk; exact ⟨by omega, this.2⟩
  · intro c k o' hk hgc
    rcases Ren.upd_inv hk with ⟨rfl, rfl⟩ | ⟨hne, hk⟩
    · rw [hH', if_pos rfl] at hgc
      injection hgc with hgc
      subst hgc
      refine ⟨CS', el, fr, hblk, hs.trans e1, ⟨by rw [ht1]; exact e2.1, fun e he => ?_, fun hc => e2.2.2 (ht3 hc)⟩, ?_, fun _ i hi hi' => e4 (by simp) i (Nat.le_trans (Nat.le_add_right _ _) hi) hi'⟩
      · rcases ht2 with h2 | h2
        · rw [h2] at he; cases he
        · exact e2.2.1 e (by rw [← h2]; exact he)
      · intro i v hi
        obtain ⟨V, x1, x2, x3⟩ := hn i v hi
        exact ⟨V, x1, x2, x3.mono hle⟩
    · cases hal : o'.alive with
      | false => cases o' <;> simp [AObj.alive] at hal; trivial
      | true =>
        obtain ⟨k1, k2⟩ := key c k o' hne hk hgc hal
        exact ((h.obj c k o' hk k2).congr (hoth _ k1)).mono hle
  · intro c k o1 anc1 c' k' o2 hk hgc how hk' hgc' hal hne hB
    rcases Ren.upd_inv hk with ⟨e1', e2'⟩ | ⟨hnc, hk0⟩
    · rcases Ren.upd_inv hk' with ⟨e3', e4'⟩ | ⟨hnc', hk1⟩
      · exact absurd (e3'.trans e1'.symm) hne
      · subst e2'
        exact absurd hB (key c' k' o2 hnc' hk1 hgc' hal).1
    · obtain ⟨q1, q2⟩ := key c k o1 hnc hk0 hgc (alive_of_owns how)
      rcases Ren.upd_inv hk' with ⟨e3', e4'⟩ | ⟨hnc', hk1⟩
      · subst e4'; exact absurd hB.symm q1
      · obtain ⟨q3, q4⟩ := key c' k' o2 hnc' hk1 hgc' hal
        exact h.excl c k o1 anc1 c' k' o2 hk0 q2 how hk1 q4 hal hne hB
  · show H.size ≤ ((H.kill anc).set b .dead).size + 1
    rw [hsz']; omega
  · rintro B hB ⟨c, k, o1, hk, rfl, hgc, how⟩
    rcases Ren.upd_inv hk with ⟨e1', e2'⟩ | ⟨hnc, hk0⟩
    · exact ⟨b, l, _, hb, by rw [e2'], hg, rfl⟩
    · have hal : o1.alive = true := by cases o1 <;> simp [AObj.alive, AObj.owns] at how ⊢
      obtain ⟨q1, q2⟩ := key c k o1 hnc hk0 hgc hal
      exact ⟨c, k, o1, hk0, rfl, q2, how⟩
  · intro B hB hn'
    refine hoth _ fun e => hn' ?_
    subst e
    exact ⟨b, l, _, hb, rfl, hg, rfl⟩

theorem wrote_setCells {B : Nat} {el : TypeId} {fr : Nat × Nat} : ∀ (vs : List Value) (w : World) (off : Nat) (CS : Array Value), w.heap[B]? = some (.cells CS el fr) → off + vs.length ≤ CS.size →
    Wrote w B CS el fr off vs (w.setCells B off vs) := by
  intro vs
  induction vs with
  | nil => intro w off CS hb _; exact ⟨rfl, rfl, rfl, rfl, fun _ _ => rfl, CS, hb, rfl, fun i => by simp; omega⟩
  | cons v vs ih =>
    intro w off CS hb hl
    simp only [List.length_cons] at hl
    have h1 := wrote_setCell w B off CS el fr v hb (by omega)
    obtain ⟨CS1, hb1, hs1, hg1⟩ := h1.block
    exact h1.append hb1 (ih _ _ _ hb1 (by omega))
end Go.Ev
