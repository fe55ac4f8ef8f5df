/- Regions whose order is drawn: what was read stands, what was laid stands; operations that come late. -/
import Derived.Test.YtkomaolfjmgppaaDoorEvQ
namespace Go.Ev
open Go
set_option linter.unusedVariables false
set_option linter.unusedSectionVars false
set_option linter.unusedSimpArgs false

theorem astep_aop {E : Env} {call : Caller} {o : Oper} (hk : isEff E o.op = false) (tm : List Value) (H : AHeap) : astep E call o tm H = aop E (aev tm) o.op H := by
  unfold astep astepE
  split
  · rename_i f args ts ho
    rw [ho] at hk
    simp [isEff, kindOf] at hk
  · rename_i r m args ts ho
    rw [ho] at hk
    simp [isEff, kindOf] at hk
  · cases hx : isX o.op with
    | false => rfl
    | true =>
      exfalso
      have : kindOf E o.op = .eff := by
        generalize o.op = op at hx
        unfold isX at hx
        split at hx <;> first | rfl | cases hx
      simp [isEff, this] at hk

theorem aop_sameH {E : Env} {ev : Operand → Value} {op : Op} {H H' : AHeap} {v : Value} (hk : kindOf E op = .pure ∨ kindOf E op = .read) (h : aop E ev op H = some (v, H')) : H' = H := by
  rcases hk with hk | hk
  · have := aop_pure hk h H
    rw [h] at this
    simp only [Option.some.injEq, Prod.mk.injEq] at this
    exact this.2
  · cases op with
    | load t a =>
      simp only [aop] at h
      split at h
      · simp only [Option.some.injEq, Prod.mk.injEq] at h; exact h.2.symm
      · cases h
    | lookup t x k ok =>
      simp only [aop] at h
      split at h
      · simp only [Option.some.injEq, Prod.mk.injEq] at h; exact h.2.symm
      · cases h
    | slice t x lo hi mx =>
      cases mx with
      | some m => simp [aop] at h
      | none =>
        simp only [aop] at h
        split at h
        · simp only [Option.some.injEq, Prod.mk.injEq] at h; exact h.2.symm
        · cases h
    | convert s d x =>
      simp only [aop, aconv] at h
      split at h
      · rename_i i j hi hj
        have di := desc_eq hi
        have dj := desc_eq hj
        simp only [kindOf, di, dj] at hk
        generalize ev x = y at h
        split at h
        · simp only [Option.some.injEq, Prod.mk.injEq] at h; exact h.2.symm
        · simp only [Option.some.injEq, Prod.mk.injEq] at h; exact h.2.symm
        · rename_i hdj
          exfalso
          cases hdi : i.desc <;> simp [hdi, hdj] at hk
        · split at h
          · split at h
            · simp only [Option.some.injEq, Prod.mk.injEq] at h; exact h.2.symm
            · cases h
          · cases h
        · split at h
          · split at h
            · split at h
              · split at h
                · simp only [Option.some.injEq, Prod.mk.injEq] at h; exact h.2.symm
                · cases h
              · cases h
            · cases h
          · cases h
        · cases h
      · cases h
    | call c =>
      obtain ⟨callee, as, ts⟩ := c
      cases callee with
      | builtin b =>
        cases b <;> simp [kindOf] at hk
        simp only [aop] at h
        split at h
        · split at h
          · simp only [Option.some.injEq, Prod.mk.injEq] at h; exact h.2.symm
          · cases h
        · cases h
      | _ => simp [kindOf] at hk
    | _ => simp [kindOf] at hk

theorem anew_shape {v x : Value} {H H' : AHeap} (h : anew v H = some (x, H')) : ∃ obj, H' = H.push obj ∧ idOf x = some H.size := by
  unfold anew at h
  split at h
  · simp only [Option.some.injEq, Prod.mk.injEq] at h
    obtain ⟨rfl, rfl⟩ := h
    exact ⟨_, rfl, rfl⟩
  · cases h
theorem aop_allocH {E : Env} {ev : Operand → Value} {op : Op} {H H' : AHeap} {v : Value} (hk : kindOf E op = .alloc) (h : aop E ev op H = some (v, H')) :
    ∃ obj, H' = H.push obj ∧ idOf v = some H.size := by
  cases op with
  | alloc t =>
    simp only [aop] at h
    split at h
    · exact anew_shape h
    · cases h
  | box t x => simp only [aop] at h; exact anew_shape h
  | makeMap t r =>
    cases r with
    | some r => simp [aop] at h
    | none =>
      simp only [aop, Option.some.injEq, Prod.mk.injEq] at h
      obtain ⟨rfl, rfl⟩ := h
      exact ⟨_, rfl, rfl⟩
  | buildSlice t n ps =>
    simp only [aop, abuildSlice] at h
    repeat' split at h
    all_goals first
      | (cases h; done)
      | (simp only [Option.some.injEq, Prod.mk.injEq] at h; obtain ⟨rfl, rfl⟩ := h; exact ⟨_, rfl, rfl⟩)
  | makeSlice t a b =>
    simp only [aop, amakeSlice] at h
    repeat' split at h
    all_goals first
      | (cases h; done)
      | (simp only [Option.some.injEq, Prod.mk.injEq] at h; obtain ⟨rfl, rfl⟩ := h; exact ⟨_, rfl, rfl⟩)
  | convert s d x =>
    simp only [aop, aconv] at h
    split at h
    · rename_i i j hi hj
      have di := desc_eq hi
      have dj := desc_eq hj
      simp only [kindOf, di, dj] at hk
      generalize ev x = y at h
      split at h
      · rename_i hdj; exfalso; cases hdi : i.desc <;> simp [hdi, hdj] at hk
      · rename_i hdj; exfalso; cases hdi : i.desc <;> simp [hdi, hdj] at hk
      · split at h
        · split at h
          · split at h
            · simp only [Option.some.injEq, Prod.mk.injEq] at h; obtain ⟨rfl, rfl⟩ := h; exact ⟨_, rfl, rfl⟩
            · cases h
          · cases h
        · cases h
      · rename_i hdi hdj; exfalso; simp [hdi, hdj] at hk
      · rename_i hdi hdj; exfalso; simp [hdi, hdj] at hk
      · cases h
    · cases h
  | slice t x lo hi mx =>
    exfalso
    simp only [kindOf] at hk
    split at hk
    · cases hk
    · split at hk <;> cases hk
  | call c =>
    exfalso
    obtain ⟨callee, as, ts⟩ := c
    cases callee with
    | builtin b => cases b <;> simp [kindOf] at hk
    | _ => simp [kindOf] at hk
  | _ => simp [kindOf] at hk

theorem eff_iff {E : Env} {op : Op} : isEff E op = true ↔ kindOf E op = .eff := by
  unfold isEff; split <;> simp_all
theorem eff_false {E : Env} {op : Op} (h : kindOf E op ≠ .eff) : isEff E op = false := by
  cases hh : isEff E op with
  | false => rfl
  | true => exact absurd (eff_iff.1 hh) h

/-- What the order says of one place. -/
structure At (E : Env) (ops : Array Oper) (seen : List Nat) (i : Nat) (ck : List Nat) (o : Oper) : Prop where
  preds : ∀ j, j < ops.size → pb ops i j = true → j ∈ seen
  eager : isEff E o.op = false → ∀ e y, e ∈ seen → ops[e]? = some y → isEff E y.op = true → pb ops i e = true
  checks : (isEff E o.op = true ∨ kindOf E o.op = .alloc) → ∀ r y, r ∈ seen → ops[r]? = some y → isSeen E y.op = true → (isEff E o.op = true ∧ pb ops i r = true) ∨ r ∈ ck
  new : i ∉ seen
theorem at_of {E : Env} {ops : Array Oper} {seen : List Nat} {i : Nat} {ck : List Nat} {rest : List (Nat × List Nat)} {o : Oper} (ho : ops[i]? = some o)
    (h : orderOk E ops (Region.before ops) seen ((i, ck) :: rest) = true) : At E ops seen i ck o ∧ orderOk E ops (Region.before ops) (i :: seen) rest = true := by
  simp only [orderOk, ho, Bool.and_eq_true, List.all_eq_true, List.mem_range, Bool.or_eq_true, Bool.not_eq_true'] at h
  obtain ⟨⟨⟨⟨h1, h2⟩, h3⟩, h4⟩, h5⟩ := h
  have hlt : ∀ (j : Nat) (y : Oper), ops[j]? = some y → j < ops.size := fun j y hy => (Array.getElem?_eq_some_iff.1 hy).1
  refine ⟨⟨?_, ?_, ?_, ?_⟩, h5⟩
  · intro j hj hb
    rcases h1 j hj with e | e
    · have hb' : pbT (Region.before ops) i j = true := hb
      rw [hb'] at e; cases e
    · simpa using e
  · intro hne e y he hy hye
    rcases h2 with hh | hh
    · rw [hne] at hh; cases hh
    · have := hh e (hlt e y hy)
      rcases this with q | q
      · simp [he, hy, hye] at q
      · exact q
  · intro hk r y hr hy hs
    rcases h3 with hh | hh
    · exfalso
      obtain ⟨q1, q2⟩ := hh
      rcases hk with hk | hk
      · rw [hk] at q1; cases q1
      · rw [hk] at q2; cases q2
    · have := hh r (hlt r y hy)
      rcases this with q | q
      · simp [hr, hy, hs] at q
      · rcases q with q | q
        · exact .inl q
        · exact .inr (by simpa using q)
  · simpa using h4

theorem orderOk_split {E : Env} {ops : Array Oper} : ∀ {o1 o2 : List (Nat × List Nat)} {seen : List Nat}, orderOk E ops (Region.before ops) seen (o1 ++ o2) = true →
    orderOk E ops (Region.before ops) ((o1.map (·.1)).reverse ++ seen) o2 = true := by
  intro o1
  induction o1 with
  | nil => intro o2 seen h; exact h
  | cons p o1 ih =>
    obtain ⟨i, ck⟩ := p
    intro o2 seen h
    have h2 : orderOk E ops (Region.before ops) (i :: seen) (o1 ++ o2) = true := by
      simp only [List.cons_append, orderOk, Bool.and_eq_true] at h
      exact h.2
    have := ih h2
    simpa using this

section stable
variable {E : Env} {call : Caller} {ops : Array Oper} (hp : ∀ (i : Nat) (o : Oper), ops[i]? = some o → kindOf E o.op ≠ .bad)
include hp

/-- What was read stands behind a stretch of the way that holds no effect which may come ahead of it. -/
theorem stable_read {s : Seen} {y : Oper} (hy : ops[s.i]? = some y) (hys : y.op = s.op) (hk : kindOf E s.op = .read) :
    ∀ {order : List (Nat × List Nat)} {W W2 : List Seen} {tm tm2 : List Value} {H H2 : AHeap} {B : List Rec}, Way E call ops order W tm H B W2 tm2 H2 → ∀ (seen : List Nat),
      orderOk E ops (Region.before ops) seen order = true → s.i ∈ seen → s ∈ W → (∃ h, aop E (aev s.tm) s.op H = some (s.v, h)) →
      (∀ x ∈ B, isEff E x.o.op = true → pb ops x.i s.i = false) → ∃ h, aop E (aev s.tm) s.op H2 = some (s.v, h) := by
  intro order W W2 tm tm2 H H2 B t
  induction t with
  | nil => intro seen _ _ _ h _; exact h
  | @skip i ck rest W tm H o T W2 tm2 H2 ho hw t ih =>
    intro seen hord hin hW h hB
    obtain ⟨a1, a2⟩ := at_of ho hord
    exact ih (i :: seen) a2 (by simp [hin]) hW h fun x hx => hB x (by simp [hx])
  | @step i ck rest W tm H o v H' T W2 tm2 H2 ho hw hs hc t ih =>
    intro seen hord hin hW h hB
    obtain ⟨a1, a2⟩ := at_of ho hord
    refine ih (i :: seen) a2 (by simp [hin]) (addSeen_sub s hW) ?_ fun x hx => hB x (by simp [hx])
    have hseen : isSeen E y.op = true := by rw [hys]; simp [isSeen, hk]
    have hchk : s.i ∈ ck → ∃ h, aop E (aev s.tm) s.op H' = some (s.v, h) := by
      intro hck
      have := hc s hW hck
      unfold achk at this
      rw [hk] at this
      simp only at this
      split at this
      · rename_i v' h' hv'
        rw [veq_eq this]
        exact ⟨h', hv'⟩
      · cases this
    cases hko : kindOf E o.op with
    | bad => exact absurd hko (hp i o ho)
    | pure =>
      have he : isEff E o.op = false := eff_false (by rw [hko]; simp)
      rw [astep_aop he] at hs
      rw [aop_sameH (.inl hko) hs]; exact h
    | read =>
      have he : isEff E o.op = false := eff_false (by rw [hko]; simp)
      rw [astep_aop he] at hs
      rw [aop_sameH (.inr hko) hs]; exact h
    | alloc =>
      have he : isEff E o.op = false := eff_false (by rw [hko]; simp)
      rcases a1.checks (.inr hko) s.i y hin hy hseen with ⟨q, _⟩ | q
      · rw [he] at q; cases q
      · exact hchk q
    | eff =>
      have he : isEff E o.op = true := eff_iff.2 hko
      rcases a1.checks (.inl he) s.i y hin hy hseen with ⟨_, q⟩ | q
      · have := hB ⟨i, o, tm, H, true, v, H'⟩ (by simp) he
        rw [this] at q; cases q
      · exact hchk q

theorem stable_alloc {s : Seen} {y : Oper} (hy : ops[s.i]? = some y) (hys : y.op = s.op) (hk : kindOf E s.op = .alloc) {b : Nat} (hb : idOf s.v = some b) {obj : AObj} :
    ∀ {order : List (Nat × List Nat)} {W W2 : List Seen} {tm tm2 : List Value} {H H2 : AHeap} {B : List Rec}, Way E call ops order W tm H B W2 tm2 H2 → ∀ (seen : List Nat),
      orderOk E ops (Region.before ops) seen order = true → s.i ∈ seen → s ∈ W → H.get b = some obj →
      (∀ x ∈ B, isEff E x.o.op = true → pb ops x.i s.i = false) → H2.get b = some obj := by
  intro order W W2 tm tm2 H H2 B t
  induction t with
  | nil => intro seen _ _ _ h _; exact h
  | @skip i ck rest W tm H o T W2 tm2 H2 ho hw t ih =>
    intro seen hord hin hW h hB
    obtain ⟨a1, a2⟩ := at_of ho hord
    exact ih (i :: seen) a2 (by simp [hin]) hW h fun x hx => hB x (by simp [hx])
  | @step i ck rest W tm H o v H' T W2 tm2 H2 ho hw hs hc t ih =>
    intro seen hord hin hW h hB
    obtain ⟨a1, a2⟩ := at_of ho hord
    refine ih (i :: seen) a2 (by simp [hin]) (addSeen_sub s hW) ?_ fun x hx => hB x (by simp [hx])
    have hseen : isSeen E y.op = true := by rw [hys]; simp [isSeen, hk]
    have hchk : s.i ∈ ck → H'.get b = some obj := by
      intro hck
      have := hc s hW hck
      unfold achk at this
      rw [hk] at this
      simp only [hb] at this
      rw [← oeq_eq this]; exact h
    cases hko : kindOf E o.op with
    | bad => exact absurd hko (hp i o ho)
    | pure =>
      have he : isEff E o.op = false := eff_false (by rw [hko]; simp)
      rw [astep_aop he] at hs
      rw [aop_sameH (.inl hko) hs]; exact h
    | read =>
      have he : isEff E o.op = false := eff_false (by rw [hko]; simp)
      rw [astep_aop he] at hs
      rw [aop_sameH (.inr hko) hs]; exact h
    | alloc =>
      have he : isEff E o.op = false := eff_false (by rw [hko]; simp)
      rcases a1.checks (.inr hko) s.i y hin hy hseen with ⟨q, _⟩ | q
      · rw [he] at q; cases q
      · exact hchk q
    | eff =>
      have he : isEff E o.op = true := eff_iff.2 hko
      rcases a1.checks (.inl he) s.i y hin hy hseen with ⟨_, q⟩ | q
      · have := hB ⟨i, o, tm, H, true, v, H'⟩ (by simp) he
        rw [this] at q; cases q
      · exact hchk q

/-- A stretch without effects lays new blocks alone. -/
theorem ext_way {order : List (Nat × List Nat)} {W W2 : List Seen} {tm tm2 : List Value} {H H2 : AHeap} {B : List Rec} (t : Way E call ops order W tm H B W2 tm2 H2)
    (hB : ∀ x ∈ B, isEff E x.o.op = false) : H.size ≤ H2.size ∧ ∀ b, b < H.size → H2.get b = H.get b := by
  induction t with
  | nil => exact ⟨Nat.le_refl _, fun _ _ => rfl⟩
  | skip ho hw t ih => exact ih fun x hx => hB x (by simp [hx])
  | @step i ck rest W tm H o v H' T W2 tm2 H2 ho hw hs hc t ih =>
    have he := hB ⟨i, o, tm, H, true, v, H'⟩ (by simp)
    simp only at he
    obtain ⟨i1, i2⟩ := ih fun x hx => hB x (by simp [hx])
    rw [astep_aop he] at hs
    have step1 : H.size ≤ H'.size ∧ ∀ b, b < H.size → H'.get b = H.get b := by
      cases hko : kindOf E o.op with
      | bad => exact absurd hko (hp i o ho)
      | pure => rw [aop_sameH (.inl hko) hs]; exact ⟨Nat.le_refl _, fun _ _ => rfl⟩
      | read => rw [aop_sameH (.inr hko) hs]; exact ⟨Nat.le_refl _, fun _ _ => rfl⟩
      | alloc =>
        obtain ⟨obj, rfl, _⟩ := aop_allocH hko hs
        exact ⟨by simp, fun b hb => AHeap.get_push_lt _ _ _ hb⟩
      | eff => rw [eff_iff.2 hko] at he; cases he
    exact ⟨Nat.le_trans step1.1 i1, fun b hb => (i2 b (Nat.lt_of_lt_of_le hb step1.1)).trans (step1.2 b hb)⟩
end stable

theorem Rel.ext {ρ : Ren} {H H2 : AHeap} {w : World} (h : Rel ρ H w) (hs : H.size ≤ H2.size) (he : ∀ b, b < H.size → H2.get b = H.get b) : Rel ρ H2 w ∧ Step ρ H w ρ H2 w := by
  have hg : ∀ b l, ρ b = some l → H2.get b = H.get b := fun b l hb => he b (h.bd b l hb).1
  refine ⟨{ bd := ?_, obj := ?_, excl := ?_ }, { le := .refl ρ, keep := fun _ _ => rfl, hs := hs, os := rfl, tape := rfl, output := rfl, size := Nat.le_refl _, own := ?_, same := fun _ _ _ => rfl }⟩
  · intro b l hb; have := h.bd b l hb; exact ⟨by omega, this.2⟩
  · intro b l o hb ho; rw [hg b l hb] at ho; exact h.obj b l o hb ho
  · intro b l o anc b' l' o' hb ho how hb' ho' hal hne hB
    rw [hg b l hb] at ho
    rw [hg b' l' hb'] at ho'
    exact h.excl b l o anc b' l' o' hb ho how hb' ho' hal hne hB
  · rintro B hB ⟨b, l, o, hb, rfl, hgo, how⟩
    rw [hg b l hb] at hgo
    exact ⟨b, l, o, hb, rfl, hgo, how⟩

/-- A block that the abstract heap has had for a while is laid in the model's memory. -/
theorem Rel.late {ρ : Ren} {H : AHeap} {w w' : World} (h : Rel ρ H w) {b : Nat} {obj : AObj} (hb : ρ b = none) (hlt : b < H.size) (hg : H.get b = some obj) (how : obj.owns = some [])
    (hm : OneMore w w') {l : Loc} (hl : l.B = w.heap.size) (ho : ORel ρ w' l obj) : Rel (ρ.upd b l) H w' := by
  have hle := Ren.upd_le (l := l) hb
  refine { bd := ?_, obj := ?_, excl := ?_ }
  · intro c k hk
    rcases Ren.upd_inv hk with ⟨rfl, rfl⟩ | ⟨_, hk⟩
    · exact ⟨hlt, by rw [hl, hm.size]; omega⟩
    · have := h.bd c k hk; exact ⟨this.1, by rw [hm.size]; omega⟩
  · intro c k o hk hgc
    rcases Ren.upd_inv hk with ⟨rfl, rfl⟩ | ⟨_, hk⟩
    · rw [hg] at hgc; injection hgc with hgc; subst hgc; exact ho.mono hle
    · exact ((h.obj c k o hk hgc).congr (hm.old _ (h.bd c k hk).2)).mono hle
  · intro c k o anc c' k' o' hk hgc hw hk' hgc' hal hne hB
    rcases Ren.upd_inv hk with ⟨e1, e2⟩ | ⟨_, hk0⟩
    · rcases Ren.upd_inv hk' with ⟨e3, e4⟩ | ⟨_, hk1⟩
      · exact absurd (e3.trans e1.symm) hne
      · have := (h.bd c' k' hk1).2; rw [e2] at hB; omega
    · rcases Ren.upd_inv hk' with ⟨e3, e4⟩ | ⟨_, hk1⟩
      · have := (h.bd c k hk0).2; rw [e4] at hB; omega
      · exact h.excl c k o anc c' k' o' hk0 hgc hw hk1 hgc' hal hne hB
theorem Step.late {ρ0 ρ : Ren} {H0 H : AHeap} {w0 w w' : World} (h : Step ρ0 H0 w0 ρ H w) {b : Nat} {l : Loc} (hb : ρ b = none) (hlt : H0.size ≤ b) (hm : OneMore w w') (hl : l.B = w.heap.size) :
    Step ρ0 H0 w0 (ρ.upd b l) H w' := by
  refine ⟨h.le.trans (Ren.upd_le hb), fun c hc => (Ren.upd_ne _ _ (by omega)).trans (h.keep c hc), h.hs, hm.os.trans h.os, hm.tape.trans h.tape, hm.output.trans h.output, by rw [hm.size]; have := h.size; omega, ?_, ?_⟩
  · rintro B hB ⟨c, k, o, hk, rfl, hg, how⟩
    rcases Ren.upd_inv hk with ⟨e1, e2⟩ | ⟨_, hk0⟩
    · have := h.size; rw [e2, hl] at hB; omega
    · exact h.own _ hB ⟨c, k, o, hk0, rfl, hg, how⟩
  · intro B hB hn
    exact (hm.old B (by have := h.size; omega)).trans (h.same B hB hn)
end Go.Ev
