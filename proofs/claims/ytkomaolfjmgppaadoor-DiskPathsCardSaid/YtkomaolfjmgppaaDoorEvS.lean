/- Regions whose order is drawn: whatever order the tape gives, they come to what the plan comes to. -/
import Derived.Test.YtkomaolfjmgppaaDoorEvR
namespace Go.Ev
open Go
set_option linter.unusedVariables false
set_option linter.unusedSectionVars false
set_option linter.unusedSimpArgs false

theorem span_eff (p : Rec → Bool) : ∀ l : List Rec, ∃ s d, l = s ++ d ∧ (∀ x ∈ s, p x = false) ∧ (∀ y d', d = y :: d' → p y = true) := by
  intro l
  induction l with
  | nil => exact ⟨[], [], rfl, by simp, by simp⟩
  | cons x l ih =>
    cases hx : p x with
    | true => exact ⟨[], x :: l, rfl, by simp, fun y d' e => by injection e with e; subst e; exact hx⟩
    | false =>
      obtain ⟨s, d, rfl, h1, h2⟩ := ih
      exact ⟨x :: s, d, rfl, fun y hy => by rcases List.mem_cons.1 hy with rfl | hy; exact hx; exact h1 y hy, h2⟩

/-- The temporaries: what has been carried out stands in them. -/
def Temps (T : List Rec) (tm0 : List Value) (ρ : Ren) (L : Nat → Prop) (a : Act) : Prop :=
  a.tmps.size = tm0.length ∧ ∀ (t : Nat) (V : Value), a.tmps[t]? = some V →
    (∀ r ∈ T, L r.i → r.o.dst = some t → VRel ρ r.v V) ∧ ((∀ r ∈ T, L r.i → r.o.dst ≠ some t) → ∀ u, tm0[t]? = some u → VRel ρ u V)

structure Inv (E : Env) (call : Caller) (ops : Array Oper) (order : List (Nat × List Nat)) (T : List Rec) (tm0 : List Value) (H0 : AHeap) (WF : List Seen) (tmF : List Value) (HF : AHeap)
    (ρ0 : Ren) (w0 : World) (L : Nat → Prop) (a : Act) (w : World) (A C : List Rec) (o1 o2 : List (Nat × List Nat)) (W1 : List Seen) (tm1 : List Value) (H1 : AHeap) (ρ : Ren) : Prop where
  split : T = A ++ C
  osplit : order = o1 ++ o2
  t1 : Way E call ops o1 [] tm0 H0 A W1 tm1 H1
  t2 : Way E call ops o2 W1 tm1 H1 C WF tmF HF
  effs : ∀ r ∈ A, isEff E r.o.op = true → L r.i
  rest : ∀ r ∈ C, ¬ L r.i
  next : ∀ r C', C = r :: C' → isEff E r.o.op = true
  rel : Rel ρ H1 w
  step : Step ρ0 H0 w0 ρ H1 w
  late : ∀ r ∈ A, kindOf E r.o.op = .alloc → r.w = true → ¬ L r.i → ∀ b, idOf r.v = some b → ρ b = none
  temps : Temps T tm0 ρ L a
  defers : a.defers = []

section
variable {E : Env} (hT : E.TOk) {call : Caller} (hC : CallOk E.P call) {ops : Array Oper} {order : List (Nat × List Nat)} (hp : Plan E ops order)
  {T : List Rec} {tm0 : List Value} {H0 : AHeap} {WF : List Seen} {tmF : List Value} {HF : AHeap} (hW : Way E call ops order [] tm0 H0 T WF tmF HF) {ρ0 : Ren} {w0 : World}

theorem same_op {r q : Rec} (hr : ops[r.i]? = some r.o) (hq : ops[q.i]? = some q.o) (h : q.i = r.i) : q.o = r.o := by
  rw [h, hr] at hq; injection hq with hq; exact hq.symm

/-- What stands ahead of a record. -/
theorem ahead {A B : List Rec} {r : Rec} {o1 : List (Nat × List Nat)} {W1 : List Seen} {tm1 : List Value} {H1 : AHeap} {o2 : List (Nat × List Nat)} (hp : Plan E ops order)
    (ho : order = o1 ++ o2) (t1 : Way E call ops o1 [] tm0 H0 A W1 tm1 H1) (t2 : Way E call ops o2 W1 tm1 H1 (r :: B) WF tmF HF) :
    ∃ ck seen, (∀ j, j ∈ seen ↔ ∃ q ∈ A, q.i = j) ∧ At E ops seen r.i ck r.o ∧ r.tm = tm1 ∧ r.H = H1 ∧ ops[r.i]? = some r.o ∧
      orderOk E ops (Region.before ops) seen o2 = true ∧ ∃ rest, o2 = (r.i, ck) :: rest ∧ orderOk E ops (Region.before ops) (r.i :: seen) rest = true := by
  obtain ⟨ck, rest, e1, e2, e3, e4, _⟩ := t2.head
  have hord := hp.ord
  rw [ho] at hord
  have h2 := orderOk_split hord
  have h3 := h2
  rw [e1] at h3
  obtain ⟨a1, a2⟩ := at_of e2 h3
  refine ⟨ck, _, ?_, a1, e3, e4, e2, h2, rest, e1, a2⟩
  intro j
  have := t1.idx
  simp only [List.append_nil, List.mem_reverse, ← this, List.mem_map]

/-- The operands that an operation finds, whenever it may be carried out. -/
theorem operands {A B : List Rec} {r : Rec} {o1 : List (Nat × List Nat)} {W1 : List Seen} {tm1 : List Value} {H1 : AHeap} {o2 : List (Nat × List Nat)} {ρ : Ren} {L : Nat → Prop} {a : Act} (hp : Plan E ops order)
    (hTT : T = A ++ r :: B) (ho : order = o1 ++ o2) (t1 : Way E call ops o1 [] tm0 H0 A W1 tm1 H1) (t2 : Way E call ops o2 W1 tm1 H1 (r :: B) WF tmF HF)
    (hdc : ∀ q ∈ T, L q.i → ∀ j, pb ops q.i j = true → L j) (hpre : ∀ j, pb ops r.i j = true → L j) (hnl : ¬ L r.i) (hops : ∀ q ∈ T, ops[q.i]? = some q.o) (htm : Temps T tm0 ρ L a)
    {t : Nat} (ht : t ∈ r.o.looksAt ops) : (∀ x, r.tm[t]? = some x → ∃ y, a.tmps[t]? = some y ∧ VRel ρ x y) ∧ (r.tm[t]? = none → a.tmps[t]? = none) := by
  obtain ⟨ck, seen, hseen, hat, e3, e4, e2, _, _⟩ := ahead hp ho t1 t2
  have hlen : r.tm.length = tm0.length := by rw [e3, t1.len]
  refine ⟨fun x hx => ?_, fun hn => ?_⟩
  · have hlt : t < tm0.length := by rw [← hlen]; exact (List.getElem?_eq_some_iff.1 hx).1
    have hlt' : t < a.tmps.size := by rw [htm.1]; exact hlt
    refine ⟨a.tmps[t], Array.getElem?_eq_getElem hlt', ?_⟩
    obtain ⟨h1, h2⟩ := htm.2 t _ (Array.getElem?_eq_getElem hlt')
    have hself := hp.self r.i r.o
    by_cases hw : ∃ q ∈ A, q.o.dst = some t
    · obtain ⟨q, hq, hqd, hqv⟩ := t1.tm_some hlt hw
      rw [e3, hqv] at hx
      injection hx with hx
      subst hx
      have hqT : q ∈ T := by rw [hTT]; simp [hq]
      have hne : r.i ≠ q.i := fun e => hat.new ((hseen r.i).2 ⟨q, hq, e.symm⟩)
      refine h1 q hqT ?_ hqd
      rcases hp.names r.i q.i r.o q.o t hne e2 (hops q hqT) hqd ht with hh | hh
      · exact hpre _ hh
      · -- then r would stand ahead of q
        exfalso
        obtain ⟨A1, A2, rfl⟩ := List.append_of_mem hq
        obtain ⟨p1, p2, V1, u1, G1, rfl, s1, s2⟩ := t1.split (A := A1) (C := q :: A2)
        have ho' : order = p1 ++ (p2 ++ o2) := by rw [ho, List.append_assoc]
        obtain ⟨ck', seen', hseen', hat', _⟩ := ahead hp ho' s1 (s2.join t2)
        have := hat'.preds r.i (Array.getElem?_eq_some_iff.1 e2).1 hh
        obtain ⟨q', hq', e⟩ := (hseen' r.i).1 this
        exact hat.new ((hseen r.i).2 ⟨q', by simp [hq'], e⟩)
    · have hnone : r.tm[t]? = tm0[t]? := by rw [e3]; exact t1.tm_none fun q hq hqd => hw ⟨q, hq, hqd⟩
      rw [hnone] at hx
      refine h2 (fun q hqT hL hqd => ?_) x hx
      have hne : r.i ≠ q.i := fun e => hnl (e ▸ hL)
      rcases hp.names r.i q.i r.o q.o t hne e2 (hops q hqT) hqd ht with hh | hh
      · have := hat.preds q.i (Array.getElem?_eq_some_iff.1 (hops q hqT)).1 hh
        obtain ⟨q', hq', e⟩ := (hseen q.i).1 this
        have hqT' : q' ∈ T := by rw [hTT]; simp [hq']
        have := same_op (hops q hqT) (hops q' hqT') e
        exact hw ⟨q', hq', by rw [this]; exact hqd⟩
      · exact hnl (hdc q hqT hL _ hh)
  · rw [List.getElem?_eq_none_iff] at hn
    rw [Array.getElem?_eq_none_iff, htm.1]; omega

/-- The temporaries behind one more operation. -/
theorem Temps.put {ρ ρ' : Ren} {L L' : Nat → Prop} {a : Act} {r : Rec} {V : Value} (h : Temps T tm0 ρ L a) (hle : Ren.le ρ ρ') (hr : r ∈ T) (hnl : ¬ L r.i)
    (hL' : ∀ i, L' i ↔ (L i ∨ i = r.i)) (hv : VRel ρ' r.v V) (hp : Plan E ops order) (hops : ∀ q ∈ T, ops[q.i]? = some q.o) (hvs : ∀ q ∈ T, q.i = r.i → q = r) : Temps T tm0 ρ' L' (a.put r.o.dst V) := by
  refine ⟨?_, fun t W hW => ?_⟩
  · rw [← h.1]; cases r.o.dst <;> simp [Act.put]
  · by_cases hd : r.o.dst = some t
    · have hWV : W = V := by
        rw [hd] at hW
        simp only [Act.put] at hW
        rw [Array.getElem?_setIfInBounds, if_pos rfl] at hW
        split at hW
        · injection hW with hW; exact hW.symm
        · cases hW
      subst hWV
      refine ⟨fun q hq hLq hqd => ?_, fun hno => absurd hd (hno r hr ((hL' r.i).2 (.inr rfl)))⟩
      by_cases e : q.i = r.i
      · rw [hvs q hq e]; exact hv
      · exact absurd hqd (hp.single q.i r.i q.o r.o t e (hops q hq) (hops r hr) hd)
    · have hW' : a.tmps[t]? = some W := by
        rw [← hW]
        cases hd' : r.o.dst with
        | none => rfl
        | some d =>
          simp only [Act.put]
          rw [Array.getElem?_setIfInBounds_ne (fun e => hd (by rw [hd', e]))]
      obtain ⟨h1, h2⟩ := h.2 t W hW'
      refine ⟨fun q hq hLq hqd => ?_, fun hno u hu => ?_⟩
      · rcases (hL' q.i).1 hLq with hL | e
        · exact (h1 q hq hL hqd).mono hle
        · rw [hvs q hq e] at hqd; exact absurd hqd hd
      · exact (h2 (fun q hq hL => hno q hq ((hL' q.i).2 (.inl hL))) u hu).mono hle
end
end Go.Ev
