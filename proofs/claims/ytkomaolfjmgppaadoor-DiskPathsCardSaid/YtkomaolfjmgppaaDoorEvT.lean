/- Regions whose order is drawn: one step, all steps. -/
import Derived.Test.YtkomaolfjmgppaaDoorEvS
namespace Go.Ev
open Go
set_option linter.unusedVariables false
set_option linter.unusedSectionVars false
set_option linter.unusedSimpArgs false

theorem axop_congr {E : Env} {ev ev' : Operand → Value} {op : Op} (h : ∀ x ∈ op.operands, ev x = ev' x) (H : AHeap) : axop E ev op H = axop E ev' op H := by
  cases op with
  | range t x => simp only [Op.operands] at h; simp only [axop, h x (by simp)]
  | next x s => simp only [Op.operands] at h; simp only [axop, h x (by simp)]
  | entry x => simp only [Op.operands] at h; simp only [axop, h x (by simp)]
  | typeAssert x t u ok => simp only [Op.operands] at h; simp only [axop, h x (by simp)]
  | slice t x lo hi mx =>
    simp only [Op.operands] at h
    have e0 : ev x = ev' x := h x (by simp)
    have e1 : lo.map ev = lo.map ev' := by cases lo with | none => rfl | some y => simp only [Option.map_some]; rw [h y (by simp)]
    have e2 : hi.map ev = hi.map ev' := by cases hi with | none => rfl | some y => simp only [Option.map_some]; rw [h y (by simp)]
    cases mx with
    | none => rfl
    | some y => simp only [axop, e0, e1, e2, h y (by simp)]
  | call c =>
    obtain ⟨callee, as, ts⟩ := c
    have has : ∀ x ∈ as, ev x = ev' x := fun x hx => h x (by simp only [Op.operands, Call.operands]; exact Array.mem_append.2 (.inr hx))
    cases callee with
    | builtin b =>
      cases b <;> first
        | rfl
        | (simp only [axop]
           split
           · rename_i x t h1 h2
             rw [has x (Array.mem_of_getElem? h1)]
           · rfl)
    | _ => rfl
  | _ => rfl
theorem astepE_congr {E : Env} {call : Caller} {ev ev' : Operand → Value} {op : Op} (h : ∀ x ∈ op.operands, ev x = ev' x) (H : AHeap) : astepE E call op ev H = astepE E call op ev' H := by
  unfold astepE
  split
  · rename_i f args ts
    have hf : ev f = ev' f := h f (by simp [Op.operands, Call.operands])
    have hl : args.toList.map ev = args.toList.map ev' := List.map_congr_left fun x hx => h x (by simp only [Op.operands, Call.operands]; exact Array.mem_append.2 (.inr (Array.mem_toList_iff.1 hx)))
    rw [hf, hl]
  · rename_i r m args ts
    have hf : ev r = ev' r := h r (by simp [Op.operands, Call.operands])
    have hl : args.toList.map ev = args.toList.map ev' := List.map_congr_left fun x hx => h x (by simp only [Op.operands, Call.operands]; exact Array.mem_append.2 (.inr (Array.mem_toList_iff.1 hx)))
    rw [hf, hl]
  · split
    · exact axop_congr h H
    · exact aop_congr h H

theorem orderOk_prefix {E : Env} {ops : Array Oper} {b : Array Nat} : ∀ {o1 o2 : List (Nat × List Nat)} {seen : List Nat}, orderOk E ops b seen (o1 ++ o2) = true → orderOk E ops b seen o1 = true := by
  intro o1
  induction o1 with
  | nil => intro o2 seen _; rfl
  | cons p o1 ih =>
    obtain ⟨i, ck⟩ := p
    intro o2 seen h
    simp only [List.cons_append, orderOk, Bool.and_eq_true] at h ⊢
    exact ⟨h.1, ih h.2⟩

/-- The operands that count, the others unknown. -/
def evX (o : Oper) (tm : List Value) : Operand → Value := fun x => if o.op.operands.toList.any (fun y => match x, y with | .tmp s, .tmp t => s == t | .const _, _ => true | .func _, _ => true | _, _ => false) then aev tm x else
  match x with
  | .const v => canon v
  | .func f => .func (.func f) #[] #[]
  | _ => top
theorem evX_eq {o : Oper} {tm : List Value} : ∀ x ∈ o.op.operands, aev tm x = evX o tm x := by
  intro x hx
  unfold evX
  cases x with
  | tmp t =>
    rw [if_pos]
    rw [List.any_eq_true]
    exact ⟨.tmp t, Array.mem_toList_iff.2 hx, by simp⟩
  | const v => split <;> rfl
  | global g => split <;> rfl
  | func f => split <;> rfl

section
variable {E : Env} (hT : E.TOk) {call : Caller} (hC : CallOk E.P call) {ops : Array Oper} {order : List (Nat × List Nat)} (hp : Plan E ops order)
  {T : List Rec} {tm0 : List Value} {H0 : AHeap} {WF : List Seen} {tmF : List Value} {HF : AHeap} (hW : Way E call ops order [] tm0 H0 T WF tmF HF) {ρ0 : Ren} {w0 : World}

theorem evX_rel {r : Rec} {ρ : Ren} {a : Act} (h : ∀ t ∈ r.o.looksAt ops, (∀ x, r.tm[t]? = some x → ∃ y, a.tmps[t]? = some y ∧ VRel ρ x y) ∧ (r.tm[t]? = none → a.tmps[t]? = none)) :
    ∀ x, VRel ρ (evX r.o r.tm x) (a.eval x) := by
  intro x
  unfold evX
  cases x with
  | tmp t =>
    split
    · rename_i hin
      rw [List.any_eq_true] at hin
      obtain ⟨y, hy, hy2⟩ := hin
      cases y with
      | tmp s =>
        have : t = s := by simpa using hy2
        subst this
        have hl : t ∈ r.o.looksAt ops := by
          unfold Oper.looksAt
          refine List.mem_append.2 (.inl ?_)
          rw [List.mem_filterMap]
          exact ⟨.tmp t, hy, rfl⟩
        obtain ⟨h1, h2⟩ := h t hl
        show VRel ρ (r.tm.getD t undef) (a.tmps.getD t undef)
        rw [List.getD_eq_getElem?_getD, Array.getD_eq_getD_getElem?]
        cases hx : r.tm[t]? with
        | none => rw [h2 hx]; exact undef_rel ρ
        | some u => obtain ⟨V, e1, e2⟩ := h1 u hx; rw [e1]; exact e2
      | const v => simp at hy2
      | global g => simp at hy2
      | func f => simp at hy2
    · exact .top _
  | const v => split <;> exact .canon v
  | global g => split <;> exact .top _
  | func f => split <;> exact .func _ _ _ _ _ rfl rfl (fun i x y hx => by simp at hx) (fun i x y hx => by simp at hx)

theorem guard_looks {o : Oper} : ∀ j want t, o.guard = some (j, want) → (ops[j]?).bind (·.dst) = some t → t ∈ o.looksAt ops := by
  intro j want t hg ht
  unfold Oper.looksAt
  refine List.mem_append.2 (.inr ?_)
  rw [hg]
  simp [ht]

include hW hp in
theorem uniq {q r : Rec} (hq : q ∈ T) (hr : r ∈ T) (h : q.i = r.i) : q = r := by
  obtain ⟨A, B, rfl⟩ := List.append_of_mem hr
  obtain ⟨o1, o2, W1, tm1, H1, ho, t1, t2⟩ := hW.split (A := A) (C := r :: B)
  obtain ⟨ck, seen, hseen, hat, _, _, _, hord, rest, e1, hord2⟩ := ahead hp ho t1 t2
  rcases List.mem_append.1 hq with hq | hq
  · exact absurd ((hseen r.i).2 ⟨q, hq, h⟩) hat.new
  · rcases List.mem_cons.1 hq with e | hq
    · exact e
    · exfalso
      obtain ⟨B1, B2, rfl⟩ := List.append_of_mem hq
      have t2' : Way E call ops o2 W1 tm1 H1 ((r :: B1) ++ (q :: B2)) WF tmF HF := t2
      obtain ⟨p1, p2, V1, u1, G1, ho2, s1, s2⟩ := t2'.split
      have ho' : order = (o1 ++ p1) ++ p2 := by rw [ho, ho2, List.append_assoc]
      obtain ⟨ck', seen', hseen', hat', _⟩ := ahead hp ho' (t1.join s1) s2
      exact hat'.new ((hseen' q.i).2 ⟨r, by simp, h.symm⟩)

include hW hp hC in
/-- New blocks of two operations are two. -/
theorem ids_ne {q r : Rec} (hq : q ∈ T) (hr : r ∈ T) (hne : q ≠ r) (hqk : kindOf E q.o.op = .alloc) (hrk : kindOf E r.o.op = .alloc) (hqw : q.w = true) (hrw : r.w = true) {b : Nat}
    (hqb : idOf q.v = some b) : idOf r.v ≠ some b := by
  have hSz : SizeOk call := fun g a H v H' h => (hC g a H v H' h).2.1
  have key : ∀ q ∈ T, kindOf E q.o.op = .alloc → q.w = true → idOf q.v = some q.H.size ∧ q.H'.size = q.H.size + 1 := by
    intro q hq hk hw
    obtain ⟨A, B, e⟩ := List.append_of_mem hq
    have hW' := hW
    rw [e] at hW'
    obtain ⟨o1, o2, W1, tm1, H1, ho, t1, t2⟩ := hW'.split (A := A) (C := q :: B)
    obtain ⟨ck, rest, e1, e2, e3, e4, _, hh⟩ := t2.head
    rcases hh with ⟨h1, _⟩ | ⟨_, hs, _⟩
    · rw [h1] at hw; cases hw
    · have he : isEff E q.o.op = false := eff_false (by rw [hk]; simp)
      rw [astep_aop he] at hs
      obtain ⟨obj, h1, h2⟩ := aop_allocH hk hs
      rw [e4]
      exact ⟨h2, by rw [h1]; simp⟩
  have order2 : ∀ q r : Rec, ∀ A B C : List Rec, T = A ++ q :: (B ++ r :: C) → q.H'.size ≤ r.H.size := by
    intro q r A B C e
    have hW' := hW
    rw [e] at hW'
    obtain ⟨o1, o2, W1, tm1, H1, ho, t1, t2⟩ := hW'.split (A := A) (C := q :: (B ++ r :: C))
    obtain ⟨ck, rest, e1, e2, e3, e4, _, hh⟩ := t2.head
    rcases hh with ⟨_, _, _, t3⟩ | ⟨_, _, _, t3⟩
    · exact ((t3.size hSz).2 r (by simp)).1
    · exact ((t3.size hSz).2 r (by simp)).1
  obtain ⟨k1, k2⟩ := key q hq hqk hqw
  obtain ⟨k3, k4⟩ := key r hr hrk hrw
  intro hrb
  have e1 : q.H.size = b := by rw [k1] at hqb; injection hqb
  have e2 : r.H.size = b := by rw [k3] at hrb; injection hrb
  obtain ⟨A, B, e⟩ := List.append_of_mem hq
  have hr' := hr
  rw [e] at hr'
  rcases List.mem_append.1 hr' with h | h
  · obtain ⟨A1, A2, rfl⟩ := List.append_of_mem h
    have := order2 r q A1 A2 B (by rw [e]; simp)
    omega
  · rcases List.mem_cons.1 h with h | h
    · exact hne h.symm
    · obtain ⟨B1, B2, rfl⟩ := List.append_of_mem h
      have := order2 q r A B1 B2 e
      omega

include hW hp hC hT in
theorem inv_step {L L' : Nat → Prop} {a : Act} {w : World} {A C : List Rec} {o1 o2 : List (Nat × List Nat)} {W1 : List Seen} {tm1 : List Value} {H1 : AHeap} {ρ : Ren}
    (hI : Inv E call ops order T tm0 H0 WF tmF HF ρ0 w0 L a w A C o1 o2 W1 tm1 H1 ρ) (hρ0 : ∀ b, H0.size ≤ b → ρ0 b = none)
    (hdc : ∀ q ∈ T, L q.i → ∀ j, pb ops q.i j = true → L j) {i : Nat} (hi : i < ops.size) (hnl : ¬ L i) (hpre : ∀ j, pb ops i j = true → L j) (hL' : ∀ j, L' j ↔ (L j ∨ j = i))
    {Q : Exit → Act → World → Prop} {K : Act → World → Prop}
    (hK : ∀ a' w' A' C' o1' o2' W1' tm1' H1' ρ', Inv E call ops order T tm0 H0 WF tmF HF ρ0 w0 L' a' w' A' C' o1' o2' W1' tm1' H1' ρ' → K a' w') : wpOp E.P ops Q i K a w := by
  have hops := hW.ops_at
  have hSz : SizeOk call := fun g a H v H' h => (hC g a H v H' h).2.1
  obtain ⟨r, hrT, hri⟩ : ∃ r ∈ T, r.i = i := by
    have := hp.full i hi
    rw [← hW.idx, List.mem_map] at this
    exact this
  subst hri
  have hro := hops r hrT
  have huniq : ∀ q ∈ T, q.i = r.i → q = r := fun q hq e => uniq hp hW hq hrT e
  simp only [wpOp, hro]
  have hmem := hrT
  rw [hI.split] at hmem
  rcases List.mem_append.1 hmem with hrA | hrC
  · -- an operation that needs no further effect
    have hne : isEff E r.o.op = false := by
      cases he : isEff E r.o.op with
      | false => rfl
      | true => exact absurd (hI.effs r hrA he) hnl
    obtain ⟨A1, A2, rfl⟩ := List.append_of_mem hrA
    obtain ⟨p1, p2, V1, u1, G1, hpp, s1, s2⟩ := hI.t1.split (A := A1) (C := r :: A2)
    have ho' : order = p1 ++ (p2 ++ o2) := by rw [hI.osplit, hpp, List.append_assoc]
    have s3 : Way E call ops (p2 ++ o2) V1 u1 G1 (r :: (A2 ++ C)) WF tmF HF := s2.join hI.t2
    have hTT : T = A1 ++ r :: (A2 ++ C) := by rw [hI.split]; simp
    have hopd := fun t (ht : t ∈ r.o.looksAt ops) => operands hp hTT ho' s1 s3 hdc hpre hnl hops hI.temps ht
    obtain ⟨ck, seen, hseen, hat, f3, f4, _, hord, rest, hrest, hord2⟩ := ahead hp ho' s1 s3
    obtain ⟨ck2, rest2, g1, g2, g3, g4, g5, hh⟩ := s2.head
    have hwant := awant_ok' (ρ := ρ) (a := a) (fun j want t hg ht => hopd t (guard_looks j want t hg ht)) g5
    rw [hwant]
    rcases hh with ⟨hw, hv, hH, s4⟩ | ⟨hw, hs, hck, s4⟩
    · rw [if_neg (by rw [hw]; simp)]
      refine hK _ _ (A1 ++ r :: A2) C o1 o2 W1 tm1 H1 ρ ⟨hI.split, hI.osplit, hI.t1, hI.t2, fun q hq he => (hL' q.i).2 (.inl (hI.effs q hq he)), ?_, hI.next, hI.rel, hI.step, ?_, ?_, by rw [put_defers]; exact hI.defers⟩
      · intro q hq hLq
        rcases (hL' q.i).1 hLq with h | h
        · exact hI.rest q hq h
        · have := huniq q (by rw [hI.split]; exact List.mem_append.2 (.inr hq)) h
          subst this; exact hI.rest q hq (by
            exfalso
            obtain ⟨B1, B2, rfl⟩ := List.append_of_mem hq
            have hTT2 : T = (A1 ++ q :: A2 ++ B1) ++ q :: B2 := by rw [hI.split]; simp
            obtain ⟨x1, x2, X1, x3, X2, hx, y1, y2⟩ := (hTT2 ▸ hW : Way E call ops order [] tm0 H0 ((A1 ++ q :: A2 ++ B1) ++ q :: B2) WF tmF HF).split
            obtain ⟨c', s', hs', hat', _⟩ := ahead hp hx y1 y2
            exact hat'.new ((hs' q.i).2 ⟨q, by simp, rfl⟩))
      · intro q hq hk hqw hnq
        exact hI.late q hq hk hqw fun h => hnq ((hL' q.i).2 (.inl h))
      · exact hI.temps.put (Ren.le.refl ρ) hrT hnl hL' (by rw [hv]; exact undef_rel ρ) hp hops huniq
    · rw [if_pos hw]
      have hev := evX_rel (ρ := ρ) (a := a) hopd
      rw [astep_aop hne, ← g3] at hs
      -- what is left to show once it is known what came out
      have done : ∀ V w' ρ', Rel ρ' H1 w' → Step ρ0 H0 w0 ρ' H1 w' → Ren.le ρ ρ' → VRel ρ' r.v V →
          (∀ q ∈ A1 ++ r :: A2, kindOf E q.o.op = .alloc → q.w = true → ¬ L q.i → q ≠ r → ∀ b, idOf q.v = some b → ρ' b = none) → K (a.put r.o.dst V) w' := by
        intro V w' ρ' hR' hS' hle hv hlate
        refine hK _ _ (A1 ++ r :: A2) C o1 o2 W1 tm1 H1 ρ' ⟨hI.split, hI.osplit, hI.t1, hI.t2, fun q hq he => (hL' q.i).2 (.inl (hI.effs q hq he)), ?_, hI.next, hR', hS', ?_, ?_, by rw [put_defers]; exact hI.defers⟩
        · intro q hq hLq
          rcases (hL' q.i).1 hLq with h | h
          · exact hI.rest q hq h
          · have := huniq q (by rw [hI.split]; exact List.mem_append.2 (.inr hq)) h
            subst this
            obtain ⟨B1, B2, rfl⟩ := List.append_of_mem hq
            have hTT2 : T = (A1 ++ q :: A2 ++ B1) ++ q :: B2 := by rw [hI.split]; simp
            obtain ⟨x1, x2, X1, x3, X2, hx, y1, y2⟩ := (hTT2 ▸ hW : Way E call ops order [] tm0 H0 ((A1 ++ q :: A2 ++ B1) ++ q :: B2) WF tmF HF).split
            obtain ⟨c', s', hs', hat', _⟩ := ahead hp hx y1 y2
            exact hat'.new ((hs' q.i).2 ⟨q, by simp, rfl⟩)
        · intro q hq hk hqw hnq
          have hq1 : ¬ L q.i := fun h => hnq ((hL' q.i).2 (.inl h))
          have hq2 : q ≠ r := fun e => hnq ((hL' q.i).2 (.inr (by rw [e])))
          exact hlate q hq hk hqw hq1 hq2
        · exact hI.temps.put hle hrT hnl hL' hv hp hops huniq
      have hpast : ∀ x ∈ A2, isEff E x.o.op = true → pb ops x.i r.i = false := by
        intro x hx he
        cases hb : pb ops x.i r.i with
        | false => rfl
        | true =>
          have hxA : x ∈ A1 ++ r :: A2 := by simp [hx]
          exact absurd (hdc x (by rw [hI.split]; exact List.mem_append.2 (.inl hxA)) (hI.effs x hxA he) _ hb) hnl
      have hord3 : orderOk E ops (Region.before ops) (r.i :: seen) rest2 = true := by
        rw [g1, List.cons_append] at hrest
        injection hrest with _ hrest
        rw [← hrest] at hord2
        exact orderOk_prefix hord2
      refine .inl ?_
      unfold Oper.wp
      cases hk : kindOf E r.o.op with
      | bad => exact absurd hk (hp.good r.i r.o hro)
      | eff => rw [eff_iff.2 hk] at hne; cases hne
      | pure =>
        have h1 := aop_pure hk hs H1
        rw [aop_congr evX_eq] at h1
        obtain ⟨_, V, hrun, hv⟩ := aop_quiet hT hI.rel hev (.inl hk) h1
        rw [hrun, Oper.upon_value]
        exact done V w ρ hI.rel hI.step (Ren.le.refl ρ) hv fun q hq hqk hqw hqn _ => hI.late q hq hqk hqw hqn
      | read =>
        have hsame := aop_sameH (.inr hk) hs
        have h1 := stable_read (hp := hp.good) (s := ⟨r.i, r.o.op, r.tm, r.v⟩) hro rfl hk s4 (r.i :: seen) hord3 (by simp)
          (by unfold addSeen; rw [if_pos (by simp [isSeen, hk]), ← g3]; simp) ⟨r.H', by rw [hsame]; rw [hsame] at hs; exact hs⟩ hpast
        obtain ⟨h2, h1⟩ := h1
        simp only at h1
        rw [aop_congr evX_eq] at h1
        obtain ⟨_, V, hrun, hv⟩ := aop_quiet hT hI.rel hev (.inr hk) h1
        rw [hrun, Oper.upon_value]
        exact done V w ρ hI.rel hI.step (Ren.le.refl ρ) hv fun q hq hqk hqw hqn _ => hI.late q hq hqk hqw hqn
      | alloc =>
        have h0 := hs
        rw [aop_congr evX_eq] at h0
        obtain ⟨obj, anc, hH', hid, hown, rfl, V, w', l, hrun, hmore, hlB, hor, hvr⟩ := aop_alloc hT (w := w) hev hk h0
        have hget : H1.get G1.size = some obj := stable_alloc (hp := hp.good) (s := ⟨r.i, r.o.op, r.tm, r.v⟩) hro rfl hk hid s4 (r.i :: seen) hord3 (by simp)
          (by unfold addSeen; rw [if_pos (by simp [isSeen, hk]), ← g3]; simp) (by rw [hH']; exact AHeap.get_push_eq _ _) hpast
        have hnone : ρ G1.size = none := hI.late r hrA hk hw hnl _ hid
        have hsz := s4.size hSz
        have hlt : G1.size < H1.size := by
          have := hsz.1; rw [hH'] at this; simp at this; omega
        have hge : H0.size ≤ G1.size := (s1.size hSz).1
        rw [hrun, Oper.upon_value]
        have hle : Ren.le ρ (ρ.upd G1.size l) := Ren.upd_le hnone
        refine done V w' (ρ.upd G1.size l) (hI.rel.late hnone hlt hget hown hmore hlB hor) (hI.step.late hnone hge hmore hlB) hle (hvr _ hle (Ren.upd_eq _ _ _)) ?_
        intro q hq hqk hqw hqn hqr b hb
        have hqT : q ∈ T := by rw [hI.split]; exact List.mem_append.2 (.inl hq)
        have hbne : b ≠ G1.size := by
          intro e
          subst e
          exact ids_ne hC hp hW hqT hrT hqr hqk hk hqw hw hb hid
        rw [Ren.upd_ne _ _ hbne]
        exact hI.late q hq hqk hqw hqn b hb
  · -- the next effect
    obtain ⟨x, C', rfl⟩ : ∃ x C', C = x :: C' := by cases C with | nil => simp at hrC | cons x C' => exact ⟨x, C', rfl⟩
    have hxe := hI.next x C' rfl
    have hxT : x ∈ T := by rw [hI.split]; simp
    obtain ⟨ckx, seenx, hseenx, hatx, _, _, hox, hordx, restx, hrestx, hordx2⟩ := ahead hp hI.osplit hI.t1 hI.t2
    have hrx : r = x := by
      rcases List.mem_cons.1 hrC with e | hrC'
      · exact e
      · exfalso
        obtain ⟨B1, B2, rfl⟩ := List.append_of_mem hrC'
        have t2' : Way E call ops o2 W1 tm1 H1 ((x :: B1) ++ (r :: B2)) WF tmF HF := hI.t2
        obtain ⟨p1, p2, V1, u1, G1, ho2, s1, s2⟩ := t2'.split
        have ho' : order = (o1 ++ p1) ++ p2 := by rw [hI.osplit, ho2, List.append_assoc]
        obtain ⟨ck, seen, hseen, hat, _⟩ := ahead hp ho' (hI.t1.join s1) s2
        have hxs : x.i ∈ seen := (hseen x.i).2 ⟨x, by simp, rfl⟩
        have hrxi : r.i ≠ x.i := fun e => hat.new (e ▸ hxs)
        have hpx : pb ops r.i x.i = true := by
          cases he : isEff E r.o.op with
          | false => exact hat.eager he x.i x.o hxs hox hxe
          | true =>
            rcases hp.effs r.i x.i r.o x.o hrxi hro hox he hxe with h | h
            · exact h
            · exfalso
              have := hatx.preds r.i hi h
              obtain ⟨q, hq, e⟩ := (hseenx r.i).1 this
              exact hat.new ((hseen r.i).2 ⟨q, by simp [hq], e⟩)
        exact hI.rest x (by simp) (hpre _ hpx)
    subst hrx
    have hopd := fun t (ht : t ∈ r.o.looksAt ops) => operands hp hI.split hI.osplit hI.t1 hI.t2 hdc hpre hnl hops hI.temps ht
    obtain ⟨ck2, rest2, g1, g2, g3, g4, g5, hh⟩ := hI.t2.head
    have hwant := awant_ok' (ρ := ρ) (a := a) (fun j want t hg ht => hopd t (guard_looks j want t hg ht)) g5
    rw [hwant]
    obtain ⟨Seg, D, hC', hseg, hD⟩ := span_eff (fun x => isEff E x.o.op) C'
    -- the state behind it, once it is known what came out
    have done : ∀ V w' ρ' W3, Way E call ops rest2 W3 (aputT tm1 r.o.dst r.v) r.H' C' WF tmF HF → (Way E call ops [(r.i, ck2)] W1 tm1 H1 [r] W3 (aputT tm1 r.o.dst r.v) r.H') → Rel ρ' r.H' w' → Step ρ H1 w ρ' r.H' w' → VRel ρ' r.v V → K (a.put r.o.dst V) w' := by
      intro V w' ρ' W3 s4 s5 hR' hS' hv
      rw [hC'] at s4
      obtain ⟨q1, q2, W4, tm4, H4, hq, s6, s7⟩ := s4.split
      obtain ⟨x1, x2⟩ := ext_way (hp := hp.good) s6 hseg
      obtain ⟨y1, y2⟩ := hR'.ext x1 x2
      have tA : Way E call ops (o1 ++ ([(r.i, ck2)] ++ q1)) [] tm0 H0 (A ++ ([r] ++ Seg)) W4 tm4 H4 := hI.t1.join (s5.join s6)
      refine hK _ _ (A ++ ([r] ++ Seg)) D (o1 ++ ([(r.i, ck2)] ++ q1)) q2 W4 tm4 H4 ρ' ⟨?_, ?_, tA, s7, ?_, ?_, hD, y1, (hI.step.trans hS').trans y2, ?_, ?_, by rw [put_defers]; exact hI.defers⟩
      · rw [hI.split, hC']; simp
      · rw [hI.osplit, g1, hq]; simp
      · intro q hq he
        rcases List.mem_append.1 hq with h | h
        · exact (hL' q.i).2 (.inl (hI.effs q h he))
        · rcases List.mem_append.1 h with h | h
          · simp at h; subst h; exact (hL' q.i).2 (.inr rfl)
          · rw [hseg q h] at he; cases he
      · intro q hq hLq
        have hqC : q ∈ r :: C' := by rw [hC']; simp [hq]
        rcases (hL' q.i).1 hLq with h | h
        · exact hI.rest q hqC h
        · have hqT : q ∈ T := by rw [hI.split]; exact List.mem_append.2 (.inr hqC)
          have e := huniq q hqT h
          subst e
          -- it would stand twice
          obtain ⟨D1, D2, rfl⟩ := List.append_of_mem hq
          have hTT2 : T = (A ++ ([q] ++ Seg) ++ D1) ++ q :: D2 := by rw [hI.split, hC']; simp
          obtain ⟨z1, z2, Z1, z3, Z2, hz, y3, y4⟩ := (hTT2 ▸ hW : Way E call ops order [] tm0 H0 ((A ++ ([q] ++ Seg) ++ D1) ++ q :: D2) WF tmF HF).split
          obtain ⟨c', s', hs', hat', _⟩ := ahead hp hz y3 y4
          exact hat'.new ((hs' q.i).2 ⟨q, by simp, rfl⟩)
      · intro q hq hk hqw hnq b hb
        have hq1 : ¬ L q.i := fun h => hnq ((hL' q.i).2 (.inl h))
        have hqT : q ∈ T := by
          rw [hI.split, hC']
          rcases List.mem_append.1 hq with h | h
          · simp [h]
          · rcases List.mem_append.1 h with h | h
            · simp at h; simp [h]
            · simp [h]
        rcases List.mem_append.1 hq with h | h
        · have h0 := hI.late q h hk hqw hq1 b hb
          -- it lies below
          have hlt : b < H1.size := by
            obtain ⟨A1, A2, rfl⟩ := List.append_of_mem h
            obtain ⟨p1, p2, V1, u1, G1, hpp, s8, s9⟩ := hI.t1.split (A := A1) (C := q :: A2)
            obtain ⟨_, _, _, _, _, _, _, hh2⟩ := s9.head
            rcases hh2 with ⟨h1, _⟩ | ⟨_, hs2, _, s10⟩
            · rw [h1] at hqw; cases hqw
            · rw [astep_aop (eff_false (by rw [hk]; simp))] at hs2
              obtain ⟨obj, e1, e2⟩ := aop_allocH hk hs2
              have := (s10.size hSz).1
              rw [e1] at this
              simp at this
              rw [e2] at hb
              injection hb with hb
              omega
          rw [hS'.keep b hlt]; exact h0
        · rcases List.mem_append.1 h with h | h
          · simp at h; subst h
            rw [eff_iff.1 hxe] at hk; cases hk
          · obtain ⟨S1, S2, rfl⟩ := List.append_of_mem h
            obtain ⟨p1, p2, V1, u1, G1, hpp, s8, s9⟩ := s6.split (A := S1) (C := q :: S2)
            obtain ⟨_, _, _, _, _, _, _, hh2⟩ := s9.head
            rcases hh2 with ⟨h1, _⟩ | ⟨_, hs2, _, s10⟩
            · rw [h1] at hqw; cases hqw
            · rw [astep_aop (eff_false (by rw [hk]; simp))] at hs2
              obtain ⟨obj, e1, e2⟩ := aop_allocH hk hs2
              have hge := (s8.size hSz).1
              rw [e2] at hb
              injection hb with hb
              cases hx : ρ' b with
              | none => rfl
              | some l => have := (hR'.bd b l hx).1; omega
      · exact hI.temps.put hS'.le hrT hnl hL' hv hp hops huniq
    rcases hh with ⟨hw, hv, hH, s4⟩ | ⟨hw, hs, hck, s4⟩
    · rw [if_neg (by rw [hw]; simp)]
      have hw0 : awant ops r.o tm1 = some false := by rw [← g3, g5, hw]
      have s5 : Way E call ops [(r.i, ck2)] W1 tm1 H1 [r] W1 (aputT tm1 r.o.dst r.v) r.H' := by
        have := Way.skip (E := E) (call := call) (ck := ck2) g2 hw0 (Way.nil W1 (aputT tm1 r.o.dst undef) H1)
        obtain ⟨ri, ro, rtm, rH, rw', rv, rH'⟩ := r
        simp only at hw hv hH g3 g4 this ⊢
        subst hw hv hH g3 g4
        exact this
      exact done undef w ρ W1 s4 s5 (by rw [hH]; exact hI.rel) (by rw [hH]; exact .refl _ _ _) (by rw [hv]; exact undef_rel ρ)
    · rw [if_pos hw]
      have hev := evX_rel (ρ := ρ) (a := a) hopd
      have hw0 : awant ops r.o tm1 = some true := by rw [← g3, g5, hw]
      have s5 : Way E call ops [(r.i, ck2)] W1 tm1 H1 [r] (addSeen E r.i r.o tm1 r.v W1) (aputT tm1 r.o.dst r.v) r.H' := by
        have := Way.step (E := E) (call := call) (ck := ck2) g2 hw0 hs hck (Way.nil (addSeen E r.i r.o tm1 r.v W1) (aputT tm1 r.o.dst r.v) r.H')
        obtain ⟨ri, ro, rtm, rH, rw', rv, rH'⟩ := r
        simp only at hw g3 g4 this ⊢
        subst hw g3 g4
        exact this
      have hs1 : astepE E call r.o.op (evX r.o r.tm) H1 = some (r.v, r.H') := by
        rw [← astepE_congr evX_eq, g3]; exact hs
      refine .inl (astepE_wp hT hC hI.rel hev hs1 fun V w' ρ' h1 h2 h3 => ?_)
      exact done V w' ρ' _ s4 s5 h1 h2 h3
end
end Go.Ev
