/- Regions whose order is drawn: the trace of a run of the plan. -/
import Derived.Test.YtkomaolfjmgppaaDoorEvP
namespace Go.Ev
open Go
set_option linter.unusedVariables false
set_option linter.unusedSectionVars false
set_option linter.unusedSimpArgs false

theorem or_fold {α : Type} (c : α → Bool) (f g : α → Nat) (j : Nat) : ∀ (l : List α) (s : Nat), (l.foldl (fun s e => if c e then s ||| 2 ^ f e ||| g e else s) s).testBit j = true →
    s.testBit j = true ∨ ∃ e ∈ l, c e = true ∧ (f e = j ∨ (g e).testBit j = true) := by
  intro l
  induction l with
  | nil => intro s h; exact .inl h
  | cons e l ih =>
    intro s h
    rw [List.foldl_cons] at h
    rcases ih _ h with h1 | ⟨e', h1, h2, h3⟩
    · split at h1
      · rename_i hc
        rw [Nat.testBit_or, Nat.testBit_or, Nat.testBit_two_pow] at h1
        simp only [Bool.or_eq_true, decide_eq_true_eq] at h1
        rcases h1 with (h1 | h1) | h1
        · exact .inl h1
        · exact .inr ⟨e, by simp, hc, .inl h1⟩
        · exact .inr ⟨e, by simp, hc, .inr h1⟩
      · exact .inl h1
    · exact .inr ⟨e', by simp [h1], h2, h3⟩

theorem before_inv (L : List Oper) : ∀ (l : List Oper) (acc : Array Nat), L = L.take acc.size ++ l → acc.size ≤ L.length →
    (∀ i j, (acc.getD i 0).testBit j = true → ∃ o, L[i]? = some o ∧ ∃ e ∈ o.after.toList, Region.binds .any e = true ∧ (e.on = j ∨ (acc.getD e.on 0).testBit j = true)) →
    ∀ i j, ((l.foldl (fun acc o => acc.push (o.after.foldl (fun s e => if Region.binds .any e then s ||| 2 ^ e.on ||| acc.getD e.on 0 else s) 0)) acc).getD i 0).testBit j = true →
      ∃ o, L[i]? = some o ∧ ∃ e ∈ o.after.toList, Region.binds .any e = true ∧ (e.on = j ∨
        ((l.foldl (fun acc o => acc.push (o.after.foldl (fun s e => if Region.binds .any e then s ||| 2 ^ e.on ||| acc.getD e.on 0 else s) 0)) acc).getD e.on 0).testBit j = true) := by
  intro l
  induction l with
  | nil => intro acc _ _ h; exact h
  | cons o l ih =>
    intro acc hL hsz h
    simp only [List.foldl_cons]
    have hlen := congrArg List.length hL
    simp only [List.length_append, List.length_take, List.length_cons] at hlen
    have hat : L[acc.size]? = some o := by
      rw [hL, List.getElem?_append_right (by simp; omega)]
      have : acc.size - (List.take acc.size L).length = 0 := by simp; omega
      rw [this]; rfl
    have hget : ∀ (v : Nat) k, k ≠ acc.size → (acc.push v).getD k 0 = acc.getD k 0 := by
      intro v k hk
      simp only [Array.getD_eq_getD_getElem?, Array.getElem?_push]
      rw [if_neg hk]
    have hself : ∀ v : Nat, (acc.push v).getD acc.size 0 = v := by
      intro v
      simp only [Array.getD_eq_getD_getElem?, Array.getElem?_push]
      simp
    have hz : ∀ k, acc.size ≤ k → acc.getD k 0 = 0 := by
      intro k hk
      rw [Array.getD_eq_getD_getElem?, Array.getElem?_eq_none hk]; rfl
    refine ih _ ?_ (by rw [Array.size_push]; omega) ?_
    · rw [Array.size_push]
      have : L.take (acc.size + 1) = L.take acc.size ++ [o] := by rw [List.take_add_one, hat]; rfl
      rw [this, List.append_assoc]
      exact hL
    · intro i j hij
      by_cases e : i = acc.size
      · subst e
        rw [hself] at hij
        rw [← Array.foldl_toList] at hij
        rcases or_fold (fun e => Region.binds .any e) (fun e => e.on) (fun e => acc.getD e.on 0) j _ _ hij with h1 | ⟨e, h1, h2, h3⟩
        · simp at h1
        · refine ⟨o, hat, e, h1, h2, ?_⟩
          rcases h3 with h3 | h3
          · exact .inl h3
          · refine .inr ?_
            rw [hget]
            · exact h3
            · intro hh
              rw [hz _ (by omega)] at h3; simp at h3
      · rw [hget _ _ e] at hij
        obtain ⟨o', h1, e', h2, h3, h4⟩ := h i j hij
        refine ⟨o', h1, e', h2, h3, ?_⟩
        rcases h4 with h4 | h4
        · exact .inl h4
        · refine .inr ?_
          rw [hget]
          · exact h4
          · intro hh
            rw [hz _ (by omega)] at h4; simp at h4

theorem before_spec {ops : Array Oper} {i j : Nat} (h : pb ops i j = true) :
    ∃ o, ops[i]? = some o ∧ ∃ e ∈ o.after.toList, Region.binds .any e = true ∧ (e.on = j ∨ pb ops e.on j = true) := by
  unfold pb Region.before at h ⊢
  rw [← Array.foldl_toList] at h ⊢
  obtain ⟨o, h1, h2⟩ := before_inv ops.toList ops.toList #[] (by simp) (by simp) (fun i j h => by simp at h) i j h
  exact ⟨o, by rw [← Array.getElem?_toList]; exact h1, h2⟩

theorem pb_lt {E : Env} {ops : Array Oper} {order : List (Nat × List Nat)} (hp : Plan E ops order) : ∀ i j, pb ops i j = true → j < i := by
  intro i
  induction i using Nat.strongRecOn with
  | _ i ih =>
    intro j h
    obtain ⟨o, h1, e, h2, h3, h4⟩ := before_spec h
    have hlt := hp.back i o h1 e h2 h3
    rcases h4 with h4 | h4
    · omega
    · have := ih e.on hlt j h4; omega

/-! ### The trace -/
structure Rec where
  i : Nat
  o : Oper
  tm : List Value
  H : AHeap
  w : Bool
  v : Value
  H' : AHeap

def addSeen (E : Env) (i : Nat) (o : Oper) (tm : List Value) (v : Value) (W : List Seen) : List Seen := if isSeen E o.op then ⟨i, o.op, tm, v⟩ :: W else W

inductive Way (E : Env) (call : Caller) (ops : Array Oper) : List (Nat × List Nat) → List Seen → List Value → AHeap → List Rec → List Seen → List Value → AHeap → Prop
  | nil (W : List Seen) (tm : List Value) (H : AHeap) : Way E call ops [] W tm H [] W tm H
  | skip {i : Nat} {ck : List Nat} {rest : List (Nat × List Nat)} {W : List Seen} {tm : List Value} {H : AHeap} {o : Oper} {T : List Rec} {W2 : List Seen} {tm2 : List Value} {H2 : AHeap}
      (ho : ops[i]? = some o) (hw : awant ops o tm = some false) (t : Way E call ops rest W (aputT tm o.dst undef) H T W2 tm2 H2) :
      Way E call ops ((i, ck) :: rest) W tm H (⟨i, o, tm, H, false, undef, H⟩ :: T) W2 tm2 H2
  | step {i : Nat} {ck : List Nat} {rest : List (Nat × List Nat)} {W : List Seen} {tm : List Value} {H : AHeap} {o : Oper} {v : Value} {H' : AHeap} {T : List Rec} {W2 : List Seen} {tm2 : List Value} {H2 : AHeap}
      (ho : ops[i]? = some o) (hw : awant ops o tm = some true) (hs : astep E call o tm H = some (v, H')) (hc : ∀ s ∈ W, s.i ∈ ck → achk E s H H' = true)
      (t : Way E call ops rest (addSeen E i o tm v W) (aputT tm o.dst v) H' T W2 tm2 H2) :
      Way E call ops ((i, ck) :: rest) W tm H (⟨i, o, tm, H, true, v, H'⟩ :: T) W2 tm2 H2

theorem adrawGo_tr {E : Env} {call : Caller} {ops : Array Oper} : ∀ (order : List (Nat × List Nat)) (W : List Seen) (tm : List Value) (H : AHeap) (tm2 : List Value) (H2 : AHeap),
    adrawGo E call ops order W tm H = some (tm2, H2) → ∃ T W2, Way E call ops order W tm H T W2 tm2 H2 := by
  intro order
  induction order with
  | nil =>
    intro W tm H tm2 H2 h
    simp only [adrawGo, Option.some.injEq, Prod.mk.injEq] at h
    obtain ⟨rfl, rfl⟩ := h
    exact ⟨[], W, .nil _ _ _⟩
  | cons p order ih =>
    obtain ⟨i, ck⟩ := p
    intro W tm H tm2 H2 h
    simp only [adrawGo] at h
    split at h
    · cases h
    · rename_i o ho
      split at h
      · cases h
      · rename_i hw
        obtain ⟨T, W2, t⟩ := ih _ _ _ _ _ h
        exact ⟨_, W2, .skip ho hw t⟩
      · rename_i hw
        split at h
        · cases h
        · rename_i v H' hs
          split at h
          · rename_i hall
            have hc : ∀ s ∈ W, s.i ∈ ck → achk E s H H' = true := by
              intro s hs hin
              rw [List.all_eq_true] at hall
              have := hall s hs
              simpa [hin] using this
            split at h
            · rename_i hseen
              obtain ⟨T, W2, t⟩ := ih _ _ _ _ _ h
              exact ⟨_, W2, .step ho hw hs hc (by unfold addSeen; rw [if_pos hseen]; exact t)⟩
            · rename_i hseen
              obtain ⟨T, W2, t⟩ := ih _ _ _ _ _ h
              exact ⟨_, W2, .step ho hw hs hc (by unfold addSeen; rw [if_neg hseen]; exact t)⟩
          · cases h

theorem Way.split {E : Env} {call : Caller} {ops : Array Oper} : ∀ {A C : List Rec} {order : List (Nat × List Nat)} {W : List Seen} {tm : List Value} {H : AHeap} {W2 : List Seen} {tm2 : List Value} {H2 : AHeap},
    Way E call ops order W tm H (A ++ C) W2 tm2 H2 → ∃ o1 o2 W1 tm1 H1, order = o1 ++ o2 ∧ Way E call ops o1 W tm H A W1 tm1 H1 ∧ Way E call ops o2 W1 tm1 H1 C W2 tm2 H2 := by
  intro A
  induction A with
  | nil => intro C order W tm H W2 tm2 H2 t; exact ⟨[], order, W, tm, H, rfl, .nil _ _ _, t⟩
  | cons r A ih =>
    intro C order W tm H W2 tm2 H2 t
    cases t with
    | skip ho hw t =>
      obtain ⟨o1, o2, W1, tm1, H1, rfl, t1, t2⟩ := ih t
      exact ⟨_, o2, W1, tm1, H1, rfl, .skip ho hw t1, t2⟩
    | step ho hw hs hc t =>
      obtain ⟨o1, o2, W1, tm1, H1, rfl, t1, t2⟩ := ih t
      exact ⟨_, o2, W1, tm1, H1, rfl, .step ho hw hs hc t1, t2⟩
theorem Way.join {E : Env} {call : Caller} {ops : Array Oper} {o1 o2 : List (Nat × List Nat)} {A C : List Rec} {W W1 W2 : List Seen} {tm tm1 tm2 : List Value} {H H1 H2 : AHeap}
    (t1 : Way E call ops o1 W tm H A W1 tm1 H1) (t2 : Way E call ops o2 W1 tm1 H1 C W2 tm2 H2) : Way E call ops (o1 ++ o2) W tm H (A ++ C) W2 tm2 H2 := by
  induction t1 with
  | nil => exact t2
  | skip ho hw t ih => exact .skip ho hw (ih t2)
  | step ho hw hs hc t ih => exact .step ho hw hs hc (ih t2)

section facts
variable {E : Env} {call : Caller} {ops : Array Oper} {order : List (Nat × List Nat)} {W W2 : List Seen} {tm tm2 : List Value} {H H2 : AHeap} {T : List Rec}

theorem Way.idx (t : Way E call ops order W tm H T W2 tm2 H2) : T.map (·.i) = order.map (·.1) := by
  induction t with
  | nil => rfl
  | skip ho hw t ih => simp [ih]
  | step ho hw hs hc t ih => simp [ih]
theorem Way.ops_at (t : Way E call ops order W tm H T W2 tm2 H2) : ∀ r ∈ T, ops[r.i]? = some r.o := by
  induction t with
  | nil => simp
  | skip ho hw t ih => intro r hr; rcases List.mem_cons.1 hr with rfl | hr; exact ho; exact ih r hr
  | step ho hw hs hc t ih => intro r hr; rcases List.mem_cons.1 hr with rfl | hr; exact ho; exact ih r hr
theorem length_aputT (tm : List Value) (d : Option Tmp) (v : Value) : (aputT tm d v).length = tm.length := by cases d <;> simp [aputT]
theorem Way.len (t : Way E call ops order W tm H T W2 tm2 H2) : tm2.length = tm.length := by
  induction t with
  | nil => rfl
  | skip ho hw t ih => rw [ih, length_aputT]
  | step ho hw hs hc t ih => rw [ih, length_aputT]
theorem Way.size (hC : SizeOk call) (t : Way E call ops order W tm H T W2 tm2 H2) : H.size ≤ H2.size ∧ ∀ r ∈ T, H.size ≤ r.H.size ∧ r.H.size ≤ r.H'.size ∧ r.H'.size ≤ H2.size := by
  induction t with
  | nil => exact ⟨Nat.le_refl _, by simp⟩
  | skip ho hw t ih =>
    refine ⟨ih.1, fun r hr => ?_⟩
    rcases List.mem_cons.1 hr with rfl | hr
    · exact ⟨Nat.le_refl _, Nat.le_refl _, ih.1⟩
    · exact ih.2 r hr
  | step ho hw hs hc t ih =>
    have h1 := astepE_size hC hs
    refine ⟨Nat.le_trans h1 ih.1, fun r hr => ?_⟩
    rcases List.mem_cons.1 hr with rfl | hr
    · exact ⟨Nat.le_refl _, h1, ih.1⟩
    · have := ih.2 r hr; exact ⟨Nat.le_trans h1 this.1, this.2⟩
theorem aputT_ne {tm : List Value} {d : Option Tmp} {v : Value} {t : Nat} (h : d ≠ some t) : (aputT tm d v)[t]? = tm[t]? := by
  cases d with
  | none => rfl
  | some d => simp only [aputT]; rw [List.getElem?_set_ne (fun e => h (by rw [e]))]
theorem aputT_eq {tm : List Value} {v : Value} {t : Nat} (h : t < tm.length) : (aputT tm (some t) v)[t]? = some v := by simp [aputT, h]
theorem Way.tm_none (t : Way E call ops order W tm H T W2 tm2 H2) {x : Nat} (h : ∀ r ∈ T, r.o.dst ≠ some x) : tm2[x]? = tm[x]? := by
  induction t with
  | nil => rfl
  | skip ho hw t ih =>
    have h0 := h _ (List.mem_cons_self ..)
    rw [ih fun r hr => h r (by simp [hr])]
    exact aputT_ne h0
  | step ho hw hs hc t ih =>
    have h0 := h _ (List.mem_cons_self ..)
    rw [ih fun r hr => h r (by simp [hr])]
    exact aputT_ne h0
theorem Way.tm_some (t : Way E call ops order W tm H T W2 tm2 H2) {x : Nat} (hx : x < tm.length) (h : ∃ r ∈ T, r.o.dst = some x) : ∃ r ∈ T, r.o.dst = some x ∧ tm2[x]? = some r.v := by
  induction t with
  | nil => obtain ⟨r, hr, _⟩ := h; simp at hr
  | @skip i ck rest W tm H o T W2 tm2 H2 ho hw t ih =>
    by_cases hT : ∃ r ∈ T, r.o.dst = some x
    · obtain ⟨r, hr, h1, h2⟩ := ih (by rw [length_aputT]; exact hx) hT
      exact ⟨r, by simp [hr], h1, h2⟩
    · obtain ⟨r, hr, hd⟩ := h
      rcases List.mem_cons.1 hr with rfl | hr
      · refine ⟨_, by simp, hd, ?_⟩
        rw [t.tm_none fun q hq hqd => hT ⟨q, hq, hqd⟩]
        simp only at hd
        rw [hd, aputT_eq hx]
      · exact absurd ⟨r, hr, hd⟩ hT
  | @step i ck rest W tm H o v H' T W2 tm2 H2 ho hw hs hc t ih =>
    by_cases hT : ∃ r ∈ T, r.o.dst = some x
    · obtain ⟨r, hr, h1, h2⟩ := ih (by rw [length_aputT]; exact hx) hT
      exact ⟨r, by simp [hr], h1, h2⟩
    · obtain ⟨r, hr, hd⟩ := h
      rcases List.mem_cons.1 hr with rfl | hr
      · refine ⟨_, by simp, hd, ?_⟩
        rw [t.tm_none fun q hq hqd => hT ⟨q, hq, hqd⟩]
        simp only at hd
        rw [hd, aputT_eq hx]
      · exact absurd ⟨r, hr, hd⟩ hT
theorem addSeen_sub {E : Env} {i : Nat} {o : Oper} {tm : List Value} {v : Value} {W : List Seen} : ∀ s ∈ W, s ∈ addSeen E i o tm v W := by
  intro s hs; unfold addSeen; split
  · simp [hs]
  · exact hs
theorem Way.seen_sub (t : Way E call ops order W tm H T W2 tm2 H2) : ∀ s ∈ W, s ∈ W2 := by
  induction t with
  | nil => exact fun s hs => hs
  | skip ho hw t ih => exact ih
  | step ho hw hs hc t ih => exact fun s hs => ih s (addSeen_sub s hs)
end facts

/-- A record's parts, where it stands. -/
theorem Way.head {E : Env} {call : Caller} {ops : Array Oper} {order : List (Nat × List Nat)} {W W2 : List Seen} {tm tm2 : List Value} {H H2 : AHeap} {r : Rec} {T : List Rec}
    (t : Way E call ops order W tm H (r :: T) W2 tm2 H2) : ∃ ck rest, order = (r.i, ck) :: rest ∧ ops[r.i]? = some r.o ∧ r.tm = tm ∧ r.H = H ∧ awant ops r.o r.tm = some r.w ∧
      ((r.w = false ∧ r.v = undef ∧ r.H' = H ∧ Way E call ops rest W (aputT tm r.o.dst r.v) r.H' T W2 tm2 H2) ∨
       (r.w = true ∧ astep E call r.o tm H = some (r.v, r.H') ∧ (∀ s ∈ W, s.i ∈ ck → achk E s H r.H' = true) ∧
        Way E call ops rest (addSeen E r.i r.o tm r.v W) (aputT tm r.o.dst r.v) r.H' T W2 tm2 H2)) := by
  cases t with
  | skip ho hw t => exact ⟨_, _, rfl, ho, rfl, rfl, hw, .inl ⟨rfl, rfl, rfl, t⟩⟩
  | step ho hw hs hc t => exact ⟨_, _, rfl, ho, rfl, rfl, hw, .inr ⟨rfl, hs, hc, t⟩⟩
end Go.Ev
