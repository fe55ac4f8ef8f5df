/- Code: regions in the text's order, tests, blocks, loops, calls. -/
import Derived.Test.YtkomaolfjmgppaaDoorEvKa
import Derived.LoopN
import Derived.Scope
namespace Go.Ev
open Go
set_option linter.unusedVariables false
set_option linter.unusedSimpArgs false

inductive AX where
  | normal
  | exit (id : Nat)
  | ret

def AX.to : AX → Exit
  | .normal => .normal
  | .exit id => .exit id
  | .ret => .ret

def aev (tm : List Value) : Operand → Value
  | .tmp t => tm.getD t undef
  | .const v => canon v
  | .global _ => top
  | .func f => .func (.func f) #[] #[]

/-- Is a guarded operation wanted? -/
def awant (ops : Array Oper) (o : Oper) (tm : List Value) : Option Bool :=
  match o.guard with
  | none => some true
  | some (j, want) =>
    match (ops[j]?).bind (·.dst) with
    | none => some false
    | some t =>
      match tm[t]? with
      | some (.bool b) => some (b == want)
      | some (.tuple _) => some false
      | none => some false
      | _ => none
def aputT (tm : List Value) (dst : Option Tmp) (v : Value) : List Value :=
  match dst with
  | some d => tm.set d v
  | none => tm

abbrev Caller := FuncId → List Value → AHeap → Option (Value × AHeap)

/-- A function without a body is the model's own entry. -/
def acall (E : Env) (call : Caller) : Caller := fun g args H =>
  match E.ext g with
  | some k => extRun E k g args H
  | none => call g args H
def astepE (E : Env) (call : Caller) (op : Op) (ev : Operand → Value) (H : AHeap) : Option (Value × AHeap) :=
  match op with
  | .call ⟨.value f, args, _⟩ =>
    match ev f with
    | .func (.func g) first captured => acall E call g (first.toList ++ (args.toList.map ev ++ captured.toList)) H
    | _ => none
  | .call ⟨.invoke r m, args, _⟩ =>
    match ev r with
    | .iface t v =>
      match ameth E t m with
      | some g => acall E call g (v :: args.toList.map ev) H
      | none => none
    | _ => none
  | op => match isX op with | true => axop E ev op H | false => aop E ev op H
def astep (E : Env) (call : Caller) (o : Oper) (tm : List Value) (H : AHeap) : Option (Value × AHeap) := astepE E call o.op (aev tm) H

def aops (E : Env) (call : Caller) (ops : Array Oper) : List Oper → List Value → AHeap → Option (List Value × AHeap)
  | [], tm, H => some (tm, H)
  | o :: rest, tm, H =>
    match awant ops o tm with
    | some true =>
      match astep E call o tm H with
      | some (v, H') => aops E call ops rest (aputT tm o.dst v) H'
      | none => none
    | some false => aops E call ops rest (aputT tm o.dst undef) H
    | none => none

def aloop (body : List Value → AHeap → Option (AX × List Value × AHeap)) : Nat → List Value → AHeap → Option (AX × List Value × AHeap)
  | 0, _, _ => none
  | n + 1, tm, H =>
    match body tm H with
    | some (.normal, tm', H') => aloop body n tm' H'
    | r => r

def acode (E : Env) (call : Caller) (draw : Nat → Array Oper → List Value → AHeap → Option (List Value × AHeap)) (n : Nat) :
    Code → List Value → AHeap → Option (AX × List Value × AHeap)
  | .skip, tm, H => some (.normal, tm, H)
  | .label _, tm, H => some (.normal, tm, H)
  | .region id ops d, tm, H =>
    match (match d with | true => draw id ops tm H | false => aops E call ops ops.toList tm H) with
    | some (tm', H') => some (.normal, tm', H')
    | none => none
  | .seq a b, tm, H =>
    match acode E call draw n a tm H with
    | some (.normal, tm', H') => acode E call draw n b tm' H'
    | r => r
  | .cond c a b, tm, H =>
    match aev tm c with
    | .bool t => (match t with | true => acode E call draw n a tm H | false => acode E call draw n b tm H)
    | _ => none
  | .block id c, tm, H =>
    match acode E call draw n c tm H with
    | some (.exit i, tm', H') => if i = id then some (.normal, tm', H') else some (.exit i, tm', H')
    | r => r
  | .loop c, tm, H => aloop (acode E call draw n c) n tm H
  | .scope c, tm, H => acode E call draw n c tm H
  | .exit id, tm, H => some (.exit id, tm, H)
  | .ret, tm, H => some (.ret, tm, H)
  | _, _, _ => none

def aresult (E : Env) (tm : List Value) (H : AHeap) : List ResultVar → Option (List Value)
  | [] => some []
  | .tmp t :: l =>
    match aresult E tm H l with
    | some vs => some (tm.getD t undef :: vs)
    | none => none
  | .cell a t :: l =>
    match aload E t (tm.getD a undef) H, aresult E tm H l with
    | some v, some vs => some (v :: vs)
    | _, _ => none
def apack : List Value → Value
  | [v] => v
  | vs => .tuple ⟨vs⟩

/-- How a drawn region is told: by the function that it stands in, its number, its operations. -/
abbrev Drawer := Caller → FuncId → Nat → Array Oper → List Value → AHeap → Option (List Value × AHeap)

def evalF (E : Env) (D : Drawer) : Nat → Caller
  | 0, _, _, _ => none
  | k + 1, f, args, H =>
    match E.summ f with
    | some g => (match (g args H).get with | some (true, v, H') => some (v, H') | _ => none)
    | none =>
      match E.fn f with
      | some F =>
        match F.body with
        | some c =>
          match acode E (evalF E D k) (D (evalF E D k) f) k c (args ++ List.replicate (F.ntmps - args.length) undef) H with
          | some (.normal, tm, H') | some (.ret, tm, H') =>
            match aresult E tm H' F.results.toList with
            | some vs => some (apack vs, H')
            | none => none
          | _ => none
        | none => none
      | none => none

/-! ### Soundness -/
/-! ### The heap only grows -/
theorem wr_size {H H' : AHeap} {b o : Nat} {vs : List Value} (h : wr H b o vs = some H') : H'.size = H.size := by
  unfold wr at h
  split at h
  · split at h
    · injection h with h; subst h; simp
    · cases h
  · cases h
theorem astore_size {E : Env} {t : TypeId} {a v : Value} {H H' : AHeap} (h : astore E t a v H = some H') : H'.size = H.size := by
  unfold astore at h
  split at h
  · split at h
    · split at h
      · split at h
        · exact wr_size h
        · cases h
      · cases h
    · cases h
  · cases h
theorem anew_size {v x : Value} {H H' : AHeap} (h : anew v H = some (x, H')) : H.size ≤ H'.size := by
  unfold anew at h
  split at h
  · simp only [Option.some.injEq, Prod.mk.injEq] at h; obtain ⟨_, rfl⟩ := h; simp
  · cases h
theorem aupdate_size {E : Env} {t : TypeId} {x k v : Value} {H H' : AHeap} (h : aupdate E t x k v H = some H') : H'.size = H.size := by
  unfold aupdate at h
  split at h
  · split at h
    · split at h
      · split at h
        · split at h
          · injection h with h; subst h; rfl
          · injection h with h; subst h; rfl
          · cases h
        · cases h
      · cases h
    · cases h
  · cases h
theorem adelete_size {E : Env} {t : TypeId} {x k : Value} {H H' : AHeap} (h : adelete E t x k H = some H') : H'.size = H.size := by
  unfold adelete at h
  repeat' split at h
  all_goals first
    | (cases h; done)
    | (injection h with h; subst h; rfl)
theorem aappend_size {E : Env} {st xt : TypeId} {s x v : Value} {H H' : AHeap} (h : aappend E st xt s x H = some (v, H')) : H.size ≤ H'.size := by
  unfold aappend at h
  repeat' split at h
  all_goals first
    | (cases h; done)
    | (simp only [Option.some.injEq, Prod.mk.injEq] at h; have h2 := h.2; clear h; subst h2; first
        | exact Nat.le_refl _
        | (simp; done)
        | (rename_i hw; rw [wr_size hw]; exact Nat.le_refl _)
        | (simp only [AHeap.size_push, size_taken]; omega))
theorem acopy_size {E : Env} {st : TypeId} {s x v : Value} {H H' : AHeap} (h : acopy E st s x H = some (v, H')) : H.size ≤ H'.size := by
  unfold acopy at h
  repeat' split at h
  all_goals first
    | (cases h; done)
    | (simp only [Option.some.injEq, Prod.mk.injEq] at h; have h2 := h.2; clear h; subst h2; first
        | exact Nat.le_refl _
        | (rename_i hw; rw [wr_size hw]; exact Nat.le_refl _))
theorem aconv_size {E : Env} {s d : TypeId} {x v : Value} {H H' : AHeap} (h : aconv E s d x H = some (v, H')) : H.size ≤ H'.size := by
  unfold aconv at h
  repeat' split at h
  all_goals first
    | (cases h; done)
    | (simp only [Option.some.injEq, Prod.mk.injEq] at h; have h2 := h.2; clear h; subst h2; first
        | exact Nat.le_refl _
        | (simp; done))
theorem abuildSlice_size {E : Env} {t : TypeId} {n : Nat} {ps : List (Nat × Value)} {v : Value} {H H' : AHeap} (h : abuildSlice E t n ps H = some (v, H')) : H.size ≤ H'.size := by
  unfold abuildSlice at h
  repeat' split at h
  all_goals first
    | (cases h; done)
    | (simp only [Option.some.injEq, Prod.mk.injEq] at h; obtain ⟨_, rfl⟩ := h; simp)
theorem amakeSlice_size {E : Env} {t : TypeId} {l c v : Value} {H H' : AHeap} (h : amakeSlice E t l c H = some (v, H')) : H.size ≤ H'.size := by
  unfold amakeSlice at h
  repeat' split at h
  all_goals first
    | (cases h; done)
    | (simp only [Option.some.injEq, Prod.mk.injEq] at h; obtain ⟨_, rfl⟩ := h; simp)
theorem aop_size {E : Env} {ev : Operand → Value} {op : Op} {v : Value} {H H' : AHeap} (h : aop E ev op H = some (v, H')) : H.size ≤ H'.size := by
  unfold aop at h
  split at h
  all_goals first
    | (simp only [Option.some.injEq, Prod.mk.injEq] at h; obtain ⟨_, rfl⟩ := h; exact Nat.le_refl _)
    | (simp only [Option.some.injEq, Prod.mk.injEq] at h; obtain ⟨_, rfl⟩ := h; simp; done)
    | exact anew_size h
    | exact abuildSlice_size h
    | exact aconv_size h
    | exact amakeSlice_size h
    | (cases h; done)
    | (split at h
       all_goals first
         | (cases h; done)
         | (simp only [Option.some.injEq, Prod.mk.injEq] at h; have h2 := h.2; clear h; subst h2; first
             | exact Nat.le_refl _
             | (rename_i hw; rw [astore_size hw]; exact Nat.le_refl _)
             | (rename_i hw; rw [aupdate_size hw]; exact Nat.le_refl _))
         | exact anew_size h
         | exact aappend_size h
         | exact acopy_size h
         | (split at h
            all_goals first
              | (cases h; done)
              | (simp only [Option.some.injEq, Prod.mk.injEq] at h; have h2 := h.2; clear h; subst h2; first
                  | exact Nat.le_refl _
                  | (rename_i hw; rw [adelete_size hw]; exact Nat.le_refl _))))
def SizeOk (call : Caller) : Prop := ∀ g args H v H', call g args H = some (v, H') → H.size ≤ H'.size
theorem astepE_size {E : Env} {call : Caller} (hC : SizeOk call) {op : Op} {ev : Operand → Value} {v : Value} {H H' : AHeap} (h : astepE E call op ev H = some (v, H')) : H.size ≤ H'.size := by
  have hA : SizeOk (acall E call) := by
    intro g args H v H' h
    unfold acall at h
    split at h
    · exact extRun_size h
    · exact hC _ _ _ _ _ h
  unfold astepE at h
  split at h
  · split at h
    · exact hA _ _ _ _ _ h
    · cases h
  · split at h
    · split at h
      · exact hA _ _ _ _ _ h
      · cases h
    · cases h
  · split at h
    · exact axop_size h
    · exact aop_size h
theorem aops_size {E : Env} {call : Caller} (hC : SizeOk call) {ops : Array Oper} : ∀ (os : List Oper) (tm tm' : List Value) (H H' : AHeap), aops E call ops os tm H = some (tm', H') → H.size ≤ H'.size := by
  intro os
  induction os with
  | nil => intro tm tm' H H' h; simp only [aops, Option.some.injEq, Prod.mk.injEq] at h; obtain ⟨_, rfl⟩ := h; exact Nat.le_refl _
  | cons o os ih =>
    intro tm tm' H H' h
    simp only [aops] at h
    split at h
    · split at h
      · rename_i v H1 hs
        exact Nat.le_trans (astepE_size hC hs) (ih _ _ _ _ h)
      · cases h
    · exact ih _ _ _ _ h
    · cases h
theorem acode_size {E : Env} {call : Caller} (hC : SizeOk call) {draw : Nat → Array Oper → List Value → AHeap → Option (List Value × AHeap)}
    (hD : ∀ id ops tm H tm' H', draw id ops tm H = some (tm', H') → H.size ≤ H'.size) (n : Nat) :
    ∀ (c : Code) (tm : List Value) (H : AHeap) (x : AX) (tm' : List Value) (H' : AHeap), acode E call draw n c tm H = some (x, tm', H') → H.size ≤ H'.size := by
  intro c
  induction c with
  | skip => intro tm H x tm' H' h; simp only [acode, Option.some.injEq, Prod.mk.injEq] at h; obtain ⟨_, _, rfl⟩ := h; exact Nat.le_refl _
  | label l => intro tm H x tm' H' h; simp only [acode, Option.some.injEq, Prod.mk.injEq] at h; obtain ⟨_, _, rfl⟩ := h; exact Nat.le_refl _
  | exit id => intro tm H x tm' H' h; simp only [acode, Option.some.injEq, Prod.mk.injEq] at h; obtain ⟨_, _, rfl⟩ := h; exact Nat.le_refl _
  | ret => intro tm H x tm' H' h; simp only [acode, Option.some.injEq, Prod.mk.injEq] at h; obtain ⟨_, _, rfl⟩ := h; exact Nat.le_refl _
  | goto l => intro tm H x tm' H' h; simp [acode] at h
  | refuse s => intro tm H x tm' H' h; simp [acode] at h
  | rangeFunc f ps p q ih1 ih2 => intro tm H x tm' H' h; simp [acode] at h
  | region id ops d =>
    intro tm H x tm' H' h
    simp only [acode] at h
    split at h
    · rename_i tm1 H1 hs
      simp only [Option.some.injEq, Prod.mk.injEq] at h
      obtain ⟨_, _, rfl⟩ := h
      cases d with
      | true => exact hD _ _ _ _ _ _ hs
      | false => exact aops_size hC _ _ _ _ _ hs
    · cases h
  | seq p q ih1 ih2 =>
    intro tm H x tm' H' h
    simp only [acode] at h
    split at h
    · rename_i tm1 H1 hs
      exact Nat.le_trans (ih1 _ _ _ _ _ hs) (ih2 _ _ _ _ _ h)
    · exact ih1 _ _ _ _ _ h
  | cond c p q ih1 ih2 =>
    intro tm H x tm' H' h
    simp only [acode] at h
    split at h
    · rename_i t hb
      cases t with
      | true => exact ih1 _ _ _ _ _ h
      | false => exact ih2 _ _ _ _ _ h
    · cases h
  | block id c ih =>
    intro tm H x tm' H' h
    simp only [acode] at h
    split at h
    · rename_i i tm1 H1 hs
      split at h
      · simp only [Option.some.injEq, Prod.mk.injEq] at h; obtain ⟨_, _, rfl⟩ := h; exact ih _ _ _ _ _ hs
      · simp only [Option.some.injEq, Prod.mk.injEq] at h; obtain ⟨_, _, rfl⟩ := h; exact ih _ _ _ _ _ hs
    · exact ih _ _ _ _ _ h
  | scope c ih => intro tm H x tm' H' h; simp only [acode] at h; exact ih _ _ _ _ _ h
  | loop c ih =>
    intro tm H x tm' H' h
    simp only [acode] at h
    have key : ∀ m tm H, aloop (acode E call draw n c) m tm H = some (x, tm', H') → H.size ≤ H'.size := by
      intro m
      induction m with
      | zero => intro tm H h; simp [aloop] at h
      | succ m ihm =>
        intro tm H h
        simp only [aloop] at h
        split at h
        · rename_i tm1 H1 hs
          exact Nat.le_trans (ih _ _ _ _ _ hs) (ihm _ _ h)
        · exact ih _ _ _ _ _ h
    exact key n tm H h

/-- What a function comes to, wherever its arguments lie. -/
def Post (ρ : Ren) (H : AHeap) (w : World) (v : Value) (H' : AHeap) : Ending → World → Prop := fun e w' =>
  ∃ V ρ', e = .returned V ∧ Rel ρ' H' w' ∧ Step ρ H w ρ' H' w' ∧ VRel ρ' v V
def CallOk (P : Program) (call : Caller) : Prop := ∀ g args H v H', call g args H = some (v, H') →
  (∃ F, P.funcs[g]? = some F ∧ F.body.isSome = true ∧ F.name ≠ "runtime.NumGoroutine") ∧ H.size ≤ H'.size ∧
  ∀ ρ w (cargs : Array Value), Rel ρ H w → LRel ρ args cargs.toList → Calls P g cargs w (Post ρ H w v H')

theorem aev_rel {ρ : Ren} {tm : List Value} {a : Act} (h : LRel ρ tm a.tmps.toList) (x : Operand) : VRel ρ (aev tm x) (a.eval x) := by
  cases x with
  | tmp t =>
    have h1 : VRel ρ (tm.getD t undef) (a.tmps.toList.getD t undef) := h.getD t (undef_rel ρ)
    have h2 : a.tmps.toList.getD t undef = a.tmps.getD t undef := by
      rw [List.getD_eq_getElem?_getD, Array.getElem?_toList, Array.getD_eq_getD_getElem?]
    rw [h2] at h1
    exact h1
  | const v => exact .canon v
  | global g => exact .top _
  | func f => exact .func _ _ _ _ _ rfl rfl (fun i x y hx => by simp at hx) (fun i x y hx => by simp at hx)

theorem aputT_rel {ρ : Ren} {tm : List Value} {a : Act} (h : LRel ρ tm a.tmps.toList) (dst : Option Tmp) {v V : Value} (hv : VRel ρ v V) : LRel ρ (aputT tm dst v) (a.put dst V).tmps.toList := by
  cases dst with
  | none => exact h
  | some d =>
    simp only [aputT, Act.put, Array.toList_setIfInBounds]
    exact h.set d hv
theorem put_defers (a : Act) (dst : Option Tmp) (V : Value) : (a.put dst V).defers = a.defers := by cases dst <;> rfl

theorem awant_ok' {ρ : Ren} {tm : List Value} {a : Act} {ops : Array Oper} {o : Oper}
    (h : ∀ j want t, o.guard = some (j, want) → (ops[j]?).bind (·.dst) = some t → (∀ x, tm[t]? = some x → ∃ y, a.tmps[t]? = some y ∧ VRel ρ x y) ∧ (tm[t]? = none → a.tmps[t]? = none))
    {b : Bool} (hw : awant ops o tm = some b) : Region.wanted o (yielded ops a.tmps) = b := by
  unfold awant at hw
  unfold Region.wanted
  split at hw
  · rename_i hg
    injection hw with hw; subst hw
    simp [hg]
  · rename_i j want hg
    simp only [hg, yielded]
    split at hw
    · rename_i hn
      injection hw with hw; subst hw
      simp [hn]
    · rename_i t ht
      rw [ht]
      simp only [Option.bind_some]
      obtain ⟨hget, hnone⟩ := h j want t hg ht
      split at hw
      · rename_i c hc
        injection hw with hw; subst hw
        obtain ⟨y, h1, h2⟩ := hget _ hc
        rw [h1, h2.bool_inv]
        cases c <;> cases want <;> rfl
      · rename_i c hc
        injection hw with hw; subst hw
        obtain ⟨y, h1, h2⟩ := hget _ hc
        obtain ⟨ys, rfl, _⟩ := h2.tuple_inv
        rw [h1]
        cases want <;> rfl
      · rename_i hc
        injection hw with hw; subst hw
        rw [hnone hc]
        cases want <;> rfl
      · cases hw

theorem awant_ok {ρ : Ren} {tm : List Value} {a : Act} (h : LRel ρ tm a.tmps.toList) {ops : Array Oper} {o : Oper} {b : Bool} (hw : awant ops o tm = some b) :
    Region.wanted o (yielded ops a.tmps) = b := by
  refine awant_ok' (ρ := ρ) (a := a) (fun j want t _ _ => ⟨fun x hx => ?_, fun hc => ?_⟩) hw
  · have hlt : t < a.tmps.toList.length := by rw [← h.1]; exact (List.getElem?_eq_some_iff.1 hx).1
    exact ⟨a.tmps.toList[t], by rw [← Array.getElem?_toList, List.getElem?_eq_getElem hlt], h.2 t x _ hx (List.getElem?_eq_getElem hlt)⟩
  · rw [← Array.getElem?_toList]
    simp only [List.getElem?_eq_none_iff] at hc ⊢
    rw [← h.1]; exact hc

theorem acall_wp {E : Env} (hT : E.TOk) {call : Caller} (hC : CallOk E.P call) {ρ : Ren} {H H' : AHeap} {w : World} (hR : Rel ρ H w) {a : Act} {g : FuncId} {args : List Value} {cargs : Array Value}
    (hargs : LRel ρ args cargs.toList) {o : Oper} {v : Value} (h : acall E call g args H = some (v, H')) (hx : (execOp a.eval o).run E.P w = (callFunc g cargs).run E.P w) {next : Act → World → Prop} {Q : Exit → Act → World → Prop}
    (hn : ∀ V w' ρ', Rel ρ' H' w' → Step ρ H w ρ' H' w' → VRel ρ' v V → next (a.put o.dst V) w') : o.wp E.P a w next Q := by
  unfold acall at h
  split at h
  · rename_i k hk
    obtain ⟨V, w', ρ', h0, h1, h2, h3⟩ := extRun_ok hT hk hR hargs h
    unfold Oper.wp
    rw [hx, h0, Oper.upon_value]
    exact hn _ _ _ h1 h2 h3
  · obtain ⟨⟨F, hF1, hF2, hF3⟩, _, hcall⟩ := hC _ _ _ _ _ h
    have hrun : (execOp a.eval o).run E.P w = .ok (.enter g cargs) w := by
      rw [hx]
      simp only [callFunc, Sem.run_bind, run_program, Result.andThen_ok, hF1]
      rw [Sem.run_ite, if_neg (by simpa using hF3), Sem.run_ite, if_neg (by cases hb : F.body <;> simp_all)]
      rfl
    unfold Oper.wp
    rw [hrun, Oper.upon_enter]
    refine (hcall ρ w _ hR hargs).mono ?_
    rintro e w' ⟨V, ρ', rfl, h1, h2, h3⟩
    exact hn _ _ _ h1 h2 h3

theorem astepE_wp {E : Env} (hT : E.TOk) {call : Caller} (hC : CallOk E.P call) {ρ : Ren} {H H' : AHeap} {w : World} (hR : Rel ρ H w) {a : Act} {ev : Operand → Value}
    (hev : ∀ x, VRel ρ (ev x) (a.eval x)) {o : Oper} {v : Value} (h : astepE E call o.op ev H = some (v, H')) {next : Act → World → Prop} {Q : Exit → Act → World → Prop}
    (hn : ∀ V w' ρ', Rel ρ' H' w' → Step ρ H w ρ' H' w' → VRel ρ' v V → next (a.put o.dst V) w') : o.wp E.P a w next Q := by
  have hop : OpRun E.P ρ H w (execOp a.eval o) v H' → o.wp E.P a w next Q := by
    rintro ⟨V, w', ρ', hr, h1, h2, h3⟩
    unfold Oper.wp
    rcases hr with hr | ⟨hr, rfl⟩
    · rw [hr, Oper.upon_value]; exact hn _ _ _ h1 h2 h3
    · rw [hr, Oper.upon_skip]; exact hn _ _ _ h1 h2 h3
  unfold astepE at h
  split at h
  · rename_i f args ts ho
    split at h
    · rename_i g first captured hf
      have hfv := hev f
      rw [hf] at hfv
      have hinv : ∃ gs ds, a.eval f = .func (.func g) gs ds ∧ LRel ρ first.toList gs.toList ∧ LRel ρ captured.toList ds.toList := by
        generalize a.eval f = X at hfv
        cases hfv with
        | func _ _ gs _ ds hfs hcs h1 h2 =>
          exact ⟨gs, ds, rfl, ⟨by simpa using hfs, fun i x y hx hy => h1 i x y (by simpa using hx) (by simpa using hy)⟩,
            ⟨by simpa using hcs, fun i x y hx hy => h2 i x y (by simpa using hx) (by simpa using hy)⟩⟩
      obtain ⟨gs, ds, hX, hg1, hg2⟩ := hinv
      have hargs : LRel ρ (first.toList ++ (args.toList.map ev ++ captured.toList)) ((gs ++ args.map a.eval) ++ ds).toList := by
        rw [Array.toList_append, Array.toList_append, List.append_assoc, Array.toList_map]
        exact hg1.append ((LRel.mapv hev args.toList).append hg2)
      refine acall_wp hT hC hR hargs h ?_ hn
      obtain ⟨dst, op, ty, pos, after, guard⟩ := o
      simp only at ho
      subst ho
      simp only [execOp, resolve, hX, Deferred.ofValue, Sem.run_bind, Sem.run_pure, Result.andThen_ok, invoke]
    · cases h
  · rename_i r m args ts ho
    split at h
    · rename_i t v hr
      split at h
      · rename_i g hg
        have hrv := hev r
        rw [hr] at hrv
        obtain ⟨V, hX, hV⟩ := hrv.iface_inv
        have hargs : LRel ρ (v :: args.toList.map ev) (#[V] ++ args.map a.eval).toList := by
          rw [Array.toList_append, Array.toList_map]
          exact .cons hV (LRel.mapv hev args.toList)
        refine acall_wp hT hC hR hargs h ?_ hn
        obtain ⟨dst, op, ty, pos, after, guard⟩ := o
        simp only at ho
        subst ho
        have ex : (#[Value.iface t V] ++ args.map a.eval)[0]? = some (Value.iface t V) := by rw [Array.getElem?_append]; rfl
        have ey : (#[Value.iface t V] ++ args.map a.eval).extract 1 (#[Value.iface t V] ++ args.map a.eval).size = args.map a.eval := by
          apply Array.ext'
          simp only [Array.toList_extract, Array.toList_append, Array.toList_map, Array.size_append, Array.size_map, List.extract_eq_take_drop]
          show List.take (1 + args.size - 1) (List.map a.eval args.toList) = _
          rw [List.take_of_length_le (by simp)]
        simp only [execOp, resolve, hX, Sem.run_bind, Sem.run_pure, Result.andThen_ok, invoke, ex, callMethod, run_program, ameth_ok hT hg, ey]
      · cases h
    · cases h
  · split at h
    · exact hop (axop_ok hT hR hev h)
    · exact hop (aop_ok hT hR hev h)

theorem astep_wp {E : Env} (hT : E.TOk) {call : Caller} (hC : CallOk E.P call) {ρ : Ren} {H H' : AHeap} {w : World} (hR : Rel ρ H w) {a : Act} {tm : List Value} (ht : LRel ρ tm a.tmps.toList)
    {o : Oper} {v : Value} (h : astep E call o tm H = some (v, H')) {next : Act → World → Prop} {Q : Exit → Act → World → Prop}
    (hn : ∀ V w' ρ', Rel ρ' H' w' → Step ρ H w ρ' H' w' → VRel ρ' v V → next (a.put o.dst V) w') : o.wp E.P a w next Q :=
  astepE_wp hT hC hR (aev_rel ht) h hn

/-- The state behind a piece of code. -/
def Behind (ρ : Ren) (H : AHeap) (w : World) (x : AX) (tm' : List Value) (H' : AHeap) : Exit → Act → World → Prop := fun e a' w' =>
  ∃ ρ', e = x.to ∧ Rel ρ' H' w' ∧ Step ρ H w ρ' H' w' ∧ LRel ρ' tm' a'.tmps.toList ∧ a'.defers = []

theorem aops_wp {E : Env} (hT : E.TOk) {call : Caller} (hC : CallOk E.P call) {ops : Array Oper} : ∀ (os : List Oper) (l : List Nat), l.map (ops[·]?) = os.map some →
    ∀ (ρ : Ren) (H H' : AHeap) (w : World) (a : Act) (tm tm' : List Value), Rel ρ H w → LRel ρ tm a.tmps.toList → a.defers = [] → aops E call ops os tm H = some (tm', H') →
      ∀ Q : Exit → Act → World → Prop, (∀ a' w', Behind ρ H w .normal tm' H' .normal a' w' → Q .normal a' w') → wpOps E.P ops Q l a w := by
  intro os
  induction os with
  | nil =>
    intro l hl ρ H H' w a tm tm' hR ht hd h Q hQ
    have : l = [] := by cases l <;> simp_all
    subst this
    simp only [aops, Option.some.injEq, Prod.mk.injEq] at h
    obtain ⟨rfl, rfl⟩ := h
    exact hQ _ _ ⟨ρ, rfl, hR, .refl _ _ _, ht, hd⟩
  | cons o os ih =>
    intro l hl ρ H H' w a tm tm' hR ht hd h Q hQ
    cases l with
    | nil => simp at hl
    | cons i l =>
      simp only [List.map_cons, List.cons.injEq] at hl
      simp only [aops] at h
      simp only [wpOps, hl.1]
      split at h
      · rename_i hw
        rw [if_pos (awant_ok ht hw)]
        split at h
        · rename_i v H1 hs
          refine .inl (astep_wp hT hC hR ht hs fun V w' ρ' h1 h2 h3 => ?_)
          refine ih l hl.2 ρ' H1 H' w' _ _ tm' h1 (aputT_rel (ht.mono h2.le) _ h3) (by rw [put_defers]; exact hd) h Q ?_
          rintro a' w'' ⟨ρ'', e, k1, k2, k3, k4⟩
          exact hQ _ _ ⟨ρ'', e, k1, h2.trans k2, k3, k4⟩
        · cases h
      · rename_i hw
        rw [if_neg (by rw [awant_ok ht hw]; simp)]
        exact ih l hl.2 ρ H H' w _ _ tm' hR (aputT_rel ht _ (undef_rel ρ)) (by rw [put_defers]; exact hd) h Q hQ
      · cases h

/-- Do all drawn regions of a piece of code meet a test? -/
def allDraw (ok : Nat → Array Oper → Bool) : Code → Bool
  | .region id ops true => ok id ops
  | .seq a b => allDraw ok a && allDraw ok b
  | .cond _ a b => allDraw ok a && allDraw ok b
  | .block _ c => allDraw ok c
  | .loop c => allDraw ok c
  | .scope c => allDraw ok c
  | _ => true
def DrawOk (P : Program) (draw : Nat → Array Oper → List Value → AHeap → Option (List Value × AHeap)) (ok : Nat → Array Oper → Bool) : Prop :=
  (∀ id ops tm H tm' H', draw id ops tm H = some (tm', H') → H.size ≤ H'.size) ∧
  ∀ id ops tm H tm' H', ok id ops = true → draw id ops tm H = some (tm', H') → ∀ ρ w (a : Act), Rel ρ H w → LRel ρ tm a.tmps.toList → a.defers = [] →
    (Code.region id ops true).wp P (Behind ρ H w .normal tm' H') a w

theorem acode_wp {E : Env} (hT : E.TOk) {call : Caller} (hC : CallOk E.P call) {draw : Nat → Array Oper → List Value → AHeap → Option (List Value × AHeap)} {ok : Nat → Array Oper → Bool} (hD : DrawOk E.P draw ok) (n : Nat) :
    ∀ (c : Code), allDraw ok c = true → ∀ (tm : List Value) (H : AHeap) (x : AX) (tm' : List Value) (H' : AHeap), acode E call draw n c tm H = some (x, tm', H') →
      ∀ (ρ : Ren) (w : World) (a : Act), Rel ρ H w → LRel ρ tm a.tmps.toList → a.defers = [] → c.wp E.P (Behind ρ H w x tm' H') a w := by
  intro c
  induction c with
  | skip =>
    intro hok tm H x tm' H' h ρ w a hR ht hd
    simp only [acode, Option.some.injEq, Prod.mk.injEq] at h
    obtain ⟨rfl, rfl, rfl⟩ := h
    exact wp_skip ⟨ρ, rfl, hR, .refl _ _ _, ht, hd⟩
  | label l =>
    intro hok tm H x tm' H' h ρ w a hR ht hd
    simp only [acode, Option.some.injEq, Prod.mk.injEq] at h
    obtain ⟨rfl, rfl, rfl⟩ := h
    exact wp_label ⟨ρ, rfl, hR, .refl _ _ _, ht, hd⟩
  | exit id =>
    intro hok tm H x tm' H' h ρ w a hR ht hd
    simp only [acode, Option.some.injEq, Prod.mk.injEq] at h
    obtain ⟨rfl, rfl, rfl⟩ := h
    exact wp_exit ⟨ρ, rfl, hR, .refl _ _ _, ht, hd⟩
  | ret =>
    intro hok tm H x tm' H' h ρ w a hR ht hd
    simp only [acode, Option.some.injEq, Prod.mk.injEq] at h
    obtain ⟨rfl, rfl, rfl⟩ := h
    exact wp_ret ⟨ρ, rfl, hR, .refl _ _ _, ht, hd⟩
  | goto l => intro hok tm H x tm' H' h; simp [acode] at h
  | refuse s => intro hok tm H x tm' H' h; simp [acode] at h
  | rangeFunc f ps p q ih1 ih2 => intro hok tm H x tm' H' h; simp [acode] at h
  | region id ops d =>
    intro hok tm H x tm' H' h ρ w a hR ht hd
    simp only [acode] at h
    cases d with
    | true =>
      simp only at h
      split at h
      · rename_i tm1 H1 hs
        simp only [Option.some.injEq, Prod.mk.injEq] at h
        obtain ⟨rfl, rfl, rfl⟩ := h
        exact hD.2 id ops tm H _ _ hok hs ρ w a hR ht hd
      · cases h
    | false =>
      simp only at h
      split at h
      · rename_i tm1 H1 hs
        simp only [Option.some.injEq, Prod.mk.injEq] at h
        obtain ⟨rfl, rfl, rfl⟩ := h
        refine wp_region (aops_wp hT hC ops.toList (List.range ops.size) ?_ ρ H _ w a tm _ hR ht hd hs _ fun a' w' hb => hb)
        apply List.ext_getElem?
        intro i
        rw [List.getElem?_map, List.getElem?_map]
        by_cases hi : i < ops.size
        · rw [List.getElem?_range hi]; simp [hi]
        · simp [hi]
      · cases h
  | seq p q ih1 ih2 =>
    intro hok tm H x tm' H' h ρ w a hR ht hd
    simp only [allDraw, Bool.and_eq_true] at hok
    simp only [acode] at h
    split at h
    · rename_i tm1 H1 hs
      refine wp_seq (wp_mono (ih1 hok.1 tm H _ _ _ hs ρ w a hR ht hd) ?_)
      rintro e a1 w1 ⟨ρ1, rfl, k1, k2, k3, k4⟩
      refine wp_mono (ih2 hok.2 tm1 H1 _ _ _ h ρ1 w1 a1 k1 k3 k4) ?_
      rintro e a2 w2 ⟨ρ2, e2, m1, m2, m3, m4⟩
      exact ⟨ρ2, e2, m1, k2.trans m2, m3, m4⟩
    · rename_i hne
      refine wp_seq (wp_mono (ih1 hok.1 tm H _ _ _ h ρ w a hR ht hd) ?_)
      rintro e a1 w1 ⟨ρ1, rfl, k1, k2, k3, k4⟩
      cases x with
      | normal => exact absurd h (hne _ _)
      | exit id => exact ⟨ρ1, rfl, k1, k2, k3, k4⟩
      | ret => exact ⟨ρ1, rfl, k1, k2, k3, k4⟩
  | cond c p q ih1 ih2 =>
    intro hok tm H x tm' H' h ρ w a hR ht hd
    simp only [allDraw, Bool.and_eq_true] at hok
    simp only [acode] at h
    split at h
    · rename_i t hb
      have hbv := aev_rel ht c
      rw [hb] at hbv
      have hbv := hbv.bool_inv
      cases t with
      | true => exact wp_cond_true hbv (ih1 hok.1 tm H _ _ _ h ρ w a hR ht hd)
      | false => exact wp_cond_false hbv (ih2 hok.2 tm H _ _ _ h ρ w a hR ht hd)
    · cases h
  | block id c ih =>
    intro hok tm H x tm' H' h ρ w a hR ht hd
    simp only [acode] at h
    split at h
    · rename_i i tm1 H1 hs
      refine wp_block (wp_mono (ih hok tm H _ _ _ hs ρ w a hR ht hd) ?_)
      rintro e a1 w1 ⟨ρ1, rfl, k1, k2, k3, k4⟩
      split at h
      · rename_i hid
        simp only [Option.some.injEq, Prod.mk.injEq] at h
        obtain ⟨rfl, rfl, rfl⟩ := h
        show (if i = id then _ else _)
        rw [if_pos hid]
        exact ⟨ρ1, rfl, k1, k2, k3, k4⟩
      · rename_i hid
        simp only [Option.some.injEq, Prod.mk.injEq] at h
        obtain ⟨rfl, rfl, rfl⟩ := h
        show (if i = id then _ else _)
        rw [if_neg hid]
        exact ⟨ρ1, rfl, k1, k2, k3, k4⟩
    · rename_i hne
      refine wp_block (wp_mono (ih hok tm H _ _ _ h ρ w a hR ht hd) ?_)
      rintro e a1 w1 ⟨ρ1, rfl, k1, k2, k3, k4⟩
      cases x with
      | normal => exact ⟨ρ1, rfl, k1, k2, k3, k4⟩
      | exit id => exact absurd h (hne _ _ _)
      | ret => exact ⟨ρ1, rfl, k1, k2, k3, k4⟩
  | scope c ih =>
    intro hok tm H x tm' H' h ρ w a hR ht hd
    simp only [acode] at h
    refine wp_scope_straight (wp_mono (ih hok tm H _ _ _ h ρ w a hR ht hd) ?_)
    rintro e a1 w1 ⟨ρ1, rfl, k⟩
    cases x <;> exact ⟨ρ1, rfl, k⟩
  | loop c ih =>
    intro hok tm H x tm' H' h ρ w a hR ht hd
    simp only [acode] at h
    refine wp_loop_rounds n ?_
    have key : ∀ m tm H (ρ0 : Ren) (H0 : AHeap) (w0 : World) (ρ : Ren) (w : World) (a : Act), Step ρ0 H0 w0 ρ H w → Rel ρ H w → LRel ρ tm a.tmps.toList → a.defers = [] →
        aloop (acode E call draw n c) m tm H = some (x, tm', H') → Code.rounds E.P c (Behind ρ0 H0 w0 x tm' H') m a w := by
      intro m
      induction m with
      | zero => intro tm H ρ0 H0 w0 ρ w a _ _ _ _ h; simp [aloop] at h
      | succ m ihm =>
        intro tm H ρ0 H0 w0 ρ w a hS hR ht hd h
        rw [rounds_succ]
        simp only [aloop] at h
        split at h
        · rename_i tm1 H1 hs
          refine wp_mono (ih hok tm H _ _ _ hs ρ w a hR ht hd) ?_
          rintro e a1 w1 ⟨ρ1, rfl, k1, k2, k3, k4⟩
          exact ihm tm1 H1 ρ0 H0 w0 ρ1 w1 a1 (hS.trans k2) k1 k3 k4 h
        · rename_i hne
          refine wp_mono (ih hok tm H _ _ _ h ρ w a hR ht hd) ?_
          rintro e a1 w1 ⟨ρ1, rfl, k1, k2, k3, k4⟩
          cases x with
          | normal => exact absurd h (hne _ _)
          | exit id => exact ⟨ρ1, rfl, k1, hS.trans k2, k3, k4⟩
          | ret => exact ⟨ρ1, rfl, k1, hS.trans k2, k3, k4⟩
    exact key n tm H ρ H w ρ w a (.refl _ _ _) hR ht hd h
theorem aresult_ok {E : Env} (hT : E.TOk) {ρ : Ren} {H : AHeap} {w : World} (hR : Rel ρ H w) {tm : List Value} {tmps : Array Value} (ht : LRel ρ tm tmps.toList)
    {g : ResultVar → Sem Value} (hg1 : ∀ t, g (.tmp t) = pure (tmps.getD t undef)) (hg2 : ∀ a t, g (.cell a t) = (do loadVar t (← asAddr (tmps.getD a undef)))) :
    ∀ (l : List ResultVar) (vs : List Value), aresult E tm H l = some vs → ∃ Vs : List Value, LRel ρ vs Vs ∧ (l.mapM g : Sem (List Value)).run E.P w = .ok Vs w := by
  have hgd : ∀ t, VRel ρ (tm.getD t undef) (tmps.getD t undef) := by
    intro t
    have h1 : VRel ρ (tm.getD t undef) (tmps.toList.getD t undef) := ht.getD t (undef_rel ρ)
    have h2 : tmps.toList.getD t undef = tmps.getD t undef := by
      rw [List.getD_eq_getElem?_getD, Array.getElem?_toList, Array.getD_eq_getD_getElem?]
    rw [h2] at h1
    exact h1
  intro l
  induction l with
  | nil => intro vs h; simp only [aresult] at h; injection h with h; subst h; exact ⟨[], .nil ρ, rfl⟩
  | cons r l ih =>
    intro vs h
    cases r with
    | tmp t =>
      simp only [aresult] at h
      split at h
      · rename_i us hus
        injection h with h; subst h
        obtain ⟨Vs, h1, h2⟩ := ih us hus
        refine ⟨tmps.getD t undef :: Vs, .cons (hgd t) h1, ?_⟩
        simp only [List.mapM_cons, hg1, Sem.run_bind, Sem.run_pure, Result.andThen_ok, h2]
      · cases h
    | cell a t =>
      simp only [aresult] at h
      split at h
      · rename_i u us hu hus
        injection h with h; subst h
        obtain ⟨Vs, h1, h2⟩ := ih us hus
        obtain ⟨X, x1, x2⟩ := aload_ok hT hR (hgd a) hu
        refine ⟨X :: Vs, .cons x2 h1, ?_⟩
        have hp : ∃ A, tmps.getD a undef = .pointer (some A) := by
          have hg := hgd a
          generalize tmps.getD a undef = Y at hg x1
          unfold aload at hu
          split at hu
          · rename_i e
            rw [e] at hg
            obtain ⟨l, _, rfl⟩ := hg.ptr_inv
            exact ⟨_, rfl⟩
          · cases hu
        obtain ⟨A, hA⟩ := hp
        rw [hA] at x1
        have x1' : (loadVar t A).run E.P w = .ok X w := x1
        have x3 : (g (.cell a t)).run E.P w = .ok X w := by rw [hg2, hA]; exact x1'
        simp only [List.mapM_cons, Sem.run_bind, x3, Sem.run_pure, Result.andThen_ok, h2]
      · cases h

theorem apack_ok {ρ : Ren} {vs Vs : List Value} (h : LRel ρ vs Vs) : VRel ρ (apack vs) (if h : Vs.toArray.size = 1 then Vs.toArray[0] else .tuple Vs.toArray) := by
  have hl := h.1
  cases vs with
  | nil => obtain rfl := h.nil_left; exact .tuple' (.nil ρ)
  | cons v vs =>
    obtain ⟨V, T, rfl, h1, h2⟩ := h.cons_left
    cases vs with
    | nil => obtain rfl := h2.nil_left; exact h1
    | cons u us =>
      obtain ⟨U, S, rfl, h3, h4⟩ := h2.cons_left
      rw [dif_neg (by simp)]
      exact .tuple' h

/-- The functions are those of the program, their drawn regions planned. -/
def Env.FOk (E : Env) (ok : FuncId → Nat → Array Oper → Bool) : Prop := ∀ f F c, E.fn f = some F → F.body = some c →
  E.P.funcs[f]? = some F ∧ allDraw (ok f) c = true ∧ F.name ≠ "runtime.NumGoroutine"
def Env.SOk (E : Env) : Prop := ∀ f g, E.summ f = some g → ∀ args H v H', (g args H).get = some (true, v, H') →
  (∃ F, E.P.funcs[f]? = some F ∧ F.body.isSome = true ∧ F.name ≠ "runtime.NumGoroutine") ∧ H.size ≤ H'.size ∧
  ∀ ρ w (cargs : Array Value), Rel ρ H w → LRel ρ args cargs.toList → Calls E.P f cargs w (Post ρ H w v H')

theorem evalF_ok {E : Env} {D : Drawer} {ok : FuncId → Nat → Array Oper → Bool} (hT : E.TOk) (hF : E.FOk ok) (hS : E.SOk) (hD : ∀ call, CallOk E.P call → ∀ f, DrawOk E.P (D call f) (ok f)) :
    ∀ k, CallOk E.P (evalF E D k) := by
  intro k
  induction k with
  | zero => intro g args H v H' h; simp [evalF] at h
  | succ k ih =>
    intro f args H v H' h
    simp only [evalF] at h
    split at h
    · rename_i g hg
      split at h
      · rename_i v1 H1 he
        simp only [Option.some.injEq, Prod.mk.injEq] at h
        obtain ⟨rfl, rfl⟩ := h
        exact hS f g hg args H _ _ he
      · cases h
    · split at h
      · rename_i F hF'
        split at h
        case h_2 => cases h
        rename_i c h2
        obtain ⟨h1, h3, h4⟩ := hF f F c hF' h2
        have hsz : H.size ≤ H'.size := by
          split at h
          · rename_i tm1 H1 hc
            split at h
            · simp only [Option.some.injEq, Prod.mk.injEq] at h
              obtain ⟨_, rfl⟩ := h
              exact acode_size (fun g a H v H' h => (ih g a H v H' h).2.1) (hD _ ih f).1 k _ _ _ _ _ _ hc
            · cases h
          · rename_i tm1 H1 hc
            split at h
            · simp only [Option.some.injEq, Prod.mk.injEq] at h
              obtain ⟨_, rfl⟩ := h
              exact acode_size (fun g a H v H' h => (ih g a H v H' h).2.1) (hD _ ih f).1 k _ _ _ _ _ _ hc
            · cases h
          · cases h
        refine ⟨⟨F, h1, by rw [h2]; rfl, h4⟩, hsz, fun ρ w cargs hR hargs => ?_⟩
        have hlen : args.length = cargs.size := by have := hargs.1; simpa using this
        have hfin : ∀ x tm1 H1 vs, acode E (evalF E D k) (D (evalF E D k) f) k c (args ++ List.replicate (F.ntmps - args.length) undef) H = some (x, tm1, H1) → (x = .normal ∨ x = .ret) →
            aresult E tm1 H1 F.results.toList = some vs → Calls E.P f cargs w (Post ρ H w (apack vs) H1) := by
          intro x tm1 H1 vs hc hx hr
          refine calls_of_wp h1 h2 (wp_mono (acode_wp hT ih (hD _ ih f) k c h3 _ _ _ _ _ hc ρ w { tmps := cargs ++ Array.replicate (F.ntmps - cargs.size) undef, defers := [] } hR ?_ rfl) ?_)
          · rw [Array.toList_append, Array.toList_replicate, ← hlen]
            exact hargs.append (.replicate _ (undef_rel ρ))
          · rintro e a' w' ⟨ρ', rfl, k1, k2, k3, k4⟩
            have hres : ∃ Vs : List Value, LRel ρ' vs Vs ∧ (results F a'.tmps).run E.P w' = .ok (if h : Vs.toArray.size = 1 then Vs.toArray[0] else .tuple Vs.toArray) w' := by
              unfold results
              rw [Sem.run_bind, Array.mapM_eq_mapM_toList, Sem.run_map]
              obtain ⟨Vs, r1, r2⟩ := aresult_ok hT k1 k3 (g := fun r => match r with | .tmp t => pure (a'.tmps.getD t undef) | .cell a t => do loadVar t (← asAddr (a'.tmps.getD a undef)))
                (fun _ => rfl) (fun _ _ => rfl) _ _ hr
              exact ⟨Vs, r1, (congrArg (fun (q : Result (List Value)) => (q.andThen fun a w' => Result.ok a.toArray w').andThen
                fun a w' => Sem.run E.P (pure (if h : a.size = 1 then a[0] else .tuple a)) w') r2).trans rfl⟩
            obtain ⟨Vs, r1, hres⟩ := hres
            have hp := apack_ok r1
            rcases hx with rfl | rfl <;> exact ⟨k4, _, hres, _, ρ', rfl, k1, k2, hp⟩
        split at h
        · rename_i tm1 H1 hc
          split at h
          · rename_i vs hr
            simp only [Option.some.injEq, Prod.mk.injEq] at h
            obtain ⟨rfl, rfl⟩ := h
            exact hfin _ _ _ _ hc (.inl rfl) hr
          · cases h
        · rename_i tm1 H1 hc
          split at h
          · rename_i vs hr
            simp only [Option.some.injEq, Prod.mk.injEq] at h
            obtain ⟨rfl, rfl⟩ := h
            exact hfin _ _ _ _ hc (.inr rfl) hr
          · cases h
        · cases h
      · cases h
end Go.Ev
