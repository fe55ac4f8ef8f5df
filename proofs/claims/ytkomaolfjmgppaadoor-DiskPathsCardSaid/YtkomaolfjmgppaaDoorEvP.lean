/- Regions whose order is drawn: the plan, the evaluation, what a run of it comes to. -/
import Derived.Test.YtkomaolfjmgppaaDoorEvN
namespace Go.Ev
open Go
set_option linter.unusedVariables false
set_option linter.unusedSimpArgs false

/-! ### Equality that can be reckoned -/
def veqb : Value → Value → Bool
  | .bool a, .bool b => a == b
  | .int k a, .int k' b => decide (k = k') && decide (a = b)
  | .string a, .string b => seq a b
  | .pointer a, .pointer b => decide (a = b)
  | .slice a n c, .slice b m d => decide (a = b) && decide (n = m) && decide (c = d)
  | .map a, .map b => decide (a = b)
  | .nilFunc, .nilFunc => true
  | .nilIface, .nilIface => true
  | _, _ => false
def veq0 : Value → Value → Bool
  | .iface t x, .iface u y => decide (t = u) && veqb x y
  | x, y => veqb x y
def leq (f : Value → Value → Bool) : List Value → List Value → Bool
  | [], [] => true
  | x :: xs, y :: ys => f x y && leq f xs ys
  | _, _ => false
def veq1 : Value → Value → Bool
  | .agg xs, .agg ys => leq veq0 xs.toList ys.toList
  | x, y => veq0 x y
def veq : Value → Value → Bool
  | .tuple xs, .tuple ys => leq veq1 xs.toList ys.toList
  | x, y => veq1 x y
theorem seq_iff {a b : ByteArray} : seq a b = true ↔ a = b := by
  constructor
  · intro h
    simp [seq] at h
    obtain ⟨⟨x⟩⟩ := a
    obtain ⟨⟨y⟩⟩ := b
    simp at h
    rw [h]
  · rintro rfl; simp [seq]
theorem veqb_eq {x y : Value} (h : veqb x y = true) : x = y := by
  unfold veqb at h
  split at h <;> simp_all [seq_iff]
theorem veq0_eq {x y : Value} (h : veq0 x y = true) : x = y := by
  unfold veq0 at h
  split at h
  · simp at h; rw [h.1, veqb_eq h.2]
  · exact veqb_eq h
theorem leq_eq {f : Value → Value → Bool} (hf : ∀ x y, f x y = true → x = y) : ∀ {xs ys : List Value}, leq f xs ys = true → xs = ys := by
  intro xs
  induction xs with
  | nil => intro ys h; cases ys <;> simp [leq] at h ⊢
  | cons x xs ih =>
    intro ys h
    cases ys with
    | nil => simp [leq] at h
    | cons y ys => simp [leq] at h; rw [hf _ _ h.1, ih h.2]
theorem veq1_eq {x y : Value} (h : veq1 x y = true) : x = y := by
  unfold veq1 at h
  split at h
  · rename_i xs ys
    have := leq_eq (fun _ _ => veq0_eq) h
    cases xs; cases ys; simp at this; rw [this]
  · exact veq0_eq h
theorem veq_eq {x y : Value} (h : veq x y = true) : x = y := by
  unfold veq at h
  split at h
  · rename_i xs ys
    have := leq_eq (fun _ _ => veq1_eq) h
    cases xs; cases ys; simp at this; rw [this]
  · exact veq1_eq h
def oeq : Option AObj → Option AObj → Bool
  | some (.cells cs t .live []), some (.cells ds u .live []) => decide (t = u) && leq veq0 cs ds
  | some (.map [] ([], 0) .live), some (.map [] ([], 0) .live) => true
  | _, _ => false
theorem oeq_eq {x y : Option AObj} (h : oeq x y = true) : x = y := by
  unfold oeq at h
  split at h
  · simp at h; rw [h.1, leq_eq (fun _ _ => veq0_eq) h.2]
  · rfl
  · cases h

/-! ### The evaluation -/
/-- An operation that read or laid memory: its number, itself, its operands' values, what it came to. -/
structure Seen where
  i : Nat
  op : Op
  tm : List Value
  v : Value
/-- Does it stand, where the heap H has become H'? -/
def achk (E : Env) (s : Seen) (H H' : AHeap) : Bool :=
  match kindOf E s.op with
  | .read =>
    match aop E (aev s.tm) s.op H' with
    | some (v', _) => veq s.v v'
    | none => false
  | .alloc =>
    match idOf s.v with
    | some b => oeq (H.get b) (H'.get b)
    | none => false
  | _ => false
def isSeen (E : Env) (op : Op) : Bool :=
  match kindOf E op with
  | .read | .alloc => true
  | _ => false
def adrawGo (E : Env) (call : Caller) (ops : Array Oper) : List (Nat × List Nat) → List Seen → List Value → AHeap → Option (List Value × AHeap)
  | [], _, tm, H => some (tm, H)
  | (i, ck) :: rest, W, tm, H =>
    match ops[i]? with
    | none => none
    | some o =>
      match awant ops o tm with
      | none => none
      | some false => adrawGo E call ops rest W (aputT tm o.dst undef) H
      | some true =>
        match astep E call o tm H with
        | none => none
        | some (v, H') =>
          if W.all (fun s => !ck.contains s.i || achk E s H H') then
            if isSeen E o.op then adrawGo E call ops rest (⟨i, o.op, tm, v⟩ :: W) (aputT tm o.dst v) H'
            else adrawGo E call ops rest W (aputT tm o.dst v) H'
          else none
def adraw (E : Env) : Drawer := fun call f id ops tm H =>
  match E.plan f id with
  | some order => adrawGo E call ops order [] tm H
  | none => none

/-! ### The plan -/
def pb (ops : Array Oper) (i j : Nat) : Bool := ((Region.before ops).getD i 0).testBit j
def pbT (b : Array Nat) (i j : Nat) : Bool := (b.getD i 0).testBit j
def isEff (E : Env) (op : Op) : Bool :=
  match kindOf E op with
  | .eff => true
  | _ => false
def pairOk (E : Env) (ops : Array Oper) (b : Array Nat) (i j : Nat) (x y : Oper) : Bool :=
  let comp := pbT b i j || pbT b j i
  (match y.dst with
   | some t => (x.dst != some t) && (!(x.looksAt ops).contains t || comp)
   | none => true) &&
  (!(isEff E x.op && isEff E y.op) || comp)
def orderOk (E : Env) (ops : Array Oper) (b : Array Nat) : List Nat → List (Nat × List Nat) → Bool
  | _, [] => true
  | seen, (i, ck) :: rest =>
    (match ops[i]? with
     | none => false
     | some o =>
       ((List.range ops.size).all fun j => !pbT b i j || seen.contains j) &&
       (isEff E o.op || (List.range ops.size).all fun e => !(seen.contains e && ((ops[e]?).map (isEff E ·.op)).getD false) || pbT b i e) &&
       ((!isEff E o.op && (match kindOf E o.op with | .alloc => false | _ => true)) ||
         (List.range ops.size).all fun r => !(seen.contains r && ((ops[r]?).map (isSeen E ·.op)).getD false) || ((isEff E o.op && pbT b i r) || ck.contains r))) &&
    !seen.contains i && orderOk E ops b (i :: seen) rest
def planOk (E : Env) (ops : Array Oper) (order : List (Nat × List Nat)) : Bool :=
  let b := Region.before ops
  ((List.range ops.size).all fun i => (order.map (·.1)).contains i) &&
  (order.all fun p => decide (p.1 < ops.size)) &&
  ((List.range ops.size).all fun i =>
    match ops[i]? with
    | none => false
    | some x =>
      (x.after.toList.all fun e => !Region.binds .any e || decide (e.on < i)) &&
      (match x.dst with | some t => !(x.looksAt ops).contains t | none => true) &&
      (match kindOf E x.op with | .bad => false | _ => true) &&
      (List.range ops.size).all fun j =>
        match ops[j]? with
        | none => false
        | some y => decide (i = j) || pairOk E ops b i j x y) &&
  orderOk E ops b [] order

/-! ### What a plan says -/
structure Plan (E : Env) (ops : Array Oper) (order : List (Nat × List Nat)) : Prop where
  full : ∀ i, i < ops.size → i ∈ order.map (·.1)
  back : ∀ (i : Nat) (o : Oper), ops[i]? = some o → ∀ e ∈ o.after.toList, Region.binds .any e = true → e.on < i
  self : ∀ (i : Nat) (o : Oper) (t : Tmp), ops[i]? = some o → o.dst = some t → t ∉ o.looksAt ops
  good : ∀ (i : Nat) (o : Oper), ops[i]? = some o → kindOf E o.op ≠ .bad
  single : ∀ (i j : Nat) (x y : Oper) (t : Tmp), i ≠ j → ops[i]? = some x → ops[j]? = some y → y.dst = some t → x.dst ≠ some t
  names : ∀ (i j : Nat) (x y : Oper) (t : Tmp), i ≠ j → ops[i]? = some x → ops[j]? = some y → y.dst = some t → t ∈ x.looksAt ops → pb ops i j = true ∨ pb ops j i = true
  effs : ∀ (i j : Nat) (x y : Oper), i ≠ j → ops[i]? = some x → ops[j]? = some y → isEff E x.op = true → isEff E y.op = true → pb ops i j = true ∨ pb ops j i = true
  ord : orderOk E ops (Region.before ops) [] order = true

theorem plan_of {E : Env} {ops : Array Oper} {order : List (Nat × List Nat)} (h : planOk E ops order = true) : Plan E ops order := by
  unfold planOk at h
  simp only [Bool.and_eq_true, List.all_eq_true, List.mem_range, decide_eq_true_eq] at h
  obtain ⟨⟨⟨h1, h2⟩, h3⟩, h4⟩ := h
  have hlt : ∀ (i : Nat) (o : Oper), ops[i]? = some o → i < ops.size := fun i o ho => (Array.getElem?_eq_some_iff.1 ho).1
  have key : ∀ (i : Nat) (o : Oper), ops[i]? = some o → (∀ e ∈ o.after.toList, Region.binds .any e = true → e.on < i) ∧ (∀ t, o.dst = some t → t ∉ o.looksAt ops) ∧ kindOf E o.op ≠ .bad ∧
      ∀ (j : Nat) (y : Oper), i ≠ j → ops[j]? = some y → pairOk E ops (Region.before ops) i j o y = true := by
    intro i o ho
    have := h3 i (hlt i o ho)
    rw [ho] at this
    simp only [Bool.and_eq_true, List.all_eq_true, List.mem_range] at this
    obtain ⟨⟨⟨k1, k2⟩, k3⟩, k4⟩ := this
    refine ⟨?_, ?_, ?_, ?_⟩
    · intro e he hb
      have := k1 e he
      simp [hb] at this
      exact this
    · intro t ht
      rw [ht] at k2
      simpa using k2
    · intro hk; rw [hk] at k3; cases k3
    · intro j y hij hy
      have := k4 j (hlt j y hy)
      rw [hy] at this
      simpa [hij] using this
  refine ⟨fun i hi => by simpa using h1 i hi, fun i o ho => (key i o ho).1, fun i o t ho => (key i o ho).2.1 t, fun i o ho => (key i o ho).2.2.1, ?_, ?_, ?_, h4⟩
  · intro i j x y t hij hx hy ht
    have := (key i x hx).2.2.2 j y hij hy
    unfold pairOk at this
    simp only [Bool.and_eq_true, ht] at this
    simpa using this.1.1
  · intro i j x y t hij hx hy ht hl
    have := (key i x hx).2.2.2 j y hij hy
    unfold pairOk at this
    simp only [Bool.and_eq_true, ht] at this
    have h := this.1.2
    simp only [Bool.or_eq_true, Bool.not_eq_true', List.contains_eq_mem, decide_eq_false_iff_not] at h
    exact h.resolve_left (fun hn => hn hl)
  · intro i j x y hij hx hy e1 e2
    have := (key i x hx).2.2.2 j y hij hy
    unfold pairOk at this
    simp only [Bool.and_eq_true] at this
    have h := this.2
    simp only [e1, e2, Bool.and_self, Bool.not_true, Bool.false_or, Bool.or_eq_true] at h
    exact h
end Go.Ev
