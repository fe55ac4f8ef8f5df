/- The evaluation as a proposition: a test that cannot be reckoned out parts it; what is read at a place that is not a number is told by a hint. -/
import Derived.Test.YtkomaolfjmgppaaDoorEvW
namespace Go.Ev
open Go
set_option linter.unusedVariables false
set_option linter.unusedSectionVars false
set_option linter.unusedSimpArgs false

inductive HintE where
  | int (k : IntKind)
  | bool
  | str
inductive Hint where
  | int (k : IntKind)
  | bool
  | str
  | slice
  | agg (l : List HintE)
  | tup (l : List HintE)
  /-- (An append's row has no room.) -/
  | full
  /-- (A test comes to that.) -/
  | is (b : Bool)
  /-- (A map whose entries need not be known is written.) -/
  | sym
def exV : List HintE → (List Value → Prop) → Prop
  | [], K => K []
  | .int k :: l, K => ∃ n : Int, exV l fun vs => K (.int k n :: vs)
  | .bool :: l, K => ∃ b : Bool, exV l fun vs => K (.bool b :: vs)
  | .str :: l, K => ∃ s : ByteArray, exV l fun vs => K (.string s :: vs)
theorem exV_some : ∀ {l : List HintE} {K : List Value → Prop}, exV l K → ∃ vs, K vs := by
  intro l
  induction l with
  | nil => intro K h; exact ⟨_, h⟩
  | cons x l ih =>
    intro K h
    cases x <;> (obtain ⟨n, h⟩ := h; obtain ⟨vs, h⟩ := ih h; exact ⟨_, h⟩)
abbrev KPost := Value → AHeap → Prop
abbrev KCaller := FuncId → List Value → AHeap → (Value → AHeap → Prop) → Prop

def ifK (c : Bool) (a b : Prop) : Prop := match c with | true => a | false => b
/-- A truth value is parted at once. -/
def partK (r : Option (Value × AHeap)) (K : Value → AHeap → Prop) : Prop :=
  match r with
  | some (.bool c, H') => (match c with | true => K (.bool true) H' | false => K (.bool false) H')
  | some (v, H') => K v H'
  | none => False
theorem partK_some {r : Option (Value × AHeap)} {K : Value → AHeap → Prop} (h : partK r K) : ∃ v H', r = some (v, H') ∧ K v H' := by
  unfold partK at h
  split at h
  · rename_i c H'
    cases c <;> exact ⟨_, _, rfl, h⟩
  · exact ⟨_, _, rfl, h⟩
  · cases h
def optK (r : Option (Value × AHeap)) (K : Value → AHeap → Prop) : Prop := match r with | some (v, H') => K v H' | none => False

theorem ifK_or {c : Bool} {a b : Prop} (h : ifK c a b) : (c = true ∧ a) ∨ (c = false ∧ b) := by
  cases c
  · exact .inr ⟨rfl, h⟩
  · exact .inl ⟨rfl, h⟩
theorem optK_some {r : Option (Value × AHeap)} {K : Value → AHeap → Prop} (h : optK r K) : ∃ v H', r = some (v, H') ∧ K v H' := by
  unfold optK at h
  split at h
  · exact ⟨_, _, rfl, h⟩
  · cases h

/-- An index's test and the place it leads to. -/
def idxOf (E : Env) (t : TypeId) (x ix : Value) : Option (Bool × Value) :=
  match E.ty t, ix with
  | some i, .int _ n =>
    match i.desc, x with
    | .slice e, .slice (some ⟨b, o, none⟩) len _ =>
      match asize E e with
      | some sz => some (decide (0 ≤ n ∧ n < len), .pointer (some ⟨b, o + n.toNat * sz, none⟩))
      | none => none
    | .array len e, .pointer (some ⟨b, o, none⟩) =>
      match asize E e with
      | some sz => some (decide (0 ≤ n ∧ n < len), .pointer (some ⟨b, o + n.toNat * sz, none⟩))
      | none => none
    | _, _ => none
  | _, _ => none
theorem idxOf_ok {E : Env} {t : TypeId} {x ix v : Value} (h : idxOf E t x ix = some (true, v)) : aindexAddr E t x ix = some v := by
  unfold idxOf at h
  unfold aindexAddr
  split at h
  · rename_i i k n h1
    rw [h1]
    split at h
    · rename_i e b o len c h2
      split at h
      · rename_i sz h3
        simp only [Option.some.injEq, Prod.mk.injEq, decide_eq_true_eq] at h
        simp only [h3, h2]
        rw [if_pos h.1, h.2]
      · cases h
    · rename_i len e b o h2
      split at h
      · rename_i sz h3
        simp only [Option.some.injEq, Prod.mk.injEq, decide_eq_true_eq] at h
        simp only [h3, h2]
        rw [if_pos h.1, h.2]
      · cases h
    · cases h
  · cases h

/-- Any operation that calls no function. -/
def aopX (E : Env) (ev : Operand → Value) (op : Op) (H : AHeap) : Option (Value × AHeap) := match isX op with | true => axop E ev op H | false => aop E ev op H

/-- What lies there. -/
inductive LoadIs (E : Env) (t : TypeId) (a : Value) (H : AHeap) (v : Value) : Prop
  | mk (h : aload E t a H = some v)
/-- What a map says. -/
inductive LookIs (E : Env) (t : TypeId) (x k : Value) (ok : Bool) (H : AHeap) (v : Value) : Prop
  | mk (h : alookup E t x k ok H = some v)
/-- A told operation comes to that. -/
def toldK (E : Env) (ev : Operand → Value) (op : Op) (H : AHeap) (v : Value) (K : Prop) : Prop :=
  match op with
  | .load t a => LoadIs E t (ev a) H v ∧ K
  | .lookup t x k ok => LookIs E t (ev x) (ev k) ok H v ∧ K
  | op => aopX E ev op H = some (v, H) ∧ K
theorem toldK_ok {E : Env} {ev : Operand → Value} {op : Op} {H : AHeap} {v : Value} {K : Prop} (h : toldK E ev op H v K) : aopX E ev op H = some (v, H) ∧ K := by
  unfold toldK at h
  split at h
  · obtain ⟨⟨h1⟩, h2⟩ := h
    exact ⟨by simp [aopX, isX, aop, h1], h2⟩
  · obtain ⟨⟨h1⟩, h2⟩ := h
    exact ⟨by simp [aopX, isX, aop, h1], h2⟩
  · exact h
/-- The byte there. -/
def byteAt (s : ByteArray) (n : Int) : Int := match s.data.toList[n.toNat]? with | some b => b.toNat | none => 0
def getB : Option Value → Int → Option Int
  | none, d => some d
  | some (.int _ n), _ => some n
  | _, _ => none
/-- Equality of structs as one truth value, whatever its parts come to. -/
def aeqsB (E : Env) (eq : TypeId → Value → Value → Option Bool) : List Field → List Value → List Value → Option Bool
  | [], _, _ => some true
  | f :: fs, xs, ys =>
    if f.name = "_" then aeqsB E eq fs xs ys else
    match apart E f.type xs f.offset, apart E f.type ys f.offset with
    | some a, some b =>
      match eq f.type a b, aeqsB E eq fs xs ys with
      | some p, some q => some (p && q)
      | _, _ => none
    | _, _ => none
def aeqB (E : Env) : Nat → TypeId → Value → Value → Option Bool
  | 0, _, _, _ => none
  | d + 1, t, x, y =>
    match E.ty t with
    | none => none
    | some i =>
      match i.desc, x, y with
      | .struct fs, .agg xs, .agg ys => if i.eqok then aeqsB E (aeqB E d) fs.toList xs.toList ys.toList else none
      | _, x, y => aeq E (d + 1) t x y
theorem aeqsB_ok {E : Env} {e1 e2 : TypeId → Value → Value → Option Bool} (h : ∀ t x y b, e1 t x y = some b → e2 t x y = some b) : ∀ (fs : List Field) (xs ys : List Value) (b : Bool), aeqsB E e1 fs xs ys = some b → aeqs E e2 fs xs ys = some b := by
  intro fs
  induction fs with
  | nil => intro xs ys b hb; exact hb
  | cons f fs ih =>
    intro xs ys b hb
    unfold aeqsB at hb
    unfold aeqs
    split at hb
    · rename_i hn; rw [if_pos hn]; exact ih _ _ _ hb
    · rename_i hn
      rw [if_neg hn]
      split at hb
      · rename_i a c ha hc
        simp only [ha, hc]
        split at hb
        · rename_i p q hp hq
          cases hb
          rw [h _ _ _ _ hp]
          cases p
          · rfl
          · simpa using ih _ _ _ hq
        · cases hb
      · cases hb
theorem aeqB_ok {E : Env} : ∀ (d : Nat) (t : TypeId) (x y : Value) (b : Bool), aeqB E d t x y = some b → aeq E d t x y = some b := by
  intro d
  induction d with
  | zero => intro t x y b h; cases h
  | succ d ih =>
    intro t x y b h
    unfold aeqB at h
    split at h
    · cases h
    · rename_i i hi
      split at h
      · rename_i fs xs ys hd
        unfold aeq
        simp only [hi, hd]
        split at h
        · rename_i he
          rw [if_pos he]
          exact aeqsB_ok ih _ _ _ _ h
        · cases h
      · exact h
def u8s : List Value → Bool
  | [] => true
  | .int .u8 _ :: l => u8s l
  | _ => false
def bytesFrom : List Value → List UInt8
  | .int .u8 n :: l => UInt8.ofNat n.toNat :: bytesFrom l
  | _ => []
/-- Operations on texts and slices whose sizes need not be numbers: what they ask, and what they come to. -/
def condOp (E : Env) (ev : Operand → Value) (op : Op) (H : AHeap) : Option (Bool × Value × AHeap) :=
  match op with
  | .binOp .add _ x y _ =>
    match ev x, ev y with
    | .string a, .string b => some (decide (a.size + b.size < 9223372036854775808), .string (a ++ b), H)
    | _, _ => none
  | .binOp .eql t x y _ =>
    match ev x, ev y with
    | .agg xs, .agg ys => (match aeqB E 20 t (.agg xs) (.agg ys) with | some b => some (true, .bool b, H) | none => none)
    | _, _ => none
  | .binOp .neq t x y _ =>
    match ev x, ev y with
    | .agg xs, .agg ys => (match aeqB E 20 t (.agg xs) (.agg ys) with | some b => some (true, .bool !b, H) | none => none)
    | _, _ => none
  | .index t x i =>
    match ev x, ev i, E.ty t with
    | .string s, .int _ n, some ti => (match ti.desc with | .string => some (decide (0 ≤ n ∧ n < s.size), .int .u8 (byteAt s n), H) | _ => none)
    | _, _, _ => none
  | .slice t x lo hi none =>
    match ev x, E.ty t with
    | .string s, some ti =>
      (match ti.desc, getB (lo.map ev) 0, getB (hi.map ev) s.size with
      | .string, some l, some h => some (decide (0 ≤ l ∧ l ≤ h ∧ h ≤ s.size), .string (s.extract l.toNat h.toNat), H)
      | _, _, _ => none)
    | .slice none 0 0, some ti =>
      (match ti.desc, getB (lo.map ev) 0, getB (hi.map ev) 0 with
      | .slice e, some l, some h => (match E.ty e with | some _ => some (decide (l = 0 ∧ h = 0), .slice none 0 0, H) | none => none)
      | _, _, _ => none)
    | .slice (some ⟨b, o, none⟩) n c, some ti =>
      (match ti.desc with
      | .slice e =>
        match asize E e, getB (lo.map ev) 0, getB (hi.map ev) n, strided H b (match asize E e with | some z => z | none => 0) with
        | some sz, some l, some h, true => some (decide (0 ≤ l ∧ l ≤ h ∧ h ≤ c), .slice (some ⟨b, o + l.toNat * sz, none⟩) (h.toNat - l.toNat) (c - l.toNat), H)
        | _, _, _, _ => none
      | _ => none)
    | _, _ => none
  | .convert s d x =>
    match ev x, E.ty s, E.ty d with
    | .string a, some i, some j =>
      (match i.desc, j.desc with
      | .string, .slice e =>
        match E.ty e with
        | some ei =>
          (match ei.desc, ei.size with
          | .int .u8, 1 => some (decide (a.size ≤ 9223372036854775807), .slice (some ⟨H.size, 0, none⟩) a.size a.size, H.push (.cells (bytesOf a) ⟨1, some e, false⟩ .live []))
          | _, _ => none)
        | none => none
      | _, _ => none)
    | .slice (some ⟨b, o, none⟩) n _, some i, some j =>
      (match i.desc, j.desc with
      | .slice e, .string =>
        match E.ty e with
        | some ei =>
          (match ei.desc, H.get b with
          | .int .u8, some (.cells cs _ _ _) => some (decide (o + n ≤ cs.length) && u8s ((cs.drop o).take n), .string ⟨⟨bytesFrom ((cs.drop o).take n)⟩⟩, H)
          | _, _ => none)
        | none => none
      | _, _ => none)
    | _, _, _ => none
  | .makeSlice t l c =>
    match E.ty t, ev l, ev c with
    | some i, .int _ l, .int _ c =>
      (match i.desc with
      | .slice e =>
        match E.ty e with
        | some ei =>
          (match ei.zero with
          | some z =>
            match acells z with
            | some zc =>
              (match Nat.beq zc.length ei.size with
              | true => some (decide (0 ≤ l ∧ l ≤ c ∧ c * ei.bytes ≤ 140737488355328 ∧ c < 9223372036854775808), .slice (some ⟨H.size, 0, none⟩) l.toNat c.toNat, H.push (.cells (azeros zc c.toNat) ⟨ei.size, some e, true⟩ .live []))
              | false => none)
            | none => none
          | none => none)
        | none => none
      | _ => none)
    | _, _, _ => none
  | _ => none
theorem u8s_unbytes : ∀ {cs : List Value}, u8s cs = true → unbytes cs = some (bytesFrom cs) := by
  intro cs
  induction cs with
  | nil => intro _; rfl
  | cons v cs ih =>
    intro h
    unfold u8s at h
    split at h
    · rename_i e; cases e
    · rename_i e; cases e; unfold unbytes bytesFrom; rw [ih h]
    · cases h
theorem getB_some {lo : Option Value} {d : Nat} {l : Int} (h : getB lo d = some l) (h0 : 0 ≤ l) : abound d lo = some l.toNat := by
  unfold getB at h
  split at h
  · cases h; simp [abound]
  · cases h; simp [abound, h0]
  · cases h
theorem condOp_ok {E : Env} {ev : Operand → Value} {op : Op} {H H' : AHeap} {v : Value} (h : condOp E ev op H = some (true, v, H')) : aopX E ev op H = some (v, H') := by
  unfold condOp at h
  split at h
  · rename_i t x y cx
    split at h
    · rename_i a b hx hy
      simp only [Option.some.injEq, Prod.mk.injEq] at h
      obtain ⟨h1, rfl, rfl⟩ := h
      replace h1 := of_decide_eq_true h1
      simp only [aopX, isX, aop, hx, hy, abin, astr]
      rw [if_pos h1]
    · cases h
  · rename_i t x y cx
    split at h
    · rename_i xs ys hx hy
      split at h
      · rename_i b hb
        simp only [Option.some.injEq, Prod.mk.injEq, true_and] at h
        obtain ⟨rfl, rfl⟩ := h
        simp only [aopX, isX, aop, hx, hy, abin, aeqB_ok _ _ _ _ _ hb, Option.map_some]
      · cases h
    · cases h
  · rename_i t x y cx
    split at h
    · rename_i xs ys hx hy
      split at h
      · rename_i b hb
        simp only [Option.some.injEq, Prod.mk.injEq, true_and] at h
        obtain ⟨rfl, rfl⟩ := h
        simp only [aopX, isX, aop, hx, hy, abin, aeqB_ok _ _ _ _ _ hb, Option.map_some]
      · cases h
    · cases h
  · rename_i t x i
    split at h
    · rename_i s k n ti hx hi ht
      split at h
      · rename_i hd
        simp only [Option.some.injEq, Prod.mk.injEq, decide_eq_true_eq] at h
        obtain ⟨⟨h1, h2⟩, rfl, rfl⟩ := h
        have hl : n.toNat < s.data.toList.length := by
          have : s.data.toList.length = s.size := Array.length_toList
          omega
        simp only [aopX, isX, aop, aindex, ht, hi, hx, hd, if_pos h1, byteAt, List.getElem?_eq_getElem hl]
      · cases h
    · cases h
  · rename_i t x lo hi
    split at h
    · rename_i s ti hx ht
      split at h
      · rename_i l h' hd hl hh
        simp only [Option.some.injEq, Prod.mk.injEq, decide_eq_true_eq] at h
        obtain ⟨⟨h1, h2, h3⟩, rfl, rfl⟩ := h
        have e1 := getB_some (d := 0) hl h1
        have e2 := getB_some (d := s.size) hh (by omega)
        simp only [aopX, isX, aop, aslice, ht, hx, hd, e1, e2]
        rw [if_pos ⟨by omega, by omega⟩]
      · cases h
    · rename_i ti hx ht
      split at h
      · rename_i e l h' hd hl hh
        split at h
        · rename_i ei he
          simp only [Option.some.injEq, Prod.mk.injEq, decide_eq_true_eq] at h
          obtain ⟨⟨rfl, rfl⟩, rfl, rfl⟩ := h
          have e1 := getB_some (d := 0) hl (by omega)
          have e2 := getB_some (d := 0) hh (by omega)
          simp only [aopX, isX, aop, aslice, ht, hx, hd, e1, e2, he]
          rfl
        · cases h
      · cases h
    · rename_i b o n c ti hx ht
      split at h
      · rename_i e hd
        split at h
        · rename_i sz l h' hsz hl hh hst
          simp only [Option.some.injEq, Prod.mk.injEq, decide_eq_true_eq] at h
          obtain ⟨⟨h1, h2, h3⟩, rfl, rfl⟩ := h
          have e1 := getB_some (d := 0) hl h1
          have e2 := getB_some (d := n) hh (by omega)
          rw [hsz] at hst
          simp only [aopX, isX, aop, aslice, ht, hx, hd, hsz, e1, e2]
          rw [if_pos ⟨by omega, by omega, hst⟩]
        · cases h
      · cases h
    · cases h
  · rename_i s d x
    split at h
    · rename_i a i j hx hs hd
      split at h
      · rename_i e h1 h2
        split at h
        · rename_i ei he
          split at h
          · rename_i h3 h4
            simp only [Option.some.injEq, Prod.mk.injEq] at h
            obtain ⟨h5, rfl, rfl⟩ := h
            replace h5 := of_decide_eq_true h5
            simp only [aopX, isX, aop, aconv, hs, hd, h1, h2, hx, he, h3]
            rw [if_pos ⟨h4, h5⟩]
          · cases h
        · cases h
      · cases h
    · rename_i b o n c i j hx hs hd
      split at h
      · rename_i e h1 h2
        split at h
        · rename_i ei he
          split at h
          · rename_i cs t st anc h3 h4
            simp only [Option.some.injEq, Prod.mk.injEq, Bool.and_eq_true, decide_eq_true_eq] at h
            obtain ⟨⟨h5, h6⟩, rfl, rfl⟩ := h
            have hb : (if n = 0 then some [] else rd H b o n) = some ((cs.drop o).take n) := by
              by_cases hn : n = 0
              · rw [if_pos hn, hn]; simp
              · rw [if_neg hn]; unfold rd; rw [h4]; simp only []; rw [if_pos h5]
            simp only [aopX, isX, aop, aconv, hs, hd, h1, h2, hx, he, h3, hb, u8s_unbytes h6]
          · cases h
        · cases h
      · cases h
    · cases h
  · rename_i t l c
    split at h
    · rename_i i kl l0 kc c0 ht hl hc
      split at h
      · rename_i e hd
        split at h
        · rename_i ei he
          split at h
          · rename_i z hz
            split at h
            · rename_i zc hzc
              split at h
              · rename_i hn
                simp only [Option.some.injEq, Prod.mk.injEq, decide_eq_true_eq] at h
                obtain ⟨h1, rfl, rfl⟩ := h
                simp only [aopX, isX, aop, amakeSlice, ht, hl, hc, hd, he, hz, hzc]
                rw [if_pos ⟨Nat.eq_of_beq_eq_true hn, h1⟩]
              · cases h
            · cases h
          · cases h
        · cases h
      · cases h
    · cases h
  · cases h

/-! ### Rows whose sizes need not be numbers -/
def wrK (H : AHeap) (b o : Nat) (vs : List Value) (K : AHeap → Prop) : Prop :=
  match H.get b with
  | some (.cells cs t .live anc) => ifK (decide (o + vs.length ≤ cs.length)) (K ((H.kill anc).set b (.cells (splice cs o vs) t .live []))) False
  | _ => False
theorem wrK_ok {H : AHeap} {b o : Nat} {vs : List Value} {K : AHeap → Prop} (h : wrK H b o vs K) : ∃ H', wr H b o vs = some H' ∧ K H' := by
  unfold wrK at h
  unfold wr
  split at h
  · rename_i cs t anc hg
    rcases ifK_or h with ⟨h1, h2⟩ | ⟨_, h⟩
    · rw [hg]; simp only []; rw [if_pos (of_decide_eq_true h1)]; exact ⟨_, rfl, h2⟩
    · cases h
  · cases h
def storeK (E : Env) (t : TypeId) (a v : Value) (H : AHeap) (K : Value → AHeap → Prop) : Prop :=
  match a with
  | .pointer (some ⟨b, o, none⟩) =>
    match E.ty t with
    | some i =>
      match acells v with
      | some cs => (match Nat.beq cs.length i.size with | true => wrK H b o cs fun H' => K (.tuple #[]) H' | false => False)
      | none => False
    | none => False
  | _ => False
theorem storeK_ok {E : Env} {t : TypeId} {a v : Value} {H : AHeap} {K : Value → AHeap → Prop} (h : storeK E t a v H K) : ∃ H', astore E t a v H = some H' ∧ K (.tuple #[]) H' := by
  unfold storeK at h
  unfold astore
  split at h
  · rename_i b o
    split at h
    · rename_i i hi
      split at h
      · rename_i cs hc
        split at h
        · rename_i hn
          obtain ⟨H', h1, h2⟩ := wrK_ok h
          simp only [hi, hc]
          rw [if_pos (Nat.eq_of_beq_eq_true hn)]
          exact ⟨H', h1, h2⟩
        · cases h
      · cases h
    · cases h
  · cases h
def asrcK (sz : Nat) (x : Value) (H : AHeap) (K : Nat → List Value → Prop) : Prop :=
  match x with
  | .slice none 0 0 => K 0 []
  | .slice (some ⟨b, o, none⟩) n _ =>
    match H.get b with
    | some (.cells cs _ _ _) => ifK (decide (o + n * sz ≤ cs.length)) (K n ((cs.drop o).take (n * sz))) False
    | _ => False
  | .string s => (match Nat.beq sz 1 with | true => K s.size (bytesOf s) | false => False)
  | _ => False
theorem asrcK_ok {sz : Nat} {x : Value} {H : AHeap} {K : Nat → List Value → Prop} (h : asrcK sz x H K) : ∃ m new, asrc sz x H = some (m, new) ∧ K m new := by
  unfold asrcK at h
  unfold asrc
  split at h
  · exact ⟨_, _, rfl, h⟩
  · rename_i b o n c
    split at h
    · rename_i cs t st anc hg
      rcases ifK_or h with ⟨h1, h2⟩ | ⟨_, h⟩
      · replace h1 := of_decide_eq_true h1
        by_cases hn : n = 0
        · subst hn
          refine ⟨0, [], by simp, ?_⟩
          simpa using h2
        · refine ⟨n, (cs.drop o).take (n * sz), ?_, h2⟩
          have : rd H b o (n * sz) = some ((cs.drop o).take (n * sz)) := by unfold rd; rw [hg]; simp only []; rw [if_pos h1]
          simp only [this, if_neg hn]
      · cases h
    · cases h
  · split at h
    · rename_i hs
      simp only [if_pos (Nat.eq_of_beq_eq_true hs)]
      exact ⟨_, _, rfl, h⟩
    · cases h
  · cases h
def aaddK (E : Env) (xt : TypeId) (ei : TyI) (z : Value) (x : Value) (H : AHeap) (K : Nat → List Value → Prop) : Prop :=
  match E.ty xt with
  | none => False
  | some xi =>
    match xi.desc with
    | .slice _ => asrcK ei.size x H K
    | .string => asrcK ei.size x H K
    | _ => match aadd E xt ei z x H with | some (m, new) => K m new | none => False
theorem aaddK_ok {E : Env} {xt : TypeId} {ei : TyI} {z x : Value} {H : AHeap} {K : Nat → List Value → Prop} (h : aaddK E xt ei z x H K) : ∃ m new, aadd E xt ei z x H = some (m, new) ∧ K m new := by
  unfold aaddK at h
  split at h
  · cases h
  · rename_i xi hx
    split at h
    · rename_i e hd
      obtain ⟨m, new, h1, h2⟩ := asrcK_ok h
      exact ⟨m, new, by unfold aadd; simp only [hx, hd, h1], h2⟩
    · rename_i hd
      obtain ⟨m, new, h1, h2⟩ := asrcK_ok h
      exact ⟨m, new, by unfold aadd; simp only [hx, hd, h1], h2⟩
    · split at h
      · rename_i m new hm; exact ⟨m, new, hm, h⟩
      · cases h
def growK (ei : TyI) (e : TypeId) (b o n c m : Nat) (new : List Value) (fl : Bool) (H : AHeap) (K : Value → AHeap → Prop) : Prop :=
  match H.get b with
  | some (.cells cs t .live anc) =>
    match decide (t.sz = ei.size ∧ (t.el = none ∨ t.el = some e)) with
    | true => ifK (decide (o + c * t.sz = cs.length ∧ n ≤ c ∧ (n + m) * ei.bytes ≤ 140737488355328 ∧ n + m < 4611686018427387904))
        (K (.slice (some ⟨H.size, 0, none⟩) (n + m) (n + m)) ((taken H b cs t anc fl).push (.cells ((cs.drop o).take (n * t.sz) ++ new) t .live (takenAnc b anc fl)))) False
    | false => False
  | _ => False
def appK (E : Env) (st xt : TypeId) (s x : Value) (H : AHeap) (K : Value → AHeap → Prop) : Prop :=
  match E.ty st with
  | none => False
  | some i =>
    match i.desc with
    | .slice e =>
      match E.ty e with
      | none => False
      | some ei =>
        match ei.zero with
        | none => False
        | some z =>
          aaddK E xt ei z x H fun m new =>
            match s with
            | .slice none 0 0 =>
              ifK (decide (m = 0)) (K s H)
                (ifK (decide (m * ei.bytes ≤ 140737488355328 ∧ m < 4611686018427387904)) (K (.slice (some ⟨H.size, 0, none⟩) m m) (H.push (.cells new ⟨ei.size, some e, true⟩ .live []))) False)
            | .slice (some ⟨b, o, none⟩) n c =>
              ifK (decide (m = 0)) (K s H)
                (ifK (n == c) (growK ei e b o n c m new true H K)
                  (ifK (decide (n + m ≤ c)) (match strided H b ei.size with | true => wrK H b (o + n * ei.size) new fun H' => K (.slice (some ⟨b, o, none⟩) (n + m) c) H' | false => False)
                    (growK ei e b o n c m new false H K)))
            | _ => False
    | _ => False
theorem appK_ok {E : Env} {st xt : TypeId} {s x : Value} {H : AHeap} {K : Value → AHeap → Prop} (h : appK E st xt s x H K) : ∃ v H', aappend E st xt s x H = some (v, H') ∧ K v H' := by
  unfold appK at h
  unfold aappend
  split at h
  · cases h
  rename_i i hi
  simp only [hi]
  split at h
  case h_2 => cases h
  rename_i e he
  simp only [he]
  split at h
  · cases h
  rename_i ei hei
  simp only [hei]
  split at h
  · cases h
  rename_i z hz
  simp only [hz]
  have hh := aaddK_ok h
  clear h
  obtain ⟨m, new, hadd, h⟩ := hh
  simp only [hadd]
  have grow : ∀ b o n c fl, m ≠ 0 → (n == c) = fl → ¬ n + m ≤ c → growK ei e b o n c m new fl H K →
      ∃ v H', (match H.get b with
                | some (.cells cs t .live anc) =>
                  if (t.sz = ei.size ∧ (t.el = none ∨ t.el = some e)) ∧ o + c * t.sz = cs.length ∧ n ≤ c ∧ (n + m) * ei.bytes ≤ 140737488355328 ∧ n + m < 4611686018427387904 then
                    some (Value.slice (some ⟨H.size, 0, none⟩) (n + m) (n + m),
                      (taken H b cs t anc (n == c)).push (.cells ((cs.drop o).take (n * t.sz) ++ new) t .live (takenAnc b anc (n == c))))
                  else none
                | _ => none) = some (v, H') ∧ K v H' := by
    intro b o n c fl hm hf hnc h
    unfold growK at h
    split at h
    · rename_i cs t anc hg
      try simp only [hg]
      split at h
      · rename_i hd
        rcases ifK_or h with ⟨h1, h2⟩ | ⟨_, h⟩
        · rw [if_pos ⟨of_decide_eq_true hd, of_decide_eq_true h1⟩, hf]
          exact ⟨_, _, rfl, h2⟩
        · cases h
      · cases h
    · cases h
  split at h
  · rcases ifK_or h with ⟨h1, h2⟩ | ⟨h1, h⟩
    · simp only []; rw [if_pos (of_decide_eq_true h1)]; exact ⟨_, _, rfl, h2⟩
    · simp only []
      rw [if_neg (of_decide_eq_false h1)]
      rcases ifK_or h with ⟨h1, h2⟩ | ⟨_, h⟩
      · rw [if_pos (of_decide_eq_true h1)]; exact ⟨_, _, rfl, h2⟩
      · cases h
  · rename_i b o n c
    rcases ifK_or h with ⟨h1, h2⟩ | ⟨h1, h⟩
    · simp only []; rw [if_pos (of_decide_eq_true h1)]; exact ⟨_, _, rfl, h2⟩
    · have hm := of_decide_eq_false h1
      simp only []
      rw [if_neg hm]
      rcases ifK_or h with ⟨h1, h2⟩ | ⟨h1, h⟩
      · have hnc : n = c := by simpa using h1
        rw [if_neg (by omega)]
        exact grow b o n c true hm h1 (by omega) h2
      · rcases ifK_or h with ⟨h2, h⟩ | ⟨h2, h⟩
        · rw [if_pos (of_decide_eq_true h2)]
          split at h
          · rename_i hst
            rw [if_pos hst]
            obtain ⟨H', h3, h4⟩ := wrK_ok h
            rw [h3]
            exact ⟨_, _, rfl, h4⟩
          · cases h
        · rw [if_neg (of_decide_eq_false h2)]
          exact grow b o n c false hm h1 (of_decide_eq_false h2) h
  · cases h

def appKF (E : Env) (st xt : TypeId) (s x : Value) (H : AHeap) (K : Value → AHeap → Prop) : Prop :=
  match E.ty st with
  | none => False
  | some i =>
    match i.desc with
    | .slice e =>
      match E.ty e with
      | none => False
      | some ei =>
        match ei.zero with
        | none => False
        | some z =>
          aaddK E xt ei z x H fun m new =>
            match s with
            | .slice none 0 0 =>
              ifK (decide (m = 0)) (K s H)
                (ifK (decide (m * ei.bytes ≤ 140737488355328 ∧ m < 4611686018427387904)) (K (.slice (some ⟨H.size, 0, none⟩) m m) (H.push (.cells new ⟨ei.size, some e, true⟩ .live []))) False)
            | .slice (some ⟨b, o, none⟩) n c =>
              ifK (decide (m = 0)) (K s H) (ifK (n == c) (growK ei e b o n c m new true H K) False)
            | _ => False
    | _ => False
theorem appKF_ok {E : Env} {st xt : TypeId} {s x : Value} {H : AHeap} {K : Value → AHeap → Prop} (h : appKF E st xt s x H K) : ∃ v H', aappend E st xt s x H = some (v, H') ∧ K v H' := by
  unfold appKF at h
  unfold aappend
  split at h
  · cases h
  rename_i i hi
  simp only [hi]
  split at h
  case h_2 => cases h
  rename_i e he
  simp only [he]
  split at h
  · cases h
  rename_i ei hei
  simp only [hei]
  split at h
  · cases h
  rename_i z hz
  simp only [hz]
  have hh := aaddK_ok h
  clear h
  obtain ⟨m, new, hadd, h⟩ := hh
  simp only [hadd]
  have grow : ∀ b o n c fl, m ≠ 0 → (n == c) = fl → ¬ n + m ≤ c → growK ei e b o n c m new fl H K →
      ∃ v H', (match H.get b with
                | some (.cells cs t .live anc) =>
                  if (t.sz = ei.size ∧ (t.el = none ∨ t.el = some e)) ∧ o + c * t.sz = cs.length ∧ n ≤ c ∧ (n + m) * ei.bytes ≤ 140737488355328 ∧ n + m < 4611686018427387904 then
                    some (Value.slice (some ⟨H.size, 0, none⟩) (n + m) (n + m),
                      (taken H b cs t anc (n == c)).push (.cells ((cs.drop o).take (n * t.sz) ++ new) t .live (takenAnc b anc (n == c))))
                  else none
                | _ => none) = some (v, H') ∧ K v H' := by
    intro b o n c fl hm hf hnc h
    unfold growK at h
    split at h
    · rename_i cs t anc hg
      try simp only [hg]
      split at h
      · rename_i hd
        rcases ifK_or h with ⟨h1, h2⟩ | ⟨_, h⟩
        · rw [if_pos ⟨of_decide_eq_true hd, of_decide_eq_true h1⟩, hf]
          exact ⟨_, _, rfl, h2⟩
        · cases h
      · cases h
    · cases h
  split at h
  · rcases ifK_or h with ⟨h1, h2⟩ | ⟨h1, h⟩
    · simp only []; rw [if_pos (of_decide_eq_true h1)]; exact ⟨_, _, rfl, h2⟩
    · simp only []
      rw [if_neg (of_decide_eq_false h1)]
      rcases ifK_or h with ⟨h1, h2⟩ | ⟨_, h⟩
      · rw [if_pos (of_decide_eq_true h1)]; exact ⟨_, _, rfl, h2⟩
      · cases h
  · rename_i b o n c
    rcases ifK_or h with ⟨h1, h2⟩ | ⟨h1, h⟩
    · simp only []; rw [if_pos (of_decide_eq_true h1)]; exact ⟨_, _, rfl, h2⟩
    · have hm := of_decide_eq_false h1
      simp only []
      rw [if_neg hm]
      rcases ifK_or h with ⟨h1, h2⟩ | ⟨h1, h⟩
      · have hnc : n = c := by simpa using h1
        rw [if_neg (by omega)]
        exact grow b o n c true hm h1 (by omega) h2
      · cases h
  · cases h

/-! ### Maps whose keys need not be known -/
def findK (d : TypeDesc) (k : Value) : List (Value × Value) → Nat → (Option (Nat × Value) → Prop) → Prop
  | [], _, K => K none
  | (k', v) :: es, i, K =>
    match akeyeq d k k' with
    | some b => ifK b (K (some (i, v))) (findK d k es (i + 1) K)
    | none => False
theorem findK_ok {d : TypeDesc} {k : Value} : ∀ {es : List (Value × Value)} {i : Nat} {K : Option (Nat × Value) → Prop}, findK d k es i K → ∃ r, afind d k es i = some r ∧ K r := by
  intro es
  induction es with
  | nil => intro i K h; exact ⟨_, rfl, h⟩
  | cons p es ih =>
    intro i K h
    obtain ⟨k', v⟩ := p
    unfold findK at h
    unfold afind
    split at h
    · rename_i b hb
      rw [hb]
      rcases ifK_or h with ⟨rfl, h⟩ | ⟨rfl, h⟩
      · exact ⟨_, rfl, h⟩
      · exact ih h
    · cases h
def lookK (E : Env) (t : TypeId) (x k : Value) (ok : Bool) (H : AHeap) (K : Value → AHeap → Prop) : Prop :=
  match E.ty t with
  | none => False
  | some i =>
    match i.desc with
    | .map kt et =>
      match E.ty kt, azero E et with
      | some ki, some z =>
        match (match x with
          | .map none => some []
          | .map (some b) => (match H.get b with | some (.map es _ _) => some es | _ => none)
          | _ => none) with
        | none => False
        | some es =>
          (match akey ki.desc k with
          | true => findK ki.desc k es 0 fun r =>
            match r with
            | some (_, v) => (match ok with | true => K (.tuple #[v, .bool true]) H | false => K v H)
            | none => (match ok with | true => K (.tuple #[z, .bool false]) H | false => K z H)
          | false => False)
      | _, _ => False
    | _ => False
theorem lookK_ok {E : Env} {t : TypeId} {x k : Value} {ok : Bool} {H : AHeap} {K : Value → AHeap → Prop} (h : lookK E t x k ok H K) : ∃ v, alookup E t x k ok H = some v ∧ K v H := by
  unfold lookK at h
  unfold alookup
  split at h
  · cases h
  rename_i i hi
  simp only [hi]
  split at h
  case h_2 => cases h
  rename_i kt et hd
  simp only [hd]
  split at h
  case h_2 => cases h
  rename_i ki z hki hz
  simp only [hki, hz]
  split at h
  · cases h
  rename_i es hes
  split
  · rename_i he
    have := he.symm.trans hes
    cases this
  rename_i es' hes'
  have := hes'.symm.trans hes
  cases this
  split at h
  case h_2 => cases h
  rename_i hk
  rw [if_pos hk]
  obtain ⟨r, h1, h2⟩ := findK_ok h
  rw [h1]
  split at h2 <;> (cases ok <;> exact ⟨_, rfl, h2⟩)
def mputE (d : TypeDesc) (k v : Value) (es : List (Value × Value)) : List (Value × Value) :=
  match afind d k es 0 with
  | some (some (j, _)) => es.set j (k, v)
  | _ => es ++ [(k, v)]
def mputS (d : TypeDesc) (k : Value) (es : List (Value × Value)) (bs : List Nat × Nat) : List Nat × Nat :=
  match afind d k es 0 with
  | some (some _) => bs
  | _ => (bs.1 ++ [bs.2], bs.2 + 1)
def mdelE (d : TypeDesc) (k : Value) (es : List (Value × Value)) : List (Value × Value) :=
  match afind d k es 0 with
  | some (some (j, _)) => es.eraseIdx j
  | _ => es
def mdelS (d : TypeDesc) (k : Value) (es : List (Value × Value)) (bs : List Nat × Nat) : List Nat × Nat :=
  match afind d k es 0 with
  | some (some (j, _)) => (bs.1.eraseIdx j, bs.2)
  | _ => bs
def mhas (d : TypeDesc) (k : Value) (es : List (Value × Value)) : Bool := match afind d k es 0 with | some (some _) => true | _ => false
def mkeys (d : TypeDesc) (k : Value) (es : List (Value × Value)) : Bool := (afind d k es 0).isSome
/-- A map is written: its entries are known (test by test), or not (as a whole). -/
def updK (E : Env) (sy : Bool) (t : TypeId) (x k v : Value) (H : AHeap) (K : AHeap → Prop) : Prop :=
  match E.ty t, x with
  | some i, .map (some b) =>
    match i.desc with
    | .map kt _ =>
      match E.ty kt, H.get b with
      | some ki, some (.map es bs .live) =>
        (match akey ki.desc k with
        | true =>
          (match sy with
          | true => ifK (mkeys ki.desc k es) (K (H.set b (.map (mputE ki.desc k v es) (mputS ki.desc k es bs) .live))) False
          | false => findK ki.desc k es 0 fun r =>
            match r with
            | some (j, _) => K (H.set b (.map (es.set j (k, v)) bs .live))
            | none => K (H.set b (.map (es ++ [(k, v)]) (bs.1 ++ [bs.2], bs.2 + 1) .live)))
        | false => False)
      | _, _ => False
    | _ => False
  | _, _ => False
theorem updK_ok {E : Env} {sy : Bool} {t : TypeId} {x k v : Value} {H : AHeap} {K : AHeap → Prop} (h : updK E sy t x k v H K) : ∃ H', aupdate E t x k v H = some H' ∧ K H' := by
  unfold updK at h
  unfold aupdate
  split at h
  case h_2 => cases h
  rename_i i b hi
  simp only [hi]
  split at h
  case h_2 => cases h
  rename_i kt et hd
  simp only [hd]
  split at h
  case h_2 => cases h
  rename_i ki es bs hki hg
  simp only [hki, hg]
  split at h
  case h_2 => cases h
  rename_i hk
  rw [if_pos hk]
  cases sy with
  | true =>
    rcases ifK_or h with ⟨h1, h⟩ | ⟨_, h⟩
    · unfold mkeys at h1
      unfold mputE mputS at h
      cases hf : afind ki.desc k es 0 with
      | none => rw [hf] at h1; cases h1
      | some r =>
        rw [hf] at h
        cases r with
        | none => exact ⟨_, rfl, h⟩
        | some p => exact ⟨_, rfl, h⟩
    · cases h
  | false =>
    obtain ⟨r, h1, h2⟩ := findK_ok h
    rw [h1]
    cases r with
    | none => exact ⟨_, rfl, h2⟩
    | some p => exact ⟨_, rfl, h2⟩
def delK (E : Env) (sy : Bool) (t : TypeId) (x k : Value) (H : AHeap) (K : AHeap → Prop) : Prop :=
  match E.ty t with
  | none => False
  | some i =>
    match i.desc with
    | .map kt _ =>
      match E.ty kt with
      | none => False
      | some ki =>
        (match akey ki.desc k with
        | true =>
          match x with
          | .map none => K H
          | .map (some b) =>
            match H.get b with
            | some (.map es bs .live) =>
              (match sy with
              | true => ifK (mkeys ki.desc k es) (ifK (mhas ki.desc k es) (K (H.set b (.map (mdelE ki.desc k es) (mdelS ki.desc k es bs) .live))) (K H)) False
              | false => findK ki.desc k es 0 fun r =>
                match r with
                | some (j, _) => K (H.set b (.map (es.eraseIdx j) (bs.1.eraseIdx j, bs.2) .live))
                | none => K H)
            | _ => False
          | _ => False
        | false => False)
    | _ => False
theorem delK_ok {E : Env} {sy : Bool} {t : TypeId} {x k : Value} {H : AHeap} {K : AHeap → Prop} (h : delK E sy t x k H K) : ∃ H', adelete E t x k H = some H' ∧ K H' := by
  unfold delK at h
  unfold adelete
  split at h
  · cases h
  rename_i i hi
  simp only [hi]
  split at h
  case h_2 => cases h
  rename_i kt et hd
  simp only [hd]
  split at h
  · cases h
  rename_i ki hki
  simp only [hki]
  split at h
  case h_2 => cases h
  rename_i hk
  rw [if_pos hk]
  split at h
  · exact ⟨_, rfl, h⟩
  · rename_i b
    split at h
    case h_2 => cases h
    rename_i es bs hg
    simp only [hg]
    cases sy with
    | true =>
      rcases ifK_or h with ⟨h1, h⟩ | ⟨_, h⟩
      · unfold mkeys at h1
        unfold mhas mdelE mdelS at h
        cases hf : afind ki.desc k es 0 with
        | none => rw [hf] at h1; cases h1
        | some r =>
          rw [hf] at h
          cases r with
          | none => exact ⟨_, rfl, h⟩
          | some p => exact ⟨_, rfl, h⟩
      · cases h
    | false =>
      obtain ⟨r, h1, h2⟩ := findK_ok h
      rw [h1]
      cases r with
      | none => exact ⟨_, rfl, h2⟩
      | some p => exact ⟨_, rfl, h2⟩
  · cases h
def opK (E : Env) (hint : Option Hint) (ev : Operand → Value) (op : Op) (H : AHeap) (K : Value → AHeap → Prop) : Prop :=
  match hint with
  | some (.int k) => ∃ n : Int, toldK E ev op H (.int k n) (K (.int k n) H)
  | some .bool => ∃ b : Bool, toldK E ev op H (.bool b) (K (.bool b) H)
  | some .str => ∃ s : ByteArray, toldK E ev op H (.string s) (K (.string s) H)
  | some .slice => ∃ b o n c : Nat, toldK E ev op H (.slice (some ⟨b, o, none⟩) n c) (K (.slice (some ⟨b, o, none⟩) n c) H)
  | some (.agg l) => exV l fun vs => toldK E ev op H (.agg ⟨vs⟩) (K (.agg ⟨vs⟩) H)
  | some (.tup l) => exV l fun vs => toldK E ev op H (.tuple ⟨vs⟩) (K (.tuple ⟨vs⟩) H)
  | some (.is b) =>
    match aopX E ev op H with
    | some (.bool c, H') => (match b with | true => (match c with | true => K (.bool true) H' | false => False) | false => (match c with | true => False | false => K (.bool false) H'))
    | _ => False
  | some .full =>
    match op with
    | .call ⟨.builtin .append, args, ts⟩ =>
      (match args[0]?, args[1]?, ts[0]?, ts[1]? with
      | some s, some x, some st, some xt => appKF E st xt (ev s) (ev x) H K
      | _, _, _, _ => False)
    | _ => False
  | some .sym =>
    match op with
    | .mapUpdate t m k x => updK E true t (ev m) (ev k) (ev x) H fun H' => K (.tuple #[]) H'
    | .call ⟨.builtin .delete, args, ts⟩ =>
      (match args[0]?, args[1]?, ts[0]? with
      | some m, some k, some t => delK E true t (ev m) (ev k) H fun H' => K (.tuple #[]) H'
      | _, _, _ => False)
    | _ => False
  | none =>
    match op with
    | .pick c a b =>
      match ev c with
      | .bool t => (match t with | true => K (ev a) H | false => K (ev b) H)
      | _ => False
    | .indexAddr t x i =>
      match idxOf E t (ev x) (ev i) with
      | some (c, v) => (match c with | true => K v H | false => False)
      | none => False
    | .store t a x => storeK E t (ev a) (ev x) H K
    | .lookup t x k ok => lookK E t (ev x) (ev k) ok H K
    | .mapUpdate t m k x => updK E false t (ev m) (ev k) (ev x) H fun H' => K (.tuple #[]) H'
    | .call ⟨.builtin .delete, args, ts⟩ =>
      match args[0]?, args[1]?, ts[0]? with
      | some m, some k, some t => delK E false t (ev m) (ev k) H fun H' => K (.tuple #[]) H'
      | _, _, _ => False
    | .call ⟨.builtin .append, args, ts⟩ =>
      match args[0]?, args[1]?, ts[0]?, ts[1]? with
      | some s, some x, some st, some xt => appK E st xt (ev s) (ev x) H K
      | _, _, _, _ => False
    | op =>
      match condOp E ev op H with
      | some (c, v, H') => (match c with | true => partK (some (v, H')) K | false => False)
      | none => partK (aopX E ev op H) K

theorem opK_ok {E : Env} {hint : Option Hint} {ev : Operand → Value} {op : Op} {H : AHeap} {K : Value → AHeap → Prop} (h : opK E hint ev op H K) :
    ∃ v H', aopX E ev op H = some (v, H') ∧ K v H' := by
  unfold opK at h
  split at h
  · obtain ⟨n, h⟩ := h; exact ⟨_, _, toldK_ok h⟩
  · obtain ⟨n, h⟩ := h; exact ⟨_, _, toldK_ok h⟩
  · obtain ⟨n, h⟩ := h; exact ⟨_, _, toldK_ok h⟩
  · obtain ⟨b, o, n, c, h⟩ := h; exact ⟨_, _, toldK_ok h⟩
  · obtain ⟨vs, h⟩ := exV_some h; exact ⟨_, _, toldK_ok h⟩
  · obtain ⟨vs, h⟩ := exV_some h; exact ⟨_, _, toldK_ok h⟩
  · rename_i b
    split at h
    · rename_i c H' ha
      cases b <;> cases c <;> first | exact h.elim | exact ⟨_, _, ha, h⟩
    · exact h.elim
  · split at h
    · rename_i args ts
      split at h
      · rename_i s x st xt e1 e2 e3 e4
        obtain ⟨v, H', h1, h2⟩ := appKF_ok h
        refine ⟨v, H', ?_, h2⟩
        simp only [aopX, isX, aop, e1, e2, e3, e4, h1]
      · cases h
    · cases h
  · split at h
    · rename_i t m k x
      obtain ⟨H', h1, h2⟩ := updK_ok h
      exact ⟨_, H', by simp [aopX, isX, aop, h1], h2⟩
    · rename_i args ts
      split at h
      · rename_i m k t e1 e2 e3
        obtain ⟨H', h1, h2⟩ := delK_ok h
        exact ⟨_, H', by simp [aopX, isX, aop, e1, e2, e3, h1], h2⟩
      · cases h
    · cases h
  · split at h
    · rename_i c a b
      split at h
      · rename_i t hc
        cases t
        · exact ⟨ev b, H, by simp [aopX, isX, aop, hc], h⟩
        · exact ⟨ev a, H, by simp [aopX, isX, aop, hc], h⟩
      · cases h
    · rename_i t x i
      split at h
      · rename_i c v hi
        cases c
        · cases h
        · exact ⟨v, H, by simp [aopX, isX, aop, idxOf_ok hi], h⟩
      · cases h
    · rename_i t a x
      obtain ⟨H', h1, h2⟩ := storeK_ok h
      exact ⟨_, H', by simp [aopX, isX, aop, h1], h2⟩
    · rename_i t x k ok
      obtain ⟨v, h1, h2⟩ := lookK_ok h
      exact ⟨v, H, by simp [aopX, isX, aop, h1], h2⟩
    · rename_i t m k x
      obtain ⟨H', h1, h2⟩ := updK_ok h
      exact ⟨_, H', by simp [aopX, isX, aop, h1], h2⟩
    · rename_i args ts
      split at h
      · rename_i m k t e1 e2 e3
        obtain ⟨H', h1, h2⟩ := delK_ok h
        exact ⟨_, H', by simp [aopX, isX, aop, e1, e2, e3, h1], h2⟩
      · cases h
    · rename_i args ts
      split at h
      · rename_i s x st xt e1 e2 e3 e4
        obtain ⟨v, H', h1, h2⟩ := appK_ok h
        refine ⟨v, H', ?_, h2⟩
        simp only [aopX, isX, aop, e1, e2, e3, e4, h1]
      · cases h
    · split at h
      · rename_i c v H' hi
        cases c
        · cases h
        · obtain ⟨v', H2, e, h⟩ := partK_some h
          cases e
          exact ⟨v, H', condOp_ok hi, h⟩
      · exact partK_some h

def acallK (E : Env) (call : KCaller) : KCaller := fun g args H K =>
  match E.ext g with
  | some k => partK (extRun E k g args H) K
  | none => call g args H K
/-- What is told of an operation that has no result: at its map's number, and 100000. -/
def hintOf (hint : Tmp → Option Hint) (d : Option Tmp) (op : Op) : Option Hint :=
  match d with
  | some d => hint d
  | none =>
    match op with
    | .mapUpdate _ (.tmp j) _ _ => hint (100000 + j)
    | .call ⟨.builtin .delete, args, _⟩ => (match args[0]? with | some (Operand.tmp j) => hint (100000 + j) | _ => none)
    | _ => none
def stepK (E : Env) (hint : Tmp → Option Hint) (call : KCaller) (o : Oper) (tm : List Value) (H : AHeap) (K : Value → AHeap → Prop) : Prop :=
  match o.op with
  | .call ⟨.value f, args, _⟩ =>
    match aev tm f with
    | .func (.func g) first captured => acallK E call g (first.toList ++ (args.toList.map (aev tm) ++ captured.toList)) H K
    | _ => False
  | .call ⟨.invoke r m, args, _⟩ =>
    match aev tm r with
    | .iface t v =>
      match ameth E t m with
      | some g => acallK E call g (v :: args.toList.map (aev tm)) H K
      | none => False
    | _ => False
  | op => opK E (hintOf hint o.dst op) (aev tm) op H K

def KOk (call : Caller) (callK : KCaller) : Prop := ∀ g args H K, callK g args H K → ∃ v H', call g args H = some (v, H') ∧ K v H'

theorem stepK_ok {E : Env} {hint : Tmp → Option Hint} {call : Caller} {callK : KCaller} (hC : KOk call callK) {o : Oper} {tm : List Value} {H : AHeap} {K : Value → AHeap → Prop}
    (h : stepK E hint callK o tm H K) : ∃ v H', astep E call o tm H = some (v, H') ∧ K v H' := by
  have hA : KOk (acall E call) (acallK E callK) := by
    intro g args H K h
    unfold acallK at h
    unfold acall
    split at h
    · rename_i k hk; simp only [hk]; exact partK_some h
    · rename_i hk; simp only [hk]; exact hC _ _ _ _ h
  unfold stepK at h
  unfold astep astepE
  split at h
  · rename_i f args ts ho
    rw [ho]
    split at h
    · rename_i g first captured hf
      simp only [hf]
      exact hA _ _ _ _ h
    · cases h
  · rename_i r m args ts ho
    rw [ho]
    split at h
    · rename_i t v hf
      split at h
      · rename_i g hg
        simp only [hf, hg]
        exact hA _ _ _ _ h
      · cases h
    · cases h
  · rename_i hne hne2
    obtain ⟨v, H', h1, h2⟩ := opK_ok h
    refine ⟨v, H', ?_, h2⟩
    split
    · rename_i f args ts ho
      exact absurd ho (hne f args ts)
    · rename_i f m args ts ho
      exact absurd ho (hne2 f m args ts)
    · exact h1

def wantK (ops : Array Oper) (o : Oper) (tm : List Value) (yes no : Prop) : Prop :=
  match o.guard with
  | none => yes
  | some (j, want) =>
    match (ops[j]?).bind (·.dst) with
    | none => no
    | some t =>
      match tm[t]? with
      | some (.bool b) => (match want with | true => (match b with | true => yes | false => no) | false => (match b with | true => no | false => yes))
      | some (.tuple _) => no
      | none => no
      | _ => False
theorem wantK_or {ops : Array Oper} {o : Oper} {tm : List Value} {yes no : Prop} (h : wantK ops o tm yes no) :
    (awant ops o tm = some true ∧ yes) ∨ (awant ops o tm = some false ∧ no) := by
  unfold wantK at h
  unfold awant
  split at h
  · rename_i hg; rw [hg]; exact .inl ⟨rfl, h⟩
  · rename_i j want hg
    rw [hg]
    simp only
    split at h
    · rename_i hd; rw [hd]; exact .inr ⟨rfl, h⟩
    · rename_i t hd
      rw [hd]
      simp only
      split at h
      · rename_i b ht
        rw [ht]
        cases want <;> cases b <;> first | exact .inl ⟨rfl, h⟩ | exact .inr ⟨rfl, h⟩
      · rename_i x ht; rw [ht]; exact .inr ⟨rfl, h⟩
      · rename_i ht; rw [ht]; exact .inr ⟨rfl, h⟩
      · cases h

def opsK (E : Env) (hint : Tmp → Option Hint) (call : KCaller) (ops : Array Oper) : List Oper → List Value → AHeap → (List Value → AHeap → Prop) → Prop
  | [], tm, H, K => K tm H
  | o :: rest, tm, H, K =>
    wantK ops o tm (stepK E hint call o tm H fun v H' => opsK E hint call ops rest (aputT tm o.dst v) H' K) (opsK E hint call ops rest (aputT tm o.dst undef) H K)

theorem opsK_ok {E : Env} {hint : Tmp → Option Hint} {call : Caller} {callK : KCaller} (hC : KOk call callK) {ops : Array Oper} : ∀ (os : List Oper) (tm : List Value) (H : AHeap) (K : List Value → AHeap → Prop),
    opsK E hint callK ops os tm H K → ∃ tm' H', aops E call ops os tm H = some (tm', H') ∧ K tm' H' := by
  intro os
  induction os with
  | nil => intro tm H K h; exact ⟨tm, H, rfl, h⟩
  | cons o os ih =>
    intro tm H K h
    simp only [opsK] at h
    rcases wantK_or h with ⟨hw, h⟩ | ⟨hw, h⟩
    · obtain ⟨v, H1, h1, h2⟩ := stepK_ok hC h
      obtain ⟨tm', H', h3, h4⟩ := ih _ _ _ h2
      exact ⟨tm', H', by simp only [aops, hw, h1, h3], h4⟩
    · obtain ⟨tm', H', h3, h4⟩ := ih _ _ _ h
      exact ⟨tm', H', by simp only [aops, hw, h3], h4⟩

/-! ### Equality, told -/
def veqbK (x y : Value) (K : Prop) : Prop :=
  match x, y with
  | .bool a, .bool b => a = b ∧ K
  | .int k a, .int k' b => k = k' ∧ a = b ∧ K
  | .string a, .string b => a = b ∧ K
  | x, y => ifK (veqb x y) K False
theorem veqbK_ok {x y : Value} {K : Prop} (h : veqbK x y K) : veqb x y = true ∧ K := by
  unfold veqbK at h
  split at h
  · obtain ⟨rfl, h⟩ := h; exact ⟨by simp [veqb], h⟩
  · obtain ⟨rfl, rfl, h⟩ := h; exact ⟨by simp [veqb], h⟩
  · obtain ⟨rfl, h⟩ := h; exact ⟨by simp [veqb, seq_iff], h⟩
  · rcases ifK_or h with ⟨h1, h2⟩ | ⟨_, h⟩
    · exact ⟨h1, h2⟩
    · cases h
def veq0K (x y : Value) (K : Prop) : Prop :=
  match x, y with
  | .iface t x, .iface u y => t = u ∧ veqbK x y K
  | x, y => veqbK x y K
theorem veq0K_ok {x y : Value} {K : Prop} (h : veq0K x y K) : veq0 x y = true ∧ K := by
  unfold veq0K at h
  split at h
  · obtain ⟨rfl, h⟩ := h
    obtain ⟨h1, h2⟩ := veqbK_ok h
    exact ⟨by simp [veq0, h1], h2⟩
  · rename_i hne
    obtain ⟨h1, h2⟩ := veqbK_ok h
    refine ⟨?_, h2⟩
    unfold veq0
    split
    · rename_i t x u y; exact absurd rfl (hne t x u y rfl)
    · exact h1
def leqK (f : Value → Value → Prop → Prop) : List Value → List Value → Prop → Prop
  | [], [], K => K
  | x :: xs, y :: ys, K => f x y (leqK f xs ys K)
  | _, _, _ => False
theorem leqK_ok {f : Value → Value → Prop → Prop} {g : Value → Value → Bool} (hf : ∀ x y K, f x y K → g x y = true ∧ K) : ∀ {xs ys : List Value} {K : Prop}, leqK f xs ys K → leq g xs ys = true ∧ K := by
  intro xs
  induction xs with
  | nil => intro ys K h; cases ys <;> simp [leqK, leq] at h ⊢; exact h
  | cons x xs ih =>
    intro ys K h
    cases ys with
    | nil => simp [leqK] at h
    | cons y ys =>
      simp only [leqK] at h
      obtain ⟨h1, h2⟩ := hf _ _ _ h
      obtain ⟨h3, h4⟩ := ih h2
      exact ⟨by simp [leq, h1, h3], h4⟩
def veq1K (x y : Value) (K : Prop) : Prop :=
  match x, y with
  | .agg xs, .agg ys => leqK veq0K xs.toList ys.toList K
  | x, y => veq0K x y K
theorem veq1K_ok {x y : Value} {K : Prop} (h : veq1K x y K) : veq1 x y = true ∧ K := by
  unfold veq1K at h
  split at h
  · exact leqK_ok (fun _ _ _ q => veq0K_ok q) h
  · rename_i hne
    obtain ⟨h1, h2⟩ := veq0K_ok h
    refine ⟨?_, h2⟩
    unfold veq1
    split
    · rename_i x y; exact absurd rfl (hne x y rfl)
    · exact h1
def veqK (x y : Value) (K : Prop) : Prop :=
  match x, y with
  | .tuple xs, .tuple ys => leqK veq1K xs.toList ys.toList K
  | x, y => veq1K x y K
theorem veqK_ok {x y : Value} {K : Prop} (h : veqK x y K) : veq x y = true ∧ K := by
  unfold veqK at h
  split at h
  · exact leqK_ok (fun _ _ _ q => veq1K_ok q) h
  · rename_i hne
    obtain ⟨h1, h2⟩ := veq1K_ok h
    refine ⟨?_, h2⟩
    unfold veq
    split
    · rename_i x y; exact absurd rfl (hne x y rfl)
    · exact h1
def oeqK (x y : Option AObj) (K : Prop) : Prop :=
  match x, y with
  | some (.cells cs t .live []), some (.cells ds u .live []) => t = u ∧ leqK veq0K cs ds K
  | some (.map [] ([], 0) .live), some (.map [] ([], 0) .live) => K
  | _, _ => False
theorem oeqK_ok {x y : Option AObj} {K : Prop} (h : oeqK x y K) : oeq x y = true ∧ K := by
  unfold oeqK at h
  split at h
  · obtain ⟨rfl, h⟩ := h
    obtain ⟨h1, h2⟩ := leqK_ok (fun _ _ _ q => veq0K_ok q) h
    exact ⟨by simp [oeq, h1], h2⟩
  · exact ⟨rfl, h⟩
  · cases h
theorem condOp_aop {E : Env} {ev : Operand → Value} {op : Op} {H H' : AHeap} {v : Value} (h : condOp E ev op H = some (true, v, H')) : aop E ev op H = some (v, H') := by
  have h1 := condOp_ok h
  unfold condOp at h
  split at h
  case h_8 => cases h
  all_goals exact h1
/-- The same, of rows whose sizes need not be numbers: as a whole. -/
def oeqW (x y : Option AObj) (K : Prop) : Prop :=
  match x, y with
  | some (.cells cs t .live []), some (.cells ds u .live []) => cs = ds ∧ t = u ∧ leq veq0 cs cs = true ∧ K
  | some (.map [] ([], 0) .live), some (.map [] ([], 0) .live) => K
  | _, _ => False
theorem oeqW_ok {x y : Option AObj} {K : Prop} (h : oeqW x y K) : oeq x y = true ∧ K := by
  unfold oeqW at h
  split at h
  · obtain ⟨rfl, rfl, h1, h2⟩ := h
    exact ⟨by simp [oeq, h1], h2⟩
  · exact ⟨rfl, h⟩
  · cases h

/-! ### Regions whose order is drawn -/
def chkK (E : Env) (w : Bool) (ck : List Nat) (H H' : AHeap) : List Seen → Prop → Prop
  | [], K => K
  | s :: W, K =>
    match ck.contains s.i with
    | false => chkK E w ck H H' W K
    | true =>
      match kindOf E s.op with
      | .read =>
        match (match w with | true => condOp E (aev s.tm) s.op H' | false => none) with
        | some (c, v', _) => (match c with | true => veqK s.v v' (chkK E w ck H H' W K) | false => False)
        | none =>
          match aop E (aev s.tm) s.op H' with
          | some (v', _) => veqK s.v v' (chkK E w ck H H' W K)
          | none => False
      | .alloc =>
        match idOf s.v with
        | some b => (match w with | true => oeqW (H.get b) (H'.get b) (chkK E w ck H H' W K) | false => oeqK (H.get b) (H'.get b) (chkK E w ck H H' W K))
        | none => False
      | _ => False
/-- A call that is marked so compares rows as wholes. -/
def wholeH : Option Hint → Bool
  | some (.tup []) => true
  | _ => false
theorem chkK_ok {E : Env} {w : Bool} {ck : List Nat} {H H' : AHeap} : ∀ {W : List Seen} {K : Prop}, chkK E w ck H H' W K → W.all (fun s => !ck.contains s.i || achk E s H H') = true ∧ K := by
  intro W
  induction W with
  | nil => intro K h; exact ⟨rfl, h⟩
  | cons s W ih =>
    intro K h
    rw [chkK.eq_def] at h
    simp only at h
    cases hc : ck.contains s.i with
    | false =>
      rw [hc] at h
      obtain ⟨h1, h2⟩ := ih h
      exact ⟨by simp only [List.all_cons, hc, Bool.not_false, Bool.true_or, Bool.true_and]; exact h1, h2⟩
    | true =>
      rw [hc] at h
      simp only at h
      have : achk E s H H' = true ∧ chkK E w ck H H' W K := by
        unfold achk
        split at h
        · rename_i hk
          rw [hk]
          split at h
          · rename_i c v' H'' hq
            cases w with
            | false => cases hq
            | true =>
              cases c with
              | false => cases h
              | true =>
                simp only [condOp_aop hq]
                exact veqK_ok h
          · split at h
            · rename_i v' H'' ha
              simp only [ha]
              exact veqK_ok h
            · cases h
        · rename_i hk
          rw [hk]
          split at h
          · rename_i b hb
            simp only [hb]
            cases w with
            | true => exact oeqW_ok h
            | false => exact oeqK_ok h
          · cases h
        · cases h
      obtain ⟨h1, h2⟩ := ih this.2
      exact ⟨by simp only [List.all_cons, hc, this.1, Bool.or_true, Bool.true_and]; exact h1, h2⟩

def drawGoK (E : Env) (hint : Tmp → Option Hint) (call : KCaller) (ops : Array Oper) : List (Nat × List Nat) → List Seen → List Value → AHeap → (List Value → AHeap → Prop) → Prop
  | [], _, tm, H, K => K tm H
  | (i, ck) :: rest, W, tm, H, K =>
    match ops[i]? with
    | none => False
    | some o =>
      wantK ops o tm
        (stepK E hint call o tm H fun v H' => chkK E (wholeH (match o.dst with | some d => hint d | none => none)) ck H H' W
          (match isSeen E o.op with
           | true => drawGoK E hint call ops rest (⟨i, o.op, tm, v⟩ :: W) (aputT tm o.dst v) H' K
           | false => drawGoK E hint call ops rest W (aputT tm o.dst v) H' K))
        (drawGoK E hint call ops rest W (aputT tm o.dst undef) H K)
theorem drawGoK_ok {E : Env} {hint : Tmp → Option Hint} {call : Caller} {callK : KCaller} (hC : KOk call callK) {ops : Array Oper} : ∀ (os : List (Nat × List Nat)) (W : List Seen) (tm : List Value) (H : AHeap) (K : List Value → AHeap → Prop),
    drawGoK E hint callK ops os W tm H K → ∃ tm' H', adrawGo E call ops os W tm H = some (tm', H') ∧ K tm' H' := by
  intro os
  induction os with
  | nil => intro W tm H K h; exact ⟨tm, H, rfl, h⟩
  | cons p os ih =>
    obtain ⟨i, ck⟩ := p
    intro W tm H K h
    rw [drawGoK] at h
    rw [adrawGo]
    split at h
    · cases h
    · rename_i o ho
      simp only [ho]
      rcases wantK_or h with ⟨hw, h⟩ | ⟨hw, h⟩
      · obtain ⟨v, H1, h1, h2⟩ := stepK_ok hC h
        obtain ⟨h3, h4⟩ := chkK_ok h2
        simp only [hw, h1]
        rw [if_pos h3]
        split at h4
        · rename_i hs
          rw [if_pos hs]
          exact ih _ _ _ _ h4
        · rename_i hs
          rw [if_neg (by rw [hs]; simp)]
          exact ih _ _ _ _ h4
      · simp only [hw]
        exact ih _ _ _ _ h

/-! ### Code -/
def loopK (body : List Value → AHeap → (AX → List Value → AHeap → Prop) → Prop) : Nat → List Value → AHeap → (AX → List Value → AHeap → Prop) → Prop
  | 0, _, _, _ => False
  | n + 1, tm, H, K => body tm H fun x tm' H' => match x with | .normal => loopK body n tm' H' K | x => K x tm' H'

def codeK (E : Env) (hint : Tmp → Option Hint) (call : KCaller) (draw : Nat → Array Oper → List Value → AHeap → (List Value → AHeap → Prop) → Prop) (n : Nat) :
    Code → List Value → AHeap → (AX → List Value → AHeap → Prop) → Prop
  | .skip, tm, H, K => K .normal tm H
  | .label _, tm, H, K => K .normal tm H
  | .region id ops d, tm, H, K => (match d with | true => draw id ops tm H | false => opsK E hint call ops ops.toList tm H) fun tm' H' => K .normal tm' H'
  | .seq a b, tm, H, K => codeK E hint call draw n a tm H fun x tm' H' => match x with | .normal => codeK E hint call draw n b tm' H' K | x => K x tm' H'
  | .cond c a b, tm, H, K =>
    match aev tm c with
    | .bool t => (match t with | true => codeK E hint call draw n a tm H K | false => codeK E hint call draw n b tm H K)
    | _ => False
  | .block id c, tm, H, K => codeK E hint call draw n c tm H fun x tm' H' => match x with | .exit i => if i = id then K .normal tm' H' else K (.exit i) tm' H' | x => K x tm' H'
  | .loop c, tm, H, K => loopK (codeK E hint call draw n c) n tm H K
  | .scope c, tm, H, K => codeK E hint call draw n c tm H K
  | .exit id, tm, H, K => K (.exit id) tm H
  | .ret, tm, H, K => K .ret tm H
  | _, _, _, _ => False

theorem codeK_ok {E : Env} {hint : Tmp → Option Hint} {call : Caller} {callK : KCaller} (hC : KOk call callK)
    {draw : Nat → Array Oper → List Value → AHeap → Option (List Value × AHeap)} {drawK : Nat → Array Oper → List Value → AHeap → (List Value → AHeap → Prop) → Prop}
    (hD : ∀ id ops tm H K, drawK id ops tm H K → ∃ tm' H', draw id ops tm H = some (tm', H') ∧ K tm' H') (n : Nat) :
    ∀ (c : Code) (tm : List Value) (H : AHeap) (K : AX → List Value → AHeap → Prop), codeK E hint callK drawK n c tm H K →
      ∃ x tm' H', acode E call draw n c tm H = some (x, tm', H') ∧ K x tm' H' := by
  intro c
  induction c with
  | skip => intro tm H K h; exact ⟨_, _, _, rfl, h⟩
  | label l => intro tm H K h; exact ⟨_, _, _, rfl, h⟩
  | exit id => intro tm H K h; exact ⟨_, _, _, rfl, h⟩
  | ret => intro tm H K h; exact ⟨_, _, _, rfl, h⟩
  | goto l => intro tm H K h; exact h.elim
  | refuse s => intro tm H K h; exact h.elim
  | rangeFunc f ps p q ih1 ih2 => intro tm H K h; exact h.elim
  | region id ops d =>
    intro tm H K h
    cases d with
    | true =>
      simp only [codeK] at h
      simp only [acode]
      obtain ⟨tm', H', h1, h2⟩ := hD _ _ _ _ _ h
      exact ⟨.normal, tm', H', by simp only [h1], h2⟩
    | false =>
      simp only [codeK] at h
      simp only [acode]
      obtain ⟨tm', H', h1, h2⟩ := opsK_ok hC _ _ _ _ h
      exact ⟨.normal, tm', H', by simp only [h1], h2⟩
  | seq p q ih1 ih2 =>
    intro tm H K h
    simp only [codeK] at h
    simp only [acode]
    obtain ⟨x, tm1, H1, h1, h2⟩ := ih1 _ _ _ h
    rw [h1]
    cases x with
    | normal => exact ih2 _ _ _ h2
    | exit id => exact ⟨_, _, _, rfl, h2⟩
    | ret => exact ⟨_, _, _, rfl, h2⟩
  | cond c p q ih1 ih2 =>
    intro tm H K h
    simp only [codeK] at h
    simp only [acode]
    split at h
    · rename_i t hc
      simp only [hc]
      cases t with
      | true => exact ih1 _ _ _ h
      | false => exact ih2 _ _ _ h
    · cases h
  | block id c ih =>
    intro tm H K h
    simp only [codeK] at h
    simp only [acode]
    obtain ⟨x, tm1, H1, h1, h2⟩ := ih _ _ _ h
    rw [h1]
    cases x with
    | normal => exact ⟨_, _, _, rfl, h2⟩
    | exit i =>
      simp only at h2 ⊢
      split at h2
      · rename_i hi; rw [if_pos hi]; exact ⟨_, _, _, rfl, h2⟩
      · rename_i hi; rw [if_neg hi]; exact ⟨_, _, _, rfl, h2⟩
    | ret => exact ⟨_, _, _, rfl, h2⟩
  | scope c ih =>
    intro tm H K h
    simp only [codeK] at h
    simp only [acode]
    exact ih _ _ _ h
  | loop c ih =>
    intro tm H K h
    simp only [codeK] at h
    simp only [acode]
    have key : ∀ m tm H, loopK (codeK E hint callK drawK n c) m tm H K → ∃ x tm' H', aloop (acode E call draw n c) m tm H = some (x, tm', H') ∧ K x tm' H' := by
      intro m
      induction m with
      | zero => intro tm H h; exact h.elim
      | succ m ihm =>
        intro tm H h
        rw [loopK] at h
        rw [aloop]
        obtain ⟨x, tm1, H1, h1, h2⟩ := ih _ _ _ h
        rw [h1]
        cases x with
        | normal => exact ihm _ _ h2
        | exit id => exact ⟨_, _, _, rfl, h2⟩
        | ret => exact ⟨_, _, _, rfl, h2⟩
    exact key n tm H h

def drawK (E : Env) (hint : FuncId → Tmp → Option Hint) (call : KCaller) (f : FuncId) (id : Nat) (ops : Array Oper) (tm : List Value) (H : AHeap) (K : List Value → AHeap → Prop) : Prop :=
  match E.plan f id with
  | some order => drawGoK E (hint f) call ops order [] tm H K
  | none => False

/-- All ways of a summary. -/
def sumK : SumR → (Value → AHeap → Prop) → Prop
  | .fail, _ => False
  | .ret c v H, K => (match c with | true => K v H | false => False)
  | .br b x y, K => (match b with | true => sumK x K | false => sumK y K)
theorem sumK_ok : ∀ {r : SumR} {K : Value → AHeap → Prop}, sumK r K → ∃ v H', r.get = some (true, v, H') ∧ K v H' := by
  intro r
  induction r with
  | fail => intro K h; exact h.elim
  | ret c v H => intro K h; cases c; exact h.elim; exact ⟨v, H, rfl, h⟩
  | br b x y ihx ihy => intro K h; cases b; exact ihy h; exact ihx h
def evalK (E : Env) (hint : FuncId → Tmp → Option Hint) : Nat → KCaller
  | 0, _, _, _, _ => False
  | k + 1, f, args, H, K =>
    match E.summ f with
    | some g => sumK (g args H) K
    | none =>
      match E.fn f with
      | some F =>
        match F.body with
        | some c =>
          codeK E (hint f) (evalK E hint k) (drawK E hint (evalK E hint k) f) k c (args ++ List.replicate (F.ntmps - args.length) undef) H fun x tm H' =>
            match x with
            | .normal | .ret =>
              (match aresult E tm H' F.results.toList with
               | some vs => K (apack vs) H'
               | none => False)
            | _ => False
        | none => False
      | none => False

theorem drawK_ok {E : Env} {hint : FuncId → Tmp → Option Hint} {call : Caller} {callK : KCaller} (hC : KOk call callK) (f : FuncId) (id : Nat) (ops : Array Oper) (tm : List Value) (H : AHeap) (K : List Value → AHeap → Prop)
    (h : drawK E hint callK f id ops tm H K) : ∃ tm' H', adraw E call f id ops tm H = some (tm', H') ∧ K tm' H' := by
  unfold drawK at h
  unfold adraw
  split at h
  · rename_i order ho
    simp only [ho]
    exact drawGoK_ok hC _ _ _ _ _ h
  · cases h

theorem evalK_ok (E : Env) (hint : FuncId → Tmp → Option Hint) : ∀ k, KOk (evalF E (adraw E) k) (evalK E hint k) := by
  intro k
  induction k with
  | zero => intro g args H K h; exact h.elim
  | succ k ih =>
    intro f args H K h
    rw [evalK] at h
    rw [evalF]
    split at h
    · rename_i g hg
      try simp only [hg]
      obtain ⟨v, H', he, h⟩ := sumK_ok h
      exact ⟨v, H', by simp only [he], h⟩
    · rename_i hg
      try simp only [hg]
      split at h
      · rename_i F hF
        split at h
        · rename_i c hc
          simp only [hF, hc]
          obtain ⟨x, tm, H', h1, h2⟩ := codeK_ok ih (drawK_ok ih f) k _ _ _ _ h
          rw [h1]
          cases x with
          | normal =>
            simp only at h2 ⊢
            split at h2
            · rename_i vs hv; simp only [hv]; exact ⟨_, _, rfl, h2⟩
            · cases h2
          | ret =>
            simp only at h2 ⊢
            split at h2
            · rename_i vs hv; simp only [hv]; exact ⟨_, _, rfl, h2⟩
            · cases h2
          | exit i => exact h2.elim
        · cases h
      · cases h
end Go.Ev
