/- The abstract heap, and how it stands to the model's memory: plain definitions and laws, over any program. -/
import Derived.Orders
import Derived.Below
import Derived.KernelRfl
namespace Go.Ev
open Go
set_option linter.unusedVariables false
set_option linter.unusedSimpArgs false

/-! ### A map from numbers, as a tree -/
inductive Tr (α : Type) where
  | nil
  | node (v : Option α) (l r : Tr α)

namespace Tr
variable {α : Type}
def get : Tr α → Nat → Option α
  | .nil, _ => none
  | .node v l r, n => if n = 0 then v else if n % 2 = 1 then l.get (n / 2) else r.get (n / 2 - 1)
def val : Tr α → Option α
  | .nil => none
  | .node v _ _ => v
def left : Tr α → Tr α
  | .nil => .nil
  | .node _ l _ => l
def right : Tr α → Tr α
  | .nil => .nil
  | .node _ _ r => r
def put (v : α) : (fuel : Nat) → Tr α → Nat → Tr α
  | 0, t, _ => t
  | f + 1, t, n =>
    if n = 0 then .node (some v) t.left t.right
    else if n % 2 = 1 then .node t.val (put v f t.left (n / 2)) t.right
    else .node t.val t.left (put v f t.right (n / 2 - 1))
theorem get_eq (t : Tr α) (n : Nat) : t.get n = if n = 0 then t.val else if n % 2 = 1 then t.left.get (n / 2) else t.right.get (n / 2 - 1) := by
  cases t with
  | nil => simp [get, val, left, right]
  | node v l r => simp only [get, val, left, right]
theorem get_put (v : α) : ∀ (fuel : Nat) (t : Tr α) (n m : Nat), n < fuel → (put v fuel t n).get m = if m = n then some v else t.get m := by
  intro fuel
  induction fuel with
  | zero => intro t n m h; omega
  | succ f ih =>
    intro t n m h
    simp only [put]
    by_cases hn : n = 0
    · subst hn
      rw [if_pos rfl, get_eq, get_eq t m]
      simp only [val, left, right]
      by_cases hm : m = 0
      · rw [if_pos hm, if_pos hm]
      · rw [if_neg hm, if_neg hm, if_neg hm]
    · rw [if_neg hn]
      by_cases ho : n % 2 = 1
      · rw [if_pos ho, get_eq, get_eq t m]
        simp only [val, left, right]
        by_cases hm : m = 0
        · subst hm; rw [if_pos rfl, if_neg (by omega), if_pos rfl]
        · rw [if_neg hm, if_neg hm]
          by_cases hmo : m % 2 = 1
          · rw [if_pos hmo, if_pos hmo, ih _ _ _ (by omega)]
            by_cases e : m = n
            · subst e; rw [if_pos rfl, if_pos rfl]
            · rw [if_neg e, if_neg (by omega)]
          · rw [if_neg hmo, if_neg hmo, if_neg (by omega)]
      · rw [if_neg ho, get_eq, get_eq t m]
        simp only [val, left, right]
        by_cases hm : m = 0
        · subst hm; rw [if_pos rfl, if_neg (by omega), if_pos rfl]
        · rw [if_neg hm, if_neg hm]
          by_cases hmo : m % 2 = 1
          · rw [if_pos hmo, if_pos hmo, if_neg (by omega)]
          · rw [if_neg hmo, if_neg hmo, ih _ _ _ (by omega)]
            by_cases e : m = n
            · subst e; rw [if_pos rfl, if_pos rfl]
            · rw [if_neg e, if_neg (by omega)]
end Tr

/-! ### The abstract heap -/
/-- live: may be written; old: an append has taken it up, it is read alone; ro: it came in, it is read alone. -/
inductive St where
  | live | old | ro

/-- A row's elements: how many cells each has; their type, where it is known; is no cell of the row frozen, nor the place behind it? -/
structure ET where
  sz : Nat
  el : Option TypeId
  clean : Bool
  deriving DecidableEq

inductive AObj where
  | cells (cs : List Value) (t : ET) (st : St) (anc : List Nat)
  | map (es : List (Value × Value)) (bs : List Nat × Nat) (st : St)
  | siter (s : ByteArray) (pos : Nat)
  | miter (m : Option (Option Nat)) (since : Nat) (seen : List Nat) (stepped : Nat)
  | dead

structure AHeap where
  size : Nat
  tr : Tr AObj

namespace AHeap
def empty : AHeap := ⟨0, .nil⟩
def get (H : AHeap) (b : Nat) : Option AObj := H.tr.get b
def set (H : AHeap) (b : Nat) (o : AObj) : AHeap := ⟨H.size, H.tr.put o (b + 1) b⟩
def push (H : AHeap) (o : AObj) : AHeap := ⟨H.size + 1, H.tr.put o (H.size + 1) H.size⟩
theorem get_set (H : AHeap) (b c : Nat) (o : AObj) : (H.set b o).get c = if c = b then some o else H.get c := Tr.get_put _ _ _ _ _ (by omega)
@[simp] theorem get_set_eq (H : AHeap) (b : Nat) (o : AObj) : (H.set b o).get b = some o := by rw [get_set, if_pos rfl]
theorem get_set_ne (H : AHeap) (b c : Nat) (o : AObj) (h : c ≠ b) : (H.set b o).get c = H.get c := by rw [get_set, if_neg h]
theorem get_push (H : AHeap) (c : Nat) (o : AObj) : (H.push o).get c = if c = H.size then some o else H.get c := Tr.get_put _ _ _ _ _ (by omega)
@[simp] theorem get_push_eq (H : AHeap) (o : AObj) : (H.push o).get H.size = some o := by rw [get_push, if_pos rfl]
theorem get_push_ne (H : AHeap) (c : Nat) (o : AObj) (h : c ≠ H.size) : (H.push o).get c = H.get c := by rw [get_push, if_neg h]
theorem get_push_lt (H : AHeap) (c : Nat) (o : AObj) (h : c < H.size) : (H.push o).get c = H.get c := get_push_ne _ _ _ (by omega)
@[simp] theorem size_set (H : AHeap) (b : Nat) (o : AObj) : (H.set b o).size = H.size := rfl
@[simp] theorem size_push (H : AHeap) (o : AObj) : (H.push o).size = H.size + 1 := rfl
/-- Blocks that an append has taken up are dead behind a write to what it made. -/
def kill (H : AHeap) : List Nat → AHeap
  | [] => H
  | b :: l => (H.set b .dead).kill l
@[simp] theorem size_kill (l : List Nat) : ∀ H : AHeap, (H.kill l).size = H.size := by
  induction l with
  | nil => intro H; rfl
  | cons b l ih => intro H; simp [kill, ih]
theorem get_kill (l : List Nat) : ∀ (H : AHeap) (c : Nat), (H.kill l).get c = if c ∈ l then some .dead else H.get c := by
  induction l with
  | nil => intro H c; simp [kill]
  | cons b l ih =>
    intro H c
    simp only [kill, ih, get_set]
    by_cases h : c ∈ l
    · simp [h]
    · by_cases e : c = b <;> simp [h, e]
end AHeap

/-! ### Values: abstract ones against the model's -/
/-- Where a block lies: the model's block, from which cell on, how many cells that block has, how many cells an element has. -/
structure Loc where
  B : Nat
  s : Nat
  N : Nat
  t : Nat

abbrev Ren := Nat → Option Loc

/-- A value of which nothing is known. -/
def top : Value := .complex .f32 0 0

/-- A value of one cell, as a store takes it. -/
def one : Value → Bool
  | .agg _ | .tuple _ => false
  | _ => true

inductive VRel (ρ : Ren) : Value → Value → Prop
  | top (V : Value) : VRel ρ (.complex .f32 0 0) V
  | bool (b : Bool) : VRel ρ (.bool b) (.bool b)
  | int (k : IntKind) (n : Int) : VRel ρ (.int k n) (.int k n)
  | string (s : ByteArray) : VRel ρ (.string s) (.string s)
  | nilp : VRel ρ (.pointer none) (.pointer none)
  | ptr (b o : Nat) (l : Loc) (h : ρ b = some l) : VRel ρ (.pointer (some ⟨b, o, none⟩)) (.pointer (some ⟨l.B, l.s + o, none⟩))
  | nils : VRel ρ (.slice none 0 0) (.slice none 0 0)
  | slice (b o n c : Nat) (l : Loc) (C : Nat) (A : Addr) (h : ρ b = some l) (hn : n ≤ c) (hc : c ≤ C ∧ C ≤ 9223372036854775807)
      (hN : C ≠ 0 → l.s + o + C * l.t ≤ l.N) (hA : C ≠ 0 → A = ⟨l.B, l.s + o, none⟩) : VRel ρ (.slice (some ⟨b, o, none⟩) n c) (.slice (some A) n C)
  | nilm : VRel ρ (.map none) (.map none)
  | map (b : Nat) (l : Loc) (h : ρ b = some l) : VRel ρ (.map (some b)) (.map (some l.B))
  | nilf : VRel ρ .nilFunc .nilFunc
  | func (fn : Fn) (fs gs cs ds : Array Value) (hf : fs.size = gs.size) (hc : cs.size = ds.size)
      (h1 : ∀ (i : Nat) (x y : Value), fs[i]? = some x → gs[i]? = some y → VRel ρ x y) (h2 : ∀ (i : Nat) (x y : Value), cs[i]? = some x → ds[i]? = some y → VRel ρ x y) :
      VRel ρ (.func fn fs cs) (.func fn gs ds)
  | nili : VRel ρ .nilIface .nilIface
  | iface (t : TypeId) (x y : Value) (h : VRel ρ x y) : VRel ρ (.iface t x) (.iface t y)
  | agg (xs ys : Array Value) (hs : xs.size = ys.size) (h : ∀ (i : Nat) (x y : Value), xs[i]? = some x → ys[i]? = some y → VRel ρ x y) : VRel ρ (.agg xs) (.agg ys)
  | tuple (xs ys : Array Value) (hs : xs.size = ys.size) (h : ∀ (i : Nat) (x y : Value), xs[i]? = some x → ys[i]? = some y → VRel ρ x y) : VRel ρ (.tuple xs) (.tuple ys)

def Ren.le (ρ ρ' : Ren) : Prop := ∀ b l, ρ b = some l → ρ' b = some l
theorem Ren.le.refl (ρ : Ren) : Ren.le ρ ρ := fun _ _ h => h
theorem Ren.le.trans {a b c : Ren} (h : Ren.le a b) (k : Ren.le b c) : Ren.le a c := fun x l hx => k x l (h x l hx)

theorem VRel.mono {ρ ρ' : Ren} (hr : Ren.le ρ ρ') {x y : Value} (h : VRel ρ x y) : VRel ρ' x y := by
  induction h with
  | top V => exact .top V
  | bool b => exact .bool b
  | int k n => exact .int k n
  | string s => exact .string s
  | nilp => exact .nilp
  | ptr b o l h => exact .ptr b o l (hr _ _ h)
  | nils => exact .nils
  | slice b o n c l C A h hn hc hN hA => exact .slice b o n c l C A (hr _ _ h) hn hc hN hA
  | nilm => exact .nilm
  | map b l h => exact .map b l (hr _ _ h)
  | nilf => exact .nilf
  | func fn fs gs cs ds hf hc h1 h2 i1 i2 => exact .func fn fs gs cs ds hf hc i1 i2
  | nili => exact .nili
  | iface t x y h ih => exact .iface t x y ih
  | agg xs ys hs h ih => exact .agg xs ys hs ih
  | tuple xs ys hs h ih => exact .tuple xs ys hs ih

theorem VRel.one {ρ : Ren} {x y : Value} (h : VRel ρ x y) (hx : Ev.one x = true) (ht : x ≠ Ev.top) : Ev.one y = true := by
  cases h <;> first | rfl | exact absurd rfl ht | (simp [Ev.one] at hx)

/-- Lists of values, place by place. -/
def LRel (ρ : Ren) (xs ys : List Value) : Prop := xs.length = ys.length ∧ ∀ (i : Nat) (x y : Value), xs[i]? = some x → ys[i]? = some y → VRel ρ x y
theorem LRel.nil (ρ : Ren) : LRel ρ [] [] := ⟨rfl, fun i x y h => by simp at h⟩
theorem LRel.cons {ρ : Ren} {x y : Value} {xs ys : List Value} (h : VRel ρ x y) (t : LRel ρ xs ys) : LRel ρ (x :: xs) (y :: ys) := by
  refine ⟨by simp [t.1], fun i a b ha hb => ?_⟩
  cases i with
  | zero => simp at ha hb; subst ha hb; exact h
  | succ i => simp at ha hb; exact t.2 i a b ha hb
theorem LRel.head {ρ : Ren} {x y : Value} {xs ys : List Value} (h : LRel ρ (x :: xs) (y :: ys)) : VRel ρ x y := h.2 0 x y rfl rfl
theorem LRel.tail {ρ : Ren} {x y : Value} {xs ys : List Value} (h : LRel ρ (x :: xs) (y :: ys)) : LRel ρ xs ys :=
  ⟨by simpa using h.1, fun i a b ha hb => h.2 (i + 1) a b (by simpa using ha) (by simpa using hb)⟩
theorem LRel.nil_left {ρ : Ren} {ys : List Value} (h : LRel ρ [] ys) : ys = [] := by
  have := h.1; cases ys <;> simp_all
theorem LRel.cons_left {ρ : Ren} {x : Value} {xs ys : List Value} (h : LRel ρ (x :: xs) ys) : ∃ y t, ys = y :: t ∧ VRel ρ x y ∧ LRel ρ xs t := by
  cases ys with
  | nil => have := h.1; simp at this
  | cons y t => exact ⟨y, t, rfl, h.head, h.tail⟩
theorem LRel.mono {ρ ρ' : Ren} (hr : Ren.le ρ ρ') {xs ys : List Value} (h : LRel ρ xs ys) : LRel ρ' xs ys :=
  ⟨h.1, fun i x y hx hy => (h.2 i x y hx hy).mono hr⟩
theorem LRel.append {ρ : Ren} {a b c d : List Value} (h : LRel ρ a b) (k : LRel ρ c d) : LRel ρ (a ++ c) (b ++ d) := by
  refine ⟨by simp [h.1, k.1], fun i x y hx hy => ?_⟩
  by_cases hi : i < a.length
  · rw [List.getElem?_append_left hi] at hx
    rw [List.getElem?_append_left (h.1 ▸ hi)] at hy
    exact h.2 i x y hx hy
  · rw [List.getElem?_append_right (by omega)] at hx
    rw [List.getElem?_append_right (by have := h.1; omega)] at hy
    exact k.2 _ x y hx (by rw [h.1]; exact hy)
theorem LRel.getD {ρ : Ren} {xs ys : List Value} (h : LRel ρ xs ys) (i : Nat) {d e : Value} (hd : VRel ρ d e) : VRel ρ (xs.getD i d) (ys.getD i e) := by
  simp only [List.getD_eq_getElem?_getD]
  cases hx : xs[i]? with
  | none =>
    have : ys[i]? = none := by simp at hx ⊢; rw [← h.1]; exact hx
    simp [this, hd]
  | some x =>
    have : i < ys.length := by rw [← h.1]; exact (List.getElem?_eq_some_iff.1 hx).1
    rw [List.getElem?_eq_getElem this]
    exact h.2 i x _ hx (List.getElem?_eq_getElem this)
theorem LRel.set {ρ : Ren} {xs ys : List Value} (h : LRel ρ xs ys) (i : Nat) {v w : Value} (hv : VRel ρ v w) : LRel ρ (xs.set i v) (ys.set i w) := by
  refine ⟨by simp [h.1], fun j x y hx hy => ?_⟩
  rw [List.getElem?_set] at hx hy
  by_cases e : i = j
  · subst e
    simp only [if_true, if_pos rfl] at hx hy
    split at hx
    · split at hy
      · simp at hx hy; subst hx hy; exact hv
      · simp at hy
    · simp at hx
  · simp only [if_neg e] at hx hy; exact h.2 j x y hx hy
theorem LRel.take {ρ : Ren} {xs ys : List Value} (h : LRel ρ xs ys) (n : Nat) : LRel ρ (xs.take n) (ys.take n) := by
  refine ⟨by simp [h.1], fun i x y hx hy => ?_⟩
  rw [List.getElem?_take] at hx hy
  split at hx
  · rename_i hi; rw [if_pos hi] at hy; exact h.2 i x y hx hy
  · simp at hx
theorem LRel.drop {ρ : Ren} {xs ys : List Value} (h : LRel ρ xs ys) (n : Nat) : LRel ρ (xs.drop n) (ys.drop n) := by
  refine ⟨by simp [h.1], fun i x y hx hy => ?_⟩
  rw [List.getElem?_drop] at hx hy
  exact h.2 _ x y hx hy
theorem LRel.replicate {ρ : Ren} (n : Nat) {v w : Value} (h : VRel ρ v w) : LRel ρ (List.replicate n v) (List.replicate n w) := by
  refine ⟨by simp, fun i x y hx hy => ?_⟩
  rw [List.getElem?_replicate] at hx hy
  split at hx <;> simp_all
theorem LRel.map {ρ : Ren} {α : Type} (l : List α) {f g : α → Value} (h : ∀ a, a ∈ l → VRel ρ (f a) (g a)) : LRel ρ (l.map f) (l.map g) := by
  refine ⟨by simp, fun i x y hx hy => ?_⟩
  rw [List.getElem?_map] at hx hy
  cases hl : l[i]? with
  | none => simp [hl] at hx
  | some a => simp [hl] at hx hy; subst hx hy; exact h a (List.mem_of_getElem? hl)
theorem VRel.agg' {ρ : Ren} {xs ys : List Value} (h : LRel ρ xs ys) : VRel ρ (.agg ⟨xs⟩) (.agg ⟨ys⟩) :=
  .agg _ _ (by simpa using h.1) fun i x y hx hy => h.2 i x y (by simpa using hx) (by simpa using hy)
theorem VRel.tuple' {ρ : Ren} {xs ys : List Value} (h : LRel ρ xs ys) : VRel ρ (.tuple ⟨xs⟩) (.tuple ⟨ys⟩) :=
  .tuple _ _ (by simpa using h.1) fun i x y hx hy => h.2 i x y (by simpa using hx) (by simpa using hy)
theorem VRel.agg_inv {ρ : Ren} {xs : Array Value} {V : Value} (h : VRel ρ (.agg xs) V) : ∃ ys, V = .agg ys ∧ LRel ρ xs.toList ys.toList := by
  cases h with
  | agg xs ys hs h => exact ⟨ys, rfl, by simpa using hs, fun i x y hx hy => h i x y (by simpa using hx) (by simpa using hy)⟩
theorem VRel.tuple_inv {ρ : Ren} {xs : Array Value} {V : Value} (h : VRel ρ (.tuple xs) V) : ∃ ys, V = .tuple ys ∧ LRel ρ xs.toList ys.toList := by
  cases h with
  | tuple xs ys hs h => exact ⟨ys, rfl, by simpa using hs, fun i x y hx hy => h i x y (by simpa using hx) (by simpa using hy)⟩
/-- The cells of a value (of a value that is known). -/
theorem VRel.cells {ρ : Ren} {x V : Value} (h : VRel ρ x V) (hx : x ≠ Ev.top) : LRel ρ x.cells.toList V.cells.toList := by
  have single : ∀ a b : Value, VRel ρ a b → LRel ρ [a] [b] := fun a b h => .cons h (.nil ρ)
  cases h with
  | top V => exact absurd rfl hx
  | agg xs ys hs h => exact ⟨by simpa [Value.cells] using hs, fun i x y hx hy => h i x y (by simpa [Value.cells] using hx) (by simpa [Value.cells] using hy)⟩
  | bool b => exact single _ _ (.bool b)
  | int k n => exact single _ _ (.int k n)
  | string s => exact single _ _ (.string s)
  | nilp => exact single _ _ .nilp
  | ptr b o l h => exact single _ _ (.ptr b o l h)
  | nils => exact single _ _ .nils
  | slice b o n c l C A h hn hc hN hA => exact single _ _ (.slice b o n c l C A h hn hc hN hA)
  | nilm => exact single _ _ .nilm
  | map b l h => exact single _ _ (.map b l h)
  | nilf => exact single _ _ .nilf
  | func fn fs gs cs ds hf hc h1 h2 => exact single _ _ (.func fn fs gs cs ds hf hc h1 h2)
  | nili => exact single _ _ .nili
  | iface t x y h => exact single _ _ (.iface t x y h)
  | tuple xs ys hs h => exact single _ _ (.tuple xs ys hs h)

/-! ### Memory: the abstract heap against the model's world -/
def AObj.alive : AObj → Bool
  | .dead => false
  | _ => true
/-- What may be written: with the blocks that may lie where it lies. -/
def AObj.owns : AObj → Option (List Nat)
  | .cells _ _ .live anc => some anc
  | .map _ _ .live => some []
  | .siter _ _ => some []
  | .miter _ _ _ _ => some []
  | _ => none

def ORel (ρ : Ren) (w : World) (l : Loc) : AObj → Prop
  | .cells cs t st _ => ∃ CS el fr, w.heap[l.B]? = some (.cells CS el fr) ∧ CS.size = l.N ∧ (l.t = t.sz ∧ (∀ e, t.el = some e → el = e) ∧ (t.clean = true → fr = (0, 0))) ∧
      (∀ i v, cs[i]? = some v → ∃ V, CS[l.s + i]? = some V ∧ one V = true ∧ VRel ρ v V) ∧
      (st ≠ .ro → ∀ i, l.s ≤ i → i < l.N → ¬ (fr.1 ≤ i ∧ i < fr.2))
  | .map es bs _ => ∃ ES, w.heap[l.B]? = some (.map ES bs.2) ∧ LRel ρ (es.map (·.1)) (ES.toList.map (·.key)) ∧ LRel ρ (es.map (·.2)) (ES.toList.map (·.val)) ∧ ES.toList.map (·.born) = bs.1
  | .siter s pos => l.s = 0 ∧ w.heap[l.B]? = some (.stringIter s pos)
  | .miter m since seen stepped => l.s = 0 ∧ ∃ M, w.heap[l.B]? = some (.mapIter M since seen.toArray stepped) ∧ (match m with | none => True | some none => M = none | some (some b) => ∃ k, ρ b = some k ∧ M = some k.B)
  | .dead => True

def AObj.len : AObj → Nat
  | .cells cs _ _ _ => cs.length
  | _ => 0

structure Rel (ρ : Ren) (H : AHeap) (w : World) : Prop where
  bd : ∀ b l, ρ b = some l → b < H.size ∧ l.B < w.heap.size
  obj : ∀ b l o, ρ b = some l → H.get b = some o → ORel ρ w l o
  excl : ∀ b l o anc b' l' o', ρ b = some l → H.get b = some o → o.owns = some anc → ρ b' = some l' → H.get b' = some o' → o'.alive = true →
    b' ≠ b → l'.B = l.B → b' ∈ anc ∧ o'.owns = none ∧ l'.s + o'.len ≤ l.s + o.len

/-- The model's block B may be written by what the abstract heap knows. -/
def Own (ρ : Ren) (H : AHeap) (B : Nat) : Prop := ∃ b l o, ρ b = some l ∧ l.B = B ∧ H.get b = some o ∧ o.owns.isSome = true

structure Step (ρ : Ren) (H : AHeap) (w : World) (ρ' : Ren) (H' : AHeap) (w' : World) : Prop where
  le : Ren.le ρ ρ'
  keep : ∀ b, b < H.size → ρ' b = ρ b
  hs : H.size ≤ H'.size
  os : w'.os = w.os
  tape : w'.tape = w.tape
  output : w'.output = w.output
  size : w.heap.size ≤ w'.heap.size
  own : ∀ B, B < w.heap.size → Own ρ' H' B → Own ρ H B
  same : ∀ B, B < w.heap.size → ¬ Own ρ H B → w'.heap[B]? = w.heap[B]?
theorem Step.refl (ρ : Ren) (H : AHeap) (w : World) : Step ρ H w ρ H w :=
  ⟨.refl ρ, fun _ _ => rfl, Nat.le_refl _, rfl, rfl, rfl, Nat.le_refl _, fun _ _ h => h, fun _ _ _ => rfl⟩
theorem Step.trans {ρ ρ' ρ'' : Ren} {H H' H'' : AHeap} {w w' w'' : World} (h : Step ρ H w ρ' H' w') (k : Step ρ' H' w' ρ'' H'' w'') : Step ρ H w ρ'' H'' w'' :=
  ⟨h.le.trans k.le, fun b hb => (k.keep b (Nat.lt_of_lt_of_le hb h.hs)).trans (h.keep b hb), Nat.le_trans h.hs k.hs, k.os.trans h.os, k.tape.trans h.tape, k.output.trans h.output, Nat.le_trans h.size k.size,
   fun B hB ho => h.own B hB (k.own B (Nat.lt_of_lt_of_le hB h.size) ho),
   fun B hB ho => (k.same B (Nat.lt_of_lt_of_le hB h.size) (fun hn => ho (h.own B hB hn))).trans (h.same B hB ho)⟩
end Go.Ev
