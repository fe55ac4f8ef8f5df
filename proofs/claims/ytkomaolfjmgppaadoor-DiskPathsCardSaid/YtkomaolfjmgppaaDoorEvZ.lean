/- A law's walk, more: only some variables are kept; the way to a loop. -/
import Derived.Test.YtkomaolfjmgppaaDoorEvY
namespace Go.Ev
open Go RowKit
set_option linter.unusedVariables false
set_option linter.unusedSectionVars false
set_option linter.unusedSimpArgs false

/-! ### Only some variables -/
def pickT (idx : List Nat) (tm : List Value) : List Value := idx.map fun i => tm.getD i undef
def fillT (n : Nat) (idx : List Nat) (vs : List Value) : List Value := (List.range n).map fun i => match posOf i idx with | some j => vs.getD j top | none => top
theorem fillT_ok {ρ : Ren} {tm ys : List Value} (h : LRel ρ tm ys) (idx : List Nat) (f : Value → Value) {ρ' : Ren} (hf : ∀ x C, VRel ρ x C → VRel ρ' (f x) C) :
    LRel ρ' (fillT tm.length idx ((pickT idx tm).map f)) ys := by
  refine ⟨by simp [fillT]; exact h.1, fun i x y hx hy => ?_⟩
  have hi : i < ys.length := (List.getElem?_eq_some_iff.1 hy).1
  have hi' : i < tm.length := by rw [h.1]; exact hi
  unfold fillT at hx
  rw [List.getElem?_map, List.getElem?_range hi'] at hx
  simp only [Option.map_some, Option.some.injEq] at hx
  cases hp : posOf i idx with
  | none => rw [hp] at hx; subst hx; exact .top _
  | some j =>
    rw [hp] at hx
    simp only at hx
    have hj := posOf_get hp
    have e1 : ((pickT idx tm).map f)[j]? = some (f (tm[i])) := by
      unfold pickT
      rw [List.map_map, List.getElem?_map, hj]
      simp [List.getD_eq_getElem?_getD, hi']
    rw [List.getD_eq_getElem?_getD, e1] at hx
    simp only [Option.getD_some] at hx
    subst hx
    exact hf _ _ (h.2 i _ y (List.getElem?_eq_getElem hi') hy)

/-- So many variables, only these are kept; no block goes. -/
theorem Sat.sel {w0 : World} {S S' : SPred} (h : ∀ tm H, S tm H → ∃ n idx, tm.length = n ∧ S' (fillT n idx (pickT idx tm)) H) {a : Act} {w : World} (k : Sat w0 S a w) : Sat w0 S' a w := by
  obtain ⟨tm, H, ρ, h1, h2, h3, h4, h5, h6⟩ := k
  obtain ⟨n, idx, hn, hs⟩ := h _ _ h1
  subst hn
  refine ⟨_, _, ρ, hs, h2, ?_, h4, h5, h6⟩
  have := fillT_ok h3 idx id (ρ' := ρ) (fun _ _ q => q)
  simpa using this
/-- So many variables, only these are kept; only these blocks. -/
theorem Sat.selgc {w0 : World} {S S' : SPred} (h : ∀ tm H, S tm H → ∃ n idx d, d.Nodup ∧ tm.length = n ∧ S' (fillT n idx ((pickT idx tm).map (renV d))) (agc d H)) {a : Act} {w : World} (k : Sat w0 S a w) : Sat w0 S' a w := by
  obtain ⟨tm, H, ρ, h1, h2, h3, h4, h5, h6⟩ := k
  obtain ⟨n, idx, d, hd, hn, hs⟩ := h _ _ h1
  subst hn
  exact ⟨_, _, renR d ρ, hs, agc_rel hd h2, fillT_ok h3 idx (renV d) fun _ _ => renV_ok, h4, h5, fun B hB => h6 B (agc_own hB)⟩
theorem Tri.presel {P : Program} {w0 : World} {c : Code} {S S' : SPred} {Q : AX → SPred} (h : ∀ tm H, S' tm H → ∃ n idx, tm.length = n ∧ S (fillT n idx (pickT idx tm)) H) (k : Tri P w0 c S Q) : Tri P w0 c S' Q :=
  fun a w hs => k a w (hs.sel h)
theorem Tri.preselgc {P : Program} {w0 : World} {c : Code} {S S' : SPred} {Q : AX → SPred}
    (h : ∀ tm H, S' tm H → ∃ n idx d, d.Nodup ∧ tm.length = n ∧ S (fillT n idx ((pickT idx tm).map (renV d))) (agc d H)) (k : Tri P w0 c S Q) : Tri P w0 c S' Q :=
  fun a w hs => k a w (hs.selgc h)

/-- A loop, by a measure; what a round leaves may be cut down. -/
theorem Tri.loopsel {P : Program} {w0 : World} {c : Code} {Inv : Nat → SPred} {Q : AX → SPred}
    (h : ∀ m, Tri P w0 c (Inv m) fun x => match x with | .normal => fun tm H => ∃ m', m' < m ∧ ∃ n idx, tm.length = n ∧ Inv m' (fillT n idx (pickT idx tm)) H | x => Q x) (m : Nat) : Tri P w0 (.loop c) (Inv m) Q := by
  refine Tri.loop (Inv := Inv) (Q := Q) (fun m a w hs => ?_) m
  refine wp_mono (h m a w hs) ?_
  rintro e a' w' ⟨x, rfl, hx⟩
  cases x with
  | normal => exact ⟨.normal, rfl, hx.sel fun tm H ⟨m', hm', n, idx, hn, hi⟩ => ⟨n, idx, hn, m', hm', hi⟩⟩
  | exit i => exact ⟨.exit i, rfl, hx⟩
  | ret => exact ⟨.ret, rfl, hx⟩
theorem Tri.loopselgc {P : Program} {w0 : World} {c : Code} {Inv : Nat → SPred} {Q : AX → SPred}
    (h : ∀ m, Tri P w0 c (Inv m) fun x => match x with
      | .normal => fun tm H => ∃ m', m' < m ∧ ∃ n idx d, d.Nodup ∧ tm.length = n ∧ Inv m' (fillT n idx ((pickT idx tm).map (renV d))) (agc d H)
      | x => Q x) (m : Nat) : Tri P w0 (.loop c) (Inv m) Q := by
  refine Tri.loop (Inv := Inv) (Q := Q) (fun m a w hs => ?_) m
  refine wp_mono (h m a w hs) ?_
  rintro e a' w' ⟨x, rfl, hx⟩
  cases x with
  | normal => exact ⟨.normal, rfl, hx.selgc fun tm H ⟨m', hm', n, idx, d, hd, hn, hi⟩ => ⟨n, idx, d, hd, hn, m', hm', hi⟩⟩
  | exit i => exact ⟨.exit i, rfl, hx⟩
  | ret => exact ⟨.ret, rfl, hx⟩

/-! ### The way to a loop -/
/-- The code behind n pieces of a row. -/
def restN : Nat → Code → Code
  | 0, c => c
  | n + 1, .seq _ b => restN n b
  | _, _ => .skip
def spineK (E : Env) (hint : Tmp → Option Hint) (call : KCaller) (draw : Nat → Array Oper → List Value → AHeap → (List Value → AHeap → Prop) → Prop) (n : Nat) :
    Nat → Code → List Value → AHeap → (AX → List Value → AHeap → Prop) → (List Value → AHeap → Prop) → Prop
  | 0, _, tm, H, _, R => R tm H
  | m + 1, .seq a b, tm, H, Q, R => codeK E hint call draw n a tm H fun x tm' H' => match x with | .normal => spineK E hint call draw n m b tm' H' Q R | x => Q x tm' H'
  | _, _, _, _, _, _ => False
theorem Tri.spine {E : Env} (hT : E.TOk) (hF : E.FOk E.ok) (hS : E.SOk) (hm : E.P.follows .mixedOrders = true) (hint : FuncId → Tmp → Option Hint) {f : FuncId} {k n : Nat} {w0 : World} {Q : AX → SPred} {R : SPred} :
    ∀ (m : Nat) (c : Code) (S : SPred), allDraw (E.ok f) c = true → (∀ tm H, S tm H → spineK E (hint f) (evalK E hint k) (drawK E hint (evalK E hint k) f) n m c tm H Q R) →
      Tri E.P w0 (restN m c) R Q → Tri E.P w0 c S Q := by
  intro m
  induction m with
  | zero => intro c S _ h hr; exact hr.pre h
  | succ m ih =>
    intro c S hok h hr
    cases c with
    | seq a b =>
      simp only [allDraw, Bool.and_eq_true] at hok
      refine Tri.seq (R := fun tm H => spineK E (hint f) (evalK E hint k) (drawK E hint (evalK E hint k) f) n m b tm H Q R) ?_ (ih b _ hok.2 (fun _ _ q => q) hr)
      refine Tri.post (Tri.code hT hF hS hm hint hok.1 h) ?_
      intro x tm H hx
      cases x <;> exact hx
    | _ => exact fun a w ⟨tm, H, ρ, h1, _⟩ => (h tm H h1).elim

/-- A piece of code, by its way. -/
def ptC : List Bool → Code → Code
  | [], c => c
  | false :: l, .seq a _ => ptC l a
  | true :: l, .seq _ b => ptC l b
  | false :: l, .cond _ a _ => ptC l a
  | true :: l, .cond _ _ b => ptC l b
  | _ :: l, .block _ c => ptC l c
  | _ :: l, .loop c => ptC l c
  | _ :: l, .scope c => ptC l c
  | _, _ => .skip
def bodyOf (P : Program) (f : FuncId) : Code :=
  match P.funcs[f]? with
  | some F => (match F.body with | some c => c | none => .skip)
  | none => .skip
end Go.Ev
