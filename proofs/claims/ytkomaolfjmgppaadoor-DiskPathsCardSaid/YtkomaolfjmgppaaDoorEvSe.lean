/- A function with a loop: its walk, of what its pieces come to. -/
import Derived.Test.YtkomaolfjmgppaaDoorEvSd
namespace Go.Ev
open Go RowKit
set_option linter.unusedVariables false
set_option linter.unusedSectionVars false
set_option linter.unusedSimpArgs false

/-- What a piece of code comes to: how it ends, how many variables there are, those that are picked, the blocks, what it would answer. -/
abbrev KFun := AX → Nat → List Value → AHeap → Option (List Value) → Prop
def kk (E : Env) (rs : List ResultVar) (idx : List Nat) (K : KFun) : AX → List Value → AHeap → Prop := fun x tm H => K x tm.length (pickT idx tm) H (aresult E tm H rs)
abbrev cK (E : Env) (hint : FuncId → Tmp → Option Hint) (k n : Nat) (f : FuncId) (c : Code) := codeK E (hint f) (evalK E hint k) (drawK E hint (evalK E hint k) f) n c
abbrev sK (E : Env) (hint : FuncId → Tmp → Option Hint) (k n : Nat) (f : FuncId) (m : Nat) (c : Code) := spineK E (hint f) (evalK E hint k) (drawK E hint (evalK E hint k) f) n m c
/-- .. or so much of it as is kept. -/
def Gc (I : List Value → AHeap → Prop) (vs : List Value) (H : AHeap) : Prop := I vs H ∨ ∃ d : List Nat, d.Nodup ∧ I (vs.map (renV d)) (agc d H)
def AtP (N : Nat) (idx : List Nat) (I : List Value → AHeap → Prop) : SPred := fun tm H => ∃ vs, tm = fillT N idx vs ∧ I vs H
def KPre (N : Nat) (I : List Value → AHeap → Prop) : KFun := fun x N' vs H r => match x with | .normal => N' = N ∧ Gc I vs H | _ => False
def KEnd (v : Value) : KFun := fun x N' vs H r => (x = .normal ∨ x = .ret) ∧ r = some [v]
def KLoop (N : Nat) (v : Value) (I : Nat → List Value → AHeap → Prop) (O : List Value → AHeap → Prop) (m : Nat) : KFun := fun x N' vs H r =>
  match x with
  | .normal => N' = N ∧ ∃ m', m' < m ∧ Gc (I m') vs H
  | .exit j => j = 0 ∧ N' = N ∧ Gc O vs H
  | .ret => r = some [v]
def QEnd (E : Env) (rs : List ResultVar) (v : Value) : AX → SPred := fun x tm H => (x = .normal ∨ x = .ret) ∧ aresult E tm H rs = some [v]

theorem Sat.at {w0 : World} {S : SPred} {N : Nat} {idx : List Nat} {I : List Value → AHeap → Prop} (h : ∀ tm H, S tm H → tm.length = N ∧ Gc I (pickT idx tm) H) {a : Act} {w : World} (k : Sat w0 S a w) : Sat w0 (AtP N idx I) a w := by
  obtain ⟨tm, H, ρ, h1, h2, h3, h4, h5, h6⟩ := k
  obtain ⟨hn, hs | ⟨d, hd, hs⟩⟩ := h _ _ h1
  · subst hn
    have := fillT_ok h3 idx id (ρ' := ρ) (fun _ _ q => q)
    exact ⟨_, _, ρ, ⟨_, rfl, hs⟩, h2, by simpa using this, h4, h5, h6⟩
  · subst hn
    exact ⟨_, _, renR d ρ, ⟨_, rfl, hs⟩, agc_rel hd h2, fillT_ok h3 idx (renV d) fun _ _ => renV_ok, h4, h5, fun B hB => h6 B (agc_own hB)⟩
theorem Tri.preat {P : Program} {w0 : World} {c : Code} {S : SPred} {N : Nat} {idx : List Nat} {I : List Value → AHeap → Prop} {Q : AX → SPred}
    (h : ∀ tm H, S tm H → tm.length = N ∧ Gc I (pickT idx tm) H) (k : Tri P w0 c (AtP N idx I) Q) : Tri P w0 c S Q :=
  fun a w hs => k a w (hs.at h)

section
variable {E : Env} (hT : E.TOk) (hF : E.FOk E.ok) (hS : E.SOk) (hm : E.P.follows .mixedOrders = true) (hint : FuncId → Tmp → Option Hint) {f : FuncId} {k n : Nat} {w0 : World} {rs : List ResultVar} {v : Value}
include hT hF hS hm

theorem Tri.ofK {c : Code} (hok : allDraw (E.ok f) c = true) {N : Nat} {idx idx2 : List Nat} {I : List Value → AHeap → Prop} {K : KFun}
    (h : ∀ vs H, I vs H → cK E hint k n f c (fillT N idx vs) H (kk E rs idx2 K)) : Tri E.P w0 c (AtP N idx I) (kk E rs idx2 K) := by
  refine Tri.code hT hF hS hm hint (f := f) (k := k) (n := n) hok ?_
  rintro tm H ⟨vs, rfl, hi⟩
  exact h vs H hi

/-- A loop in a block, that is left at its own end or by the function's. -/
theorem Tri.loopAt {body : Code} {N : Nat} {idx : List Nat} {I : Nat → List Value → AHeap → Prop} {O : List Value → AHeap → Prop}
    (h : ∀ m, Tri E.P w0 body (AtP N idx (I m)) (kk E rs idx (KLoop N v I O m))) (m : Nat) :
    Tri E.P w0 (.block 0 (.loop body)) (AtP N idx (I m)) fun x tm H => match x with | .normal => tm.length = N ∧ Gc O (pickT idx tm) H | .ret => aresult E tm H rs = some [v] | .exit _ => False := by
  refine Tri.block ?_
  refine Tri.post (Q := fun x tm H => match x with | .exit j => j = 0 ∧ tm.length = N ∧ Gc O (pickT idx tm) H | .ret => aresult E tm H rs = some [v] | .normal => False) ?_ ?_
  · refine Tri.loop (Inv := fun m => AtP N idx (I m)) (fun m a w hs => ?_) m
    refine wp_mono (h m a w hs) ?_
    rintro e a' w' ⟨x, rfl, hx⟩
    cases x with
    | normal =>
      refine ⟨.normal, rfl, ?_⟩
      obtain ⟨tm, H, ρ, ⟨hn, m', hm', hg⟩, hr⟩ := hx
      have : Sat w0 (AtP N idx (I m')) a' w' := Sat.at (S := fun tm' H' => tm' = tm ∧ H' = H) (fun tm' H' h => by rw [h.1, h.2]; exact ⟨hn, hg⟩) ⟨tm, H, ρ, ⟨rfl, rfl⟩, hr⟩
      exact this.imp fun tm H h => ⟨m', hm', h⟩
    | exit j => exact ⟨.exit j, rfl, hx.imp fun tm H h => h⟩
    | ret => exact ⟨.ret, rfl, hx.imp fun tm H h => h⟩
  · intro x tm H hx
    cases x with
    | normal => exact hx.elim
    | exit j => obtain ⟨rfl, h1⟩ := hx; exact h1
    | ret => exact hx

/-- A function of this form: a beginning, a loop, an end. -/
theorem Tri.loopfn {c pre body post : Code} {m N : Nat} {idx : List Nat} {S : SPred} {I : Nat → List Value → AHeap → Prop} {O : List Value → AHeap → Prop}
    (hc : restN m c = .seq (.seq pre (.block 0 (.loop body))) post) (ok : allDraw (E.ok f) c = true) (ok1 : allDraw (E.ok f) pre = true)
    (h1 : ∀ tm H, S tm H → sK E hint k n f m c tm H (kk E rs idx (KEnd v)) fun tm H => cK E hint k n f pre tm H (kk E rs idx (KPre N fun vs H => ∃ m, I m vs H)))
    (h2 : ∀ m, Tri E.P w0 body (AtP N idx (I m)) (kk E rs idx (KLoop N v I O m)))
    (h3 : Tri E.P w0 post (AtP N idx O) (QEnd E rs v)) : Tri E.P w0 c S (QEnd E rs v) := by
  refine Tri.spine hT hF hS hm hint (f := f) (k := k) (n := n) (R := fun tm H => cK E hint k n f pre tm H (kk E rs idx (KPre N fun vs H => ∃ m, I m vs H))) m c S ok (fun tm H hs => h1 tm H hs) ?_
  rw [hc]
  refine Tri.seq (R := fun tm H => tm.length = N ∧ Gc O (pickT idx tm) H) ?_ (Tri.preat (fun _ _ h => h) h3)
  refine Tri.seq (R := fun tm H => tm.length = N ∧ Gc (fun vs H => ∃ m, I m vs H) (pickT idx tm) H) ?_ ?_
  · refine Tri.post (Tri.code hT hF hS hm hint (f := f) (k := k) (n := n) ok1 (fun tm H h => h)) ?_
    intro x tm H hx
    cases x with
    | normal => exact hx
    | exit j => exact hx.elim
    | ret => exact hx.elim
  · refine Tri.preat (fun _ _ h => h) ?_
    intro a w hs
    obtain ⟨tm, H, ρ, ⟨vs, ht, m, hi⟩, hr⟩ := hs
    refine wp_mono (Tri.loopAt hT hF hS hm (I := I) (O := O) h2 m a w ⟨tm, H, ρ, ⟨vs, ht, hi⟩, hr⟩) ?_
    rintro e a' w' ⟨x, rfl, hx⟩
    refine ⟨x, rfl, ?_⟩
    cases x with
    | normal => exact hx
    | exit j => exact hx.imp fun _ _ h => h.elim
    | ret => exact hx.imp fun _ _ h => ⟨.inr rfl, h⟩
theorem Tri.endK {c : Code} (hok : allDraw (E.ok f) c = true) {N : Nat} {idx : List Nat} {I : List Value → AHeap → Prop}
    (h : ∀ vs H, I vs H → cK E hint k n f c (fillT N idx vs) H (kk E rs idx (KEnd v))) : Tri E.P w0 c (AtP N idx I) (QEnd E rs v) :=
  Tri.post (Tri.ofK hT hF hS hm hint hok h) fun x tm H hx => hx
end

/-- The function answers true there. -/
structure Evals (E : Env) (hint : FuncId → Tmp → Option Hint) (k : Nat) (f : FuncId) (args : List Value) : Prop where
  h : evalK E hint k f args AHeap.empty fun v _ => v = .bool true
/-! ### Summaries by evaluation -/
theorem sumOk_evalK {E : Env} (hT : E.TOk) (hF : E.FOk E.ok) (hS : E.SOk) (hm : E.P.follows .mixedOrders = true) (hint : FuncId → Tmp → Option Hint) (k : Nat) {f : FuncId} {F : Func} (h1 : E.P.funcs[f]? = some F) (hb : F.body.isSome = true)
    (hn : F.name ≠ "runtime.NumGoroutine") {g : List Value → Option (Bool × Value)}
    (h : ∀ args v, g args = some (true, v) → plainV v = true ∧ args.all plain = true ∧ evalK E hint k f args AHeap.empty fun v' _ => v' = v) : SumOk E.P f (pureS g) := by
  refine sumOk_pure h1 hb hn fun args v hg => ?_
  obtain ⟨a1, a2, a3⟩ := h args v hg
  refine ⟨a1, fun ρ w cargs ha => ?_⟩
  have hc := ha.plain_inv a2
  obtain ⟨v', H', h2, rfl⟩ := evalK_ok E hint k _ _ _ _ a3
  obtain ⟨_, _, hcall⟩ := run_ok hT hF hS hm k f args _ _ H' h2
  refine (hcall (fun _ => none) w cargs (Rel.empty w) ?_).mono ?_
  · rw [hc]
    exact LRel.plain_refl a2
  · rintro e w' ⟨V, ρ', rfl, h1, h2, h3⟩
    rw [h3.plainV_inv a1]
    exact ⟨rfl, h2.os, h2.tape, h2.output, h2.size, fun B hB => h2.same B hB (Own.empty _ _)⟩
/-- A function without arguments that answers true. -/
def awG : List Value → Option (Bool × Value)
  | [] => some (true, .bool true)
  | _ => none
theorem sumOk_true {E : Env} (hT : E.TOk) (hF : E.FOk E.ok) (hS : E.SOk) (hm : E.P.follows .mixedOrders = true) {k : Nat} {f : FuncId} {F : Func} (h1 : E.P.funcs[f]? = some F) (hb : F.body.isSome = true)
    (hn : F.name ≠ "runtime.NumGoroutine") (h : (E.run k f [] AHeap.empty).map (·.1) = some (.bool true)) : SumOk E.P f (pureS awG) := by
  refine sumOk_pure h1 hb hn fun args v hg => ?_
  unfold awG at hg
  split at hg
  · simp only [Option.some.injEq, Prod.mk.injEq, true_and] at hg
    subst hg
    refine ⟨rfl, fun ρ w cargs ha => ?_⟩
    have : cargs = #[] := by
      have := ha.1
      exact Array.eq_empty_of_size_eq_zero (by simpa using this.symm)
    subst this
    exact law_of' hT hF hS hm h rfl (Rel.empty w) (Own.empty _) (LRel.nil _)
  · cases hg
end Go.Ev
