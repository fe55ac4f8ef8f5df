/- From a program to its evaluation; from the evaluation of a law to the law. -/
import Derived.Test.YtkomaolfjmgppaaDoorEvU
namespace Go.Ev
open Go
set_option linter.unusedVariables false
set_option linter.unusedSimpArgs false

def look {α : Type} (n : Nat) : List (Nat × α) → Option α
  | [] => none
  | (m, a) :: l => if n = m then some a else look n l
abbrev Plans := List (Nat × List (Nat × List (Nat × List Nat)))
def planAt (ps : Plans) (f id : Nat) : Option (List (Nat × List Nat)) :=
  match look f ps with
  | some l => look id l
  | none => none

def zeroOf (f : TypeInfo) : Option Value :=
  match f.zero with
  | some z => if plain z && z.cells.size == f.size then some z else none
  | none => none
def undOf (P : Program) (f : TypeInfo) : Option TypeDesc :=
  match f.desc with
  | .named _ u =>
    match P.types[u]? with
    | some g => some g.desc
    | none => none
  | d => some d
def tyOf (P : Program) (t : TypeId) : Option TyI :=
  match P.types[t]? with
  | some f =>
    match undOf P f with
    | some d => some ⟨d, f.size, f.bytes, zeroOf f, !P.eqGuardType P.depth t && !P.stoodInHeld t⟩
    | none => none
  | none => none
abbrev Summs := FuncId → Option (List Value → AHeap → Option (Bool × Value × AHeap))
abbrev Exts := List (Nat × Ext)
def mkEnv (P : Program) (ps : Plans) (xs : Exts) (ss : Summs) : Env := { P, ext := fun f => look f xs, ty := tyOf P, fn := fun f => P.funcs[f]?, plan := planAt ps, summ := fun f => match ss f with | some g => some fun args H => ofO (g args H) | none => none }
abbrev BSumms := FuncId → Option (List Value → AHeap → SumR)
/-- .. where functions may come to more than one thing. -/
def mkEnvB (P : Program) (ps : Plans) (xs : Exts) (ss : BSumms) : Env := { P, ext := fun f => look f xs, ty := tyOf P, fn := fun f => P.funcs[f]?, plan := planAt ps, summ := ss }
theorem look_mem {α : Type} {n : Nat} {a : α} : ∀ {l : List (Nat × α)}, look n l = some a → (n, a) ∈ l := by
  intro l
  induction l with
  | nil => intro h; cases h
  | cons p l ih =>
    obtain ⟨m, b⟩ := p
    intro h
    unfold look at h
    split at h
    · rename_i e; injection h with h; subst e h; exact List.mem_cons_self ..
    · exact List.mem_cons_of_mem _ (ih h)
def ExtsOk (P : Program) : Exts → Prop
  | [] => True
  | p :: l => extOk P p.1 p.2 ∧ ExtsOk P l
theorem ExtsOk.mem {P : Program} : ∀ {xs : Exts}, ExtsOk P xs → ∀ p ∈ xs, extOk P p.1 p.2 := by
  intro xs
  induction xs with
  | nil => intro _ p hp; cases hp
  | cons x xs ih =>
    intro h p hp
    rcases List.mem_cons.1 hp with rfl | hp
    · exact h.1
    · exact ih h.2 p hp

/-- The types of all fields are known, those of names too. -/
def typesOk (P : Program) : Bool :=
  P.types.toList.all fun f =>
    match f.desc with
    | .struct fs => fs.toList.all fun g => decide (g.type < P.types.size)
    | .named _ u => decide (u < P.types.size)
    | _ => true

theorem info_lt {P : Program} {t : TypeId} (h : t < P.types.size) : P.info? t = P.types[t]? := by
  show (if t < P.types.size then P.types[t]? else _) = _
  rw [if_pos h]

theorem tOkB_of {P : Program} {ps : Plans} {xs : Exts} {ss : BSumms} (h : typesOk P = true) (hx : ExtsOk P xs) : (mkEnvB P ps xs ss).TOk := by
  refine ⟨?_, fun f k hk => hx.mem _ (look_mem hk)⟩
  intro t i hi
  have hty : tyOf P t = some i := hi
  unfold tyOf at hty
  split at hty
  · rename_i f hf
    have hlt : t < P.types.size := (Array.getElem?_eq_some_iff.1 hf).1
    have hinf : P.info? t = some f := by rw [info_lt hlt, hf]
    split at hty
    · rename_i d hd
      injection hty with hty
      subst hty
      unfold typesOk at h
      rw [List.all_eq_true] at h
      have hmem : f ∈ P.types.toList := Array.mem_toList_iff.2 (Array.mem_of_getElem? hf)
      have hund : P.underlying t = some d ∧ ∀ fs, d = .struct fs → ∃ g ∈ P.types.toList, g.desc = .struct fs := by
        show (match P.info? t with | some { desc := .named _ u, .. } => (P.info? u).map (·.desc) | some i => some i.desc | none => none) = some d ∧ _
        rw [hinf]
        unfold undOf at hd
        split at hd
        · rename_i nm u hdesc
          split at hd
          · rename_i g hg
            injection hd with hd
            subst hd
            have hul : u < P.types.size := (Array.getElem?_eq_some_iff.1 hg).1
            refine ⟨?_, fun fs e => ⟨g, Array.mem_toList_iff.2 (Array.mem_of_getElem? hg), e⟩⟩
            obtain ⟨d0, s1, s2, s3, s4, s5, s6, s7, s8, s9⟩ := f
            simp only at hdesc
            subst hdesc
            show (P.info? u).map (·.desc) = _
            rw [info_lt hul, hg]; rfl
          · cases hd
        · rename_i hnn
          injection hd with hd
          subst hd
          refine ⟨?_, fun fs e => ⟨f, hmem, e⟩⟩
          obtain ⟨d0, s1, s2, s3, s4, s5, s6, s7, s8, s9⟩ := f
          cases d0 <;> first | rfl | exact absurd rfl (hnn _ _)
      refine ⟨hund.1, ⟨f, hinf, rfl, rfl, ?_⟩, ?_, ?_, ?_, ?_⟩
      · intro z hz
        simp only [zeroOf] at hz
        split at hz
        · rename_i z' hz'
          split at hz
          · injection hz with hz; subst hz; exact hz'
          · cases hz
        · cases hz
      · intro z hz
        simp only [zeroOf] at hz
        split at hz
        · split at hz
          · rename_i hc
            injection hz with hz; subst hz
            rw [Bool.and_eq_true] at hc; exact hc.1
          · cases hz
        · cases hz
      · intro z hz
        simp only [zeroOf] at hz
        split at hz
        · split at hz
          · rename_i hc
            injection hz with hz; subst hz
            rw [Bool.and_eq_true] at hc
            have := hc.2
            simpa using this
          · cases hz
        · cases hz
      · intro fs hfs g hg
        obtain ⟨q, hq, hqd⟩ := hund.2 fs hfs
        have := h q hq
        rw [hqd] at this
        simp only [List.all_eq_true, decide_eq_true_eq] at this
        have hgl := this g hg
        exact ⟨P.types[g.type], by show P.info? g.type = _; rw [info_lt hgl, Array.getElem?_eq_getElem hgl]⟩
      · intro he
        simp only [Bool.and_eq_true, Bool.not_eq_true'] at he
        exact he
    · cases hty
  · cases hty

/-- The drawn regions of all functions are planned rightly. -/
theorem tOk_of {P : Program} {ps : Plans} {xs : Exts} {ss : Summs} (h : typesOk P = true) (hx : ExtsOk P xs) : (mkEnv P ps xs ss).TOk := tOkB_of h hx

def funsOk (E : Env) : Bool :=
  (List.range E.P.funcs.size).all fun f =>
    match E.P.funcs[f]? with
    | some F => (match F.body with | some c => allDraw (E.ok f) c && (F.name != "runtime.NumGoroutine") | none => true)
    | none => true
theorem fOkB_of {P : Program} {ps : Plans} {xs : Exts} {ss : BSumms} (h : funsOk (mkEnvB P ps xs ss) = true) : (mkEnvB P ps xs ss).FOk (mkEnvB P ps xs ss).ok := by
  intro f F c hF hc
  have hF' : P.funcs[f]? = some F := hF
  unfold funsOk at h
  rw [List.all_eq_true] at h
  have := h f (List.mem_range.2 (Array.getElem?_eq_some_iff.1 hF').1)
  have e : (mkEnvB P ps xs ss).P.funcs[f]? = some F := hF'
  rw [e] at this
  simp only [hc, Bool.and_eq_true] at this
  exact ⟨hF', this.1, by simpa using this.2⟩

theorem fOk_of {P : Program} {ps : Plans} {xs : Exts} {ss : Summs} (h : funsOk (mkEnv P ps xs ss) = true) : (mkEnv P ps xs ss).FOk (mkEnv P ps xs ss).ok := fOkB_of h

theorem sOk_none {P : Program} {ps : Plans} {xs : Exts} : (mkEnv P ps xs fun _ => none).SOk := by
  intro f g h; cases h

/-- A law that the evaluation answers with true. -/
theorem law_of {E : Env} (hT : E.TOk) (hF : E.FOk E.ok) (hS : E.SOk) (hm : E.P.follows .mixedOrders = true) {k : Nat} {f : FuncId} {args : List Value} {H H' : AHeap} {v : Value}
    (h : E.run k f args H = some (v, H')) (hv : v = .bool true) {ρ : Ren} {w : World} {cargs : Array Value} (hR : Rel ρ H w) (hno : ∀ B, ¬ Own ρ H B) (ha : LRel ρ args cargs.toList) :
    Calls E.P f cargs w fun e w' => e = .returned (.bool true) ∧ RowKit.Below w.heap.size w w' := by
  obtain ⟨_, _, hc⟩ := run_ok hT hF hS hm k f args H v H' h
  refine (hc ρ w cargs hR ha).mono ?_
  rintro e w' ⟨V, ρ', rfl, h1, h2, h3⟩
  subst hv
  rw [h3.bool_inv]
  exact ⟨rfl, h2.os, h2.tape, h2.output, h2.size, fun B hB => h2.same B hB (hno B)⟩

theorem law_of' {E : Env} (hT : E.TOk) (hF : E.FOk E.ok) (hS : E.SOk) (hm : E.P.follows .mixedOrders = true) {k : Nat} {f : FuncId} {args : List Value} {H : AHeap} {b : Bool}
    (h : (E.run k f args H).map (·.1) = some (.bool b)) (hb : b = true) {ρ : Ren} {w : World} {cargs : Array Value} (hR : Rel ρ H w) (hno : ∀ B, ¬ Own ρ H B) (ha : LRel ρ args cargs.toList) :
    Calls E.P f cargs w fun e w' => e = .returned (.bool true) ∧ RowKit.Below w.heap.size w w' := by
  cases hr : E.run k f args H with
  | none => rw [hr] at h; cases h
  | some p =>
    obtain ⟨v, H'⟩ := p
    rw [hr] at h
    refine law_of hT hF hS hm hr ?_ hR hno ha
    rw [← hb]
    exact Option.some.inj h

theorem Rel.empty (w : World) : Rel (fun _ => none) AHeap.empty w :=
  { bd := fun b l h => (by cases h), obj := fun b l o h => (by cases h), excl := fun b l o anc b' l' o' h => (by cases h) }
theorem Own.empty (H : AHeap) (B : Nat) : ¬ Own (fun _ => none) H B := by rintro ⟨b, l, o, h, _⟩; cases h
end Go.Ev
