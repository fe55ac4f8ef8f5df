/- Summaries of library functions at strings: stringslite.Clone, strings.Join. -/
import Derived.Test.YtkomaolfjmgppaaDoorEvSb
import Derived.Test.YtkomaolfjmgppaaDoorEvO
import Derived.Shelf.Strconv.Clone
import Derived.Shelf.Strings.OnBuilder
namespace Go.Ev
open Go RowKit
set_option linter.unusedVariables false
set_option linter.unusedSectionVars false
set_option linter.unusedSimpArgs false

def cloneG : List Value → Option (Bool × Value)
  | [.string s] => some (decide (s.size ≤ 281474976710656), .string s)
  | _ => none
def cloneSum : Summ := pureS cloneG
theorem cloneSum_ok {P : Program} {q : Go.Shelf.Ren} (L : Go.Proofs.LaysM.n316 P q) {f : FuncId} (hf : q.f 316 = f) {F : Func} (hF : P.funcs[f]? = some F) (hb : F.body.isSome = true) (hn : F.name ≠ "runtime.NumGoroutine") :
    SumOk P f cloneSum := by
  refine sumOk_pure hF hb hn fun args v hg => ?_
  unfold cloneG at hg
  split at hg
  · rename_i s
    simp only [Option.some.injEq, Prod.mk.injEq] at hg
    obtain ⟨hs, rfl⟩ := hg
    replace hs := of_decide_eq_true hs
    · refine ⟨rfl, fun ρ w cargs ha => ?_⟩
      obtain ⟨S, T1, e1, hS, r1⟩ := ha.cons_left
      obtain rfl := r1.nil_left
      obtain rfl := hS.string_inv
      have : cargs = #[.string s] := by apply Array.ext'; simpa using e1
      subst this hf
      exact Go.Proofs.Any.stringslite_Clone L s w hs
  · cases hg

def strs : List Value → Option (List ByteArray)
  | [] => some []
  | .string s :: l => match strs l with | some r => some (s :: r) | none => none
  | _ :: _ => none
theorem strs_eq : ∀ {l : List Value} {r : List ByteArray}, strs l = some r → l = r.map .string := by
  intro l
  induction l with
  | nil => intro r h; cases h; rfl
  | cons v l ih =>
    intro r h
    unfold strs at h
    split at h
    · rename_i e; cases e
    · rename_i s l' e
      cases e
      split at h
      · rename_i r' hr
        cases h
        rw [ih hr]; rfl
      · cases h
    · cases h
def joinSum : Summ
  | [.slice (some ⟨b, o, none⟩) n _, .string sep], H =>
    match H.get b with
    | some (.cells cs _ _ _) =>
      if n ≠ 0 ∧ o + n ≤ cs.length then
        match strs ((cs.drop o).take n) with
        | some xs => if n ≤ 140737488355328 ∧ (Go.Lib.join (xs.map (·.data.toList)) sep.data.toList).length ≤ 140737488355328 then some (true, .string ⟨(Go.Lib.join (xs.map (·.data.toList)) sep.data.toList).toArray⟩, H) else none
        | none => none
      else none
    | _ => none
  | [.slice none 0 0, .string sep], H => some (true, .string ⟨#[]⟩, H)
  | _, _ => none

theorem joinSum_ok {P : Program} {q : Go.Shelf.Ren} (L : Go.Proofs.Lays.n156 P q) (X : Go.Proofs.Builder.Extra P q) {f : FuncId} (hf : q.f 156 = f) {F : Func} (hF : P.funcs[f]? = some F) (hb : F.body.isSome = true) (hn : F.name ≠ "runtime.NumGoroutine") :
    SumOk P f joinSum := by
  intro args H v H' h
  unfold joinSum at h
  split at h
  · rename_i b o n c sep
    split at h
    case h_2 => cases h
    rename_i cs t st anc hg
    split at h
    case isFalse => cases h
    rename_i hc
    split at h
    case h_2 => cases h
    rename_i xs hxs
    split at h
    case isFalse => cases h
    rename_i hc2
    simp only [Option.some.injEq, Prod.mk.injEq, true_and] at h
    obtain ⟨rfl, rfl⟩ := h
    refine ⟨⟨F, hF, hb, hn⟩, Nat.le_refl _, fun ρ w cargs hR ha => ?_⟩
    obtain ⟨S, T1, e1, hS, r1⟩ := ha.cons_left
    obtain ⟨V, T2, e2, hV, r2⟩ := r1.cons_left
    obtain rfl := r2.nil_left
    subst e2
    obtain rfl := hV.string_inv
    obtain ⟨l, C, A, hbl, hnc, hcc, hN, hA, rfl⟩ := hS.slice_inv
    have hA' := hA (by omega)
    subst hA'
    have : cargs = #[.slice (some ⟨l.B, l.s + o, none⟩) n C, .string sep] := by apply Array.ext'; simpa using e1
    subst this hf
    have hrd : rd H b o n = some ((cs.drop o).take n) := by unfold rd; rw [hg]; simp only []; rw [if_pos hc.2]
    obtain ⟨Vs, x1, x2, x3, x4⟩ := rd_rel hR hbl hrd
    have hl := strs_eq hxs
    rw [hl] at x1
    have hxl : xs.length = n := by
      have := congrArg List.length hl
      simp only [List.length_take, List.length_drop, List.length_map] at this
      omega
    have hcell : ∀ (j : Nat) x, xs[j]? = some x → w.cell? ⟨l.B, l.s + o + j, none⟩ = some (.string x) := by
      intro j x hj
      have hj' : j < Vs.length := by rw [← x1.1, List.length_map]; exact (List.getElem?_eq_some_iff.1 hj).1
      have hv := x1.2 j (.string x) Vs[j] (by rw [List.getElem?_map, hj]; rfl) (List.getElem?_eq_getElem hj')
      have e := hv.string_inv
      have := x4 j _ (List.getElem?_eq_getElem hj')
      rw [addr_add, e] at this
      exact this
    have key := Go.Proofs.Any.strings_Join L X l.B (l.s + o) C xs sep w hcell (hR.bd b l hbl).2 (by omega) (by omega) hc2.2
    rw [hxl] at key
    refine key.mono ?_
    rintro e w' ⟨rfl, hbw⟩
    obtain ⟨r1, r2⟩ := hR.below hbw
    exact ⟨_, ρ, rfl, r1, r2, .string _⟩
  · rename_i sep
    simp only [Option.some.injEq, Prod.mk.injEq, true_and] at h
    obtain ⟨rfl, rfl⟩ := h
    refine ⟨⟨F, hF, hb, hn⟩, Nat.le_refl _, fun ρ w cargs hR ha => ?_⟩
    obtain ⟨S, T1, e1, hS, r1⟩ := ha.cons_left
    obtain ⟨V, T2, e2, hV, r2⟩ := r1.cons_left
    obtain rfl := r2.nil_left
    subst e2
    obtain rfl := hV.string_inv
    have hS' : S = .slice none 0 0 := by cases hS; rfl
    subst hS'
    have : cargs = #[.slice none 0 0, .string sep] := by apply Array.ext'; simpa using e1
    subst this hf
    refine (Go.Proofs.Any.strings_Join_none L X none 0 sep w).mono ?_
    rintro e w' ⟨rfl, rfl⟩
    obtain ⟨r1, r2⟩ := hR.below (Below.refl _ _)
    exact ⟨_, ρ, rfl, r1, r2, .string _⟩
  · cases h

/-! ### Arguments -/
/-- A row of plain cells of the caller, lent beside what there is. -/
theorem Rel.lend {ρ : Ren} {H : AHeap} {W : World} (hR : Rel ρ H W) {B o sz : Nat} {CS : Array Value} {el : TypeId} {fr : Nat × Nat} {L : List Value} (hB : W.heap[B]? = some (.cells CS el fr))
    (hL : ∀ k, k < L.length → CS[o + k]? = L[k]?) (hs : ∀ v ∈ L, scal v = true) (hno : ∀ X, ¬ Own ρ H X) :
    Rel (ρ.upd H.size ⟨B, o, CS.size, sz⟩) (H.push (.cells L ⟨sz, none, false⟩ .ro [])) W ∧ (∀ X, ¬ Own (ρ.upd H.size ⟨B, o, CS.size, sz⟩) (H.push (.cells L ⟨sz, none, false⟩ .ro [])) X) ∧ Ren.le ρ (ρ.upd H.size ⟨B, o, CS.size, sz⟩) := by
  have hle : Ren.le ρ (ρ.upd H.size ⟨B, o, CS.size, sz⟩) := Ren.upd_le hR.fresh
  have hg : ∀ b, (H.push (.cells L ⟨sz, none, false⟩ .ro [])).get b = if b = H.size then some (.cells L ⟨sz, none, false⟩ .ro []) else H.get b := fun b => AHeap.get_push _ _ _
  have hown : ∀ b l x, (ρ.upd H.size ⟨B, o, CS.size, sz⟩) b = some l → (H.push (.cells L ⟨sz, none, false⟩ .ro [])).get b = some x → x.owns.isSome = true → False := by
    intro b l x h k how
    rcases Ren.upd_inv h with ⟨rfl, rfl⟩ | ⟨hne, h'⟩
    · rw [hg, if_pos rfl] at k; cases k; cases how
    · rw [hg, if_neg hne] at k
      exact hno l.B ⟨b, l, x, h', rfl, k, how⟩
  refine ⟨⟨fun b l h => ?_, fun b l x h k => ?_, fun b l x anc b' l' x' h k how _ _ _ _ _ => (hown b l _ h k (by rw [how]; rfl)).elim⟩, ?_, hle⟩
  · show b < H.size + 1 ∧ _
    rcases Ren.upd_inv h with ⟨rfl, rfl⟩ | ⟨_, h'⟩
    · exact ⟨by omega, (Array.getElem?_eq_some_iff.1 hB).1⟩
    · exact ⟨by have := (hR.bd b l h').1; omega, (hR.bd b l h').2⟩
  · rcases Ren.upd_inv h with ⟨rfl, rfl⟩ | ⟨hne, h'⟩
    · rw [hg, if_pos rfl] at k
      cases k
      refine ⟨CS, el, fr, hB, rfl, ⟨rfl, fun _ h => (by cases h), fun h => (by cases h)⟩, fun i v hv => ?_, fun hc => absurd rfl hc⟩
      have hm := hs v (List.mem_of_getElem? hv)
      exact ⟨v, by rw [hL i (List.getElem?_eq_some_iff.1 hv).1, hv], (scal_rel hm (fun _ => none)).2, (scal_rel hm _).1⟩
    · rw [hg, if_neg hne] at k
      exact (hR.obj b l x h' k).mono hle
  · rintro X ⟨b, l, x, h, _, k, how⟩
    exact hown b l x h k how

/-- A struct, taken by value: its cells. -/
theorem open_struct {H : Type} {enc : TypeId × Value → H} {P : Program} {W : World} {base : Nat} {sp : Nat → Bool} {held : Bool} {r : Reach} {b0 : Nat} {t : TypeId} {fs : Array Field} (ht : P.underlying t = some (.struct fs)) {v : Value} {d : DataW H} {ps : List MemPlace}
    (hval : Value.okWide P W r b0 t v) (hd : DataW.Trod enc P W base sp held t v d ps) :
    ∃ (cs : Array Value) (xs : List (DataW H × List MemPlace)) (n : Nat), v = .agg cs ∧ cs.size = P.cellsOf t ∧ d = .agg (xs.map (·.1)) ∧ ps = xs.flatMap (·.2) ∧ xs.length = fs.size ∧
      ∀ (i : Nat) (f : Field), fs[i]? = some f → DataW.trod enc P W base sp held n f.type ((cs.toList.drop f.offset).take (P.cellsOf f.type)) = xs[i]? := by
  obtain ⟨cs, rfl, hs⟩ := WideShapes.okWide_struct ht hval
  obtain ⟨fuel, hf⟩ := hd
  obtain ⟨xs, n, _, hx, _, hl, hel⟩ := DataW.trod_struct ht hf
  injection hx with h1 h2
  exact ⟨cs, xs, n, rfl, hs, h1, h2, hl, hel⟩
/-- A struct's field that is a string, at that cell. -/
theorem field_string {H : Type} {enc : TypeId × Value → H} {P : Program} {W : World} {base : Nat} {sp : Nat → Bool} {held : Bool} {n : Nat} {t : TypeId} (ht : P.underlying t = some .string) (hc : P.cellsOf t = 1) {cs : Array Value} {o : Nat} {x : DataW H × List MemPlace}
    (h : DataW.trod enc P W base sp held n t ((cs.toList.drop o).take (P.cellsOf t)) = some x) : ∃ s : ByteArray, cs[o]? = some (.string s) ∧ x = (.lit (.string s.data.toList), []) ∧ s.size ≤ maxLen := by
  obtain ⟨s, h1, h2, h3⟩ := DataW.trod_string ht h
  refine ⟨s, ?_, h2, h3⟩
  rw [hc] at h1
  have : ((cs.toList.drop o).take 1)[0]? = some (.string s) := by rw [h1]; rfl
  simpa using this
end Go.Ev
