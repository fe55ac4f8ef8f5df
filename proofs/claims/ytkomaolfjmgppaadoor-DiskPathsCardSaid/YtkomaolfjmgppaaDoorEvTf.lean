/- strings.Join of a row of texts whose number need not be known. -/
import Derived.Test.YtkomaolfjmgppaaDoorEvTe
namespace Go.Ev
open Go Go.Proofs Go.RowKit
set_option linter.unusedVariables false
set_option linter.unusedSimpArgs false
def allS : List Value → Bool
  | [] => true
  | .string _ :: l => allS l
  | _ => false
def strsOf : List Value → List ByteArray
  | [] => []
  | .string s :: l => s :: strsOf l
  | _ :: l => strsOf l
theorem strsOf_eq : ∀ {L : List Value}, allS L = true → L = (strsOf L).map Value.string := by
  intro L
  induction L with
  | nil => intro _; rfl
  | cons v L ih =>
    intro h
    unfold allS at h
    split at h
    · rename_i e; cases e
    · rename_i s l e; cases e; show _ = Value.string s :: (strsOf L).map Value.string; rw [← ih h]
    · cases h
theorem allS_map (xs : List ByteArray) : allS (xs.map Value.string) = true := by
  induction xs with
  | nil => rfl
  | cons x xs ih => exact ih
theorem strsOf_map (xs : List ByteArray) : strsOf (xs.map Value.string) = xs := by
  induction xs with
  | nil => rfl
  | cons x xs ih => show x :: strsOf _ = _; rw [ih]
def joinB (xs : List ByteArray) (sep : ByteArray) : ByteArray := ⟨(Go.Lib.join (xs.map (·.data.toList)) sep.data.toList).toArray⟩
def jnFoot : List Value → AHeap → Option (List Nat)
  | [.slice none 0 0, _], _ => some []
  | [.slice (some ⟨b, 0, none⟩) _ _, _], _ => some [b]
  | _, _ => none
def jnSpec : List Value → AHeap → SpR
  | [.slice none 0 0, .string sep], HL => .ret true (.string ⟨#[]⟩) []
  | [.slice (some ⟨0, 0, none⟩) n c, .string sep], HL =>
    match HL.get 0 with
    | some (.cells L T .ro []) => .ret (allS L && decide (n ≤ L.length ∧ n ≤ 140737488355328 ∧ (joinB ((strsOf L).take n) sep).size ≤ 140737488355328)) (.string (joinB ((strsOf L).take n) sep)) []
    | _ => .fail
  | _, _ => .fail
theorem jn_ok {P : Program} {q : Go.Shelf.Ren} (L : Go.Proofs.Lays.n156 P q) (X : Go.Proofs.Builder.Extra P q) {F : Func} (hF : P.funcs[q.f 156]? = some F) (hb : F.body.isSome = true) (hn : F.name ≠ "runtime.NumGoroutine") :
    BSumOk P (q.f 156) (roS jnFoot jnSpec) := by
  refine sumOk_ro hF hb hn ?_
  rintro args HL v os ⟨H0, args0, d, hd, hargs, rfl⟩ hs ρ w cargs hR hno ha
  unfold jnSpec at hs
  split at hs
  case h_3 => cases hs
  · rename_i sep
    simp only [SpR.get, Option.some.injEq, Prod.mk.injEq, true_and] at hs
    obtain ⟨rfl, rfl⟩ := hs
    obtain ⟨S, T1, e1, hS, r1⟩ := ha.cons_left
    obtain ⟨V, T2, e2, hV, r2⟩ := r1.cons_left
    obtain rfl := r2.nil_left
    subst e2
    obtain rfl := hV.string_inv
    have hS' : S = .slice none 0 0 := by cases hS; rfl
    subst hS'
    have : cargs = #[.slice none 0 0, .string sep] := by apply Array.ext'; simpa using e1
    subst this
    refine (Go.Proofs.Any.strings_Join_none L X none 0 sep w).mono ?_
    rintro e w' ⟨rfl, rfl⟩
    obtain ⟨r1, r2⟩ := hR.below (Below.refl _ _)
    exact ⟨_, ρ, rfl, r1, r2, .string _⟩
  · rename_i n c sep
    split at hs
    case h_2 => cases hs
    rename_i cs T hg
    simp only [SpR.get, Option.some.injEq, Prod.mk.injEq, Bool.and_eq_true, decide_eq_true_eq] at hs
    obtain ⟨⟨hS1, h1, h2, h3⟩, rfl, rfl⟩ := hs
    obtain ⟨S, T1, e1, hS, r1⟩ := ha.cons_left
    obtain ⟨V, T2, e2, hV, r2⟩ := r1.cons_left
    obtain rfl := r2.nil_left
    subst e2
    obtain rfl := hV.string_inv
    obtain ⟨l, C, A, hbl, hnc, hcc, hN, hA, rfl⟩ := hS.slice_inv
    have hcar : cargs = #[.slice (some A) n C, .string sep] := by apply Array.ext'; simpa using e1
    subst hcar
    have hx := strsOf_eq hS1
    generalize strsOf cs = xs at *
    subst hx
    rw [List.length_map] at h1
    by_cases hn0 : n = 0
    · subst hn0
      refine (Go.Proofs.Any.strings_Join_none L X (some A) C sep w).mono ?_
      rintro e w' ⟨rfl, rfl⟩
      obtain ⟨r1, r2⟩ := hR.below (Below.refl _ _)
      exact ⟨_, ρ, rfl, r1, r2, by rw [List.take_zero]; exact .string _⟩
    have hA' := hA (by omega)
    subst hA'
    have hrd : rd (roH (agc d H0)) 0 0 n = some ((xs.take n).map Value.string) := by
      unfold rd; rw [hg]; simp only []; rw [if_pos (by rw [List.length_map]; omega), List.drop_zero, List.map_take]
    obtain ⟨Vs, x1, x2, x3, x4⟩ := rd_rel hR hbl hrd
    have hxl : (xs.take n).length = n := by rw [List.length_take]; omega
    have hcell : ∀ (j : Nat) x, (xs.take n)[j]? = some x → w.cell? ⟨l.B, l.s + 0 + j, none⟩ = some (.string x) := by
      intro j x hj
      have hj' : j < Vs.length := by rw [← x1.1, List.length_map]; exact (List.getElem?_eq_some_iff.1 hj).1
      have hv := x1.2 j (.string x) Vs[j] (by rw [List.getElem?_map, hj]; rfl) (List.getElem?_eq_getElem hj')
      have e := hv.string_inv
      have := x4 j _ (List.getElem?_eq_getElem hj')
      rw [addr_add, e] at this
      exact this
    have key := Go.Proofs.Any.strings_Join L X l.B (l.s + 0) C (xs.take n) sep w hcell (hR.bd 0 l hbl).2 (by omega) (by omega) h3
    rw [hxl] at key
    refine key.mono ?_
    rintro e w' ⟨rfl, hbw⟩
    obtain ⟨r1, r2⟩ := hR.below hbw
    exact ⟨_, ρ, rfl, r1, r2, .string _⟩
end Go.Ev
