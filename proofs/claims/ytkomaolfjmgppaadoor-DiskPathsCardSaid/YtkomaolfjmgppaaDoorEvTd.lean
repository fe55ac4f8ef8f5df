/- Rows of structs: their cells; rows that come in. -/
import Derived.Test.YtkomaolfjmgppaaDoorEvTc
namespace Go.Ev
open Go RowKit
set_option linter.unusedVariables false

section
variable {α : Type} {cel : α → List Value} {k : Nat}
theorem rows_len (hk : ∀ a, (cel a).length = k) (F : List α) : (F.flatMap cel).length = F.length * k := by
  induction F with
  | nil => simp
  | cons a F ih => rw [List.flatMap_cons, List.length_append, hk, ih, List.length_cons, Nat.add_mul]; omega
theorem rows_get (hk : ∀ a, (cel a).length = k) : ∀ (F : List α) (i : Nat) (a : α), F[i]? = some a → ((F.flatMap cel).drop (i * k)).take k = cel a ∧ i * k + k ≤ (F.flatMap cel).length := by
  intro F
  induction F with
  | nil => intro i a h; cases h
  | cons b F ih =>
    intro i a h
    cases i with
    | zero =>
      injection h with h
      subst h
      rw [List.flatMap_cons]
      refine ⟨?_, by rw [List.length_append, hk]; omega⟩
      rw [Nat.zero_mul, List.drop_zero, List.take_left' (hk b)]
    | succ i =>
      obtain ⟨h1, h2⟩ := ih i a h
      rw [List.flatMap_cons]
      refine ⟨?_, ?_⟩
      · rw [Nat.add_mul, Nat.one_mul, Nat.add_comm (i * k) k, ← List.drop_drop, List.drop_left' (hk b)]
        exact h1
      · rw [List.length_append, hk, Nat.add_mul]; omega
theorem rows_cell (hk : ∀ a, (cel a).length = k) (F : List α) (i j : Nat) (a : α) (h : F[i]? = some a) (hj : j < k) : (F.flatMap cel)[i * k + j]? = (cel a)[j]? := by
  obtain ⟨h1, h2⟩ := rows_get hk F i a h
  rw [← h1, List.getElem?_take_of_lt hj, List.getElem?_drop]
theorem rows_ren (d : List Nat) (hr : ∀ a, (cel a).map (renV d) = cel a) (F : List α) : (F.flatMap cel).map (renV d) = F.flatMap cel := by
  induction F with
  | nil => rfl
  | cons a F ih => rw [List.flatMap_cons, List.map_append, hr, ih]

/-- A struct that lies in a row. -/
theorem aload_agg {E : Env} {t : TypeId} {n : Nat} (ht : (E.ty t).map (fun i => (isAggD i.desc, i.size)) = some (true, n)) {H : AHeap} {b o : Nat} {L : List Value} {T : ET} {st : St} {anc : List Nat} (hg : H.get b = some (.cells L T st anc))
    (hl : o + n ≤ L.length) : aload E t (.pointer (some ⟨b, o, none⟩)) H = some (.agg ⟨(L.drop o).take n⟩) := by
  unfold aload
  cases hi : E.ty t with
  | none => rw [hi] at ht; cases ht
  | some i =>
    rw [hi] at ht
    simp only [Option.map_some, Option.some.injEq, Prod.mk.injEq] at ht
    simp only [ht.1, ht.2, if_true]
    unfold rd
    rw [hg]
    simp only []
    rw [if_pos hl]
    rfl
/-- A cell of a row. -/
theorem aload_one {E : Env} {t : TypeId} (ht : (E.ty t).map (fun i => isAggD i.desc) = some false) {H : AHeap} {b o : Nat} {L : List Value} {T : ET} {st : St} {anc : List Nat} (hg : H.get b = some (.cells L T st anc)) :
    aload E t (.pointer (some ⟨b, o, none⟩)) H = L[o]? := by
  unfold aload
  cases hi : E.ty t with
  | none => rw [hi] at ht; cases ht
  | some i =>
    rw [hi] at ht
    simp only [Option.map_some, Option.some.injEq] at ht
    simp only [ht]
    unfold rd1
    rw [hg]
    rfl
theorem loadAgg {E : Env} {t : TypeId} (ht : (E.ty t).map (fun i => (isAggD i.desc, i.size)) = some (true, k)) (hk : ∀ a, (cel a).length = k) {F : List α} {i : Nat} {a : α} (hf : F[i]? = some a) {H : AHeap} {b o : Nat} {T : ET} {st : St} {anc : List Nat}
    (hg : H.get b = some (.cells (F.flatMap cel) T st anc)) (ho : o = i * k) : LoadIs E t (.pointer (some ⟨b, o, none⟩)) H (.agg ⟨cel a⟩) := by
  subst ho
  obtain ⟨h1, h2⟩ := rows_get hk F i a hf
  exact ⟨by rw [aload_agg ht hg h2, h1]⟩

/-- A row that came in, told by what its elements are. -/
theorem rows_open (hk : ∀ a, (cel a).length = k) (h0 : 0 < k) (hs : ∀ a, ∀ v ∈ cel a, scal v = true) {len o : Nat} {CS : Array Value} {ci : Nat → List Value} {Q : Nat → α → Prop}
    (hc : ∀ i, i < len → ∀ j, j < k → CS[o + (i * k + j)]? = (ci i)[j]?) (he : ∀ i, i < len → ∃ a, ci i = cel a ∧ Q i a) :
    ∃ F : List α, F.length = len ∧ (∀ i a, F[i]? = some a → Q i a) ∧ (∀ j, j < (F.flatMap cel).length → CS[o + j]? = (F.flatMap cel)[j]?) ∧ ∀ v ∈ F.flatMap cel, scal v = true := by
  obtain ⟨F, hF⟩ : ∃ F : List α, F.length = len ∧ ∀ i a, F[i]? = some a → ci i = cel a ∧ Q i a := by
    clear hc
    induction len with
    | zero => exact ⟨[], rfl, fun i a h => by cases h⟩
    | succ n ih =>
      obtain ⟨F, h1, h2⟩ := ih fun i hi => he i (by omega)
      obtain ⟨a, ha⟩ := he n (by omega)
      refine ⟨F ++ [a], by simp [h1], fun i b h => ?_⟩
      rw [List.getElem?_append] at h
      split at h
      · exact h2 i b h
      · have : i = n := by
          have := (List.getElem?_eq_some_iff.1 h).1
          simp at this
          omega
        subst this
        rw [show i - F.length = 0 by omega] at h
        cases h
        exact ha
  refine ⟨F, hF.1, fun i a h => (hF.2 i a h).2, fun j hj => ?_, fun v hv => ?_⟩
  · rw [rows_len hk, hF.1] at hj
    have hi : j / k < len := Nat.div_lt_of_lt_mul (by rw [Nat.mul_comm]; exact hj)
    have hm : j % k < k := Nat.mod_lt _ h0
    have e : j / k * k + j % k = j := by rw [Nat.mul_comm]; exact Nat.div_add_mod j k
    obtain ⟨a, ha⟩ : ∃ a, F[j / k]? = some a := ⟨_, List.getElem?_eq_getElem (by omega)⟩
    have h1 := rows_cell hk F (j / k) (j % k) a ha hm
    have h2 := hc (j / k) hi (j % k) hm
    rw [e] at h1 h2
    rw [h1, h2, (hF.2 _ _ ha).1]
  · obtain ⟨a, _, hv⟩ := List.mem_flatMap.1 hv
    exact hs a v hv
end
end Go.Ev
