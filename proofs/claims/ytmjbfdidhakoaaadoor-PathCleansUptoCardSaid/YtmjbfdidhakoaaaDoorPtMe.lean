/- The fields of a text between its slashes are its parts that are not empty. -/
import Derived.Test.YtmjbfdidhakoaaaDoorPtMc
import Derived.Shelf.Strings.FieldsFuncGrows
namespace Go.Ev
open Go Go.Proofs Go.RowKit
set_option linter.unusedVariables false
set_option linter.unusedSimpArgs false
set_option maxRecDepth 100000
set_option maxHeartbeats 4000000
theorem get_list {s : ByteArray} {i : Nat} (h : i < s.size) : s.data.toList[i]? = some (s.get! i) := by
  have h' : i < s.data.size := h
  rw [Array.getElem?_toList, Array.getElem?_eq_getElem h']
  congr 1
  show _ = s.data[i]!
  rw [getElem!_pos s.data i h']
theorem dec_47 (n b0 b1 b2 b3 : Nat) (hn : 1 ≤ n) : ((Lib.decodeN n b0 b1 b2 b3).1 = 47 ↔ b0 = 47) ∧ (b0 = 47 → (Lib.decodeN n b0 b1 b2 b3).2 = 1) ∧ 1 ≤ (Lib.decodeN n b0 b1 b2 b3).2 ∧ (Lib.decodeN n b0 b1 b2 b3).2 ≤ n ∧ (Lib.decodeN n b0 b1 b2 b3).2 ≤ 4 ∧
    (2 ≤ (Lib.decodeN n b0 b1 b2 b3).2 → b1 / 64 = 2) ∧ (3 ≤ (Lib.decodeN n b0 b1 b2 b3).2 → b2 / 64 = 2) ∧ (4 ≤ (Lib.decodeN n b0 b1 b2 b3).2 → b3 / 64 = 2) := by
  unfold Lib.decodeN
  split
  · simp; omega
  split
  · split
    · simp; omega
    · simp; omega
  split
  · split
    · simp; omega
    · simp; omega
  split
  · split
    · simp; omega
    · simp; omega
  · simp; omega
/-- What a rune at a place of a text is to a slash. -/
theorem dec_at {s : ByteArray} {i : Nat} (h : i < s.size) : ((Utf8.decode s i).1 = 47 ↔ s.data.toList[i]? = some 47) ∧ (s.data.toList[i]? = some 47 → (Utf8.decode s i).2 = 1) ∧ 1 ≤ (Utf8.decode s i).2 ∧ i + (Utf8.decode s i).2 ≤ s.size ∧
    ((Utf8.decode s i).1 ≠ 47 → ∀ k, k < (Utf8.decode s i).2 → s.data.toList[i + k]? ≠ some 47) := by
  have e := Lib.decode_at s i
  have d := dec_47 (s.size - i) (s.get! i).toNat (s.get! (i + 1)).toNat (s.get! (i + 2)).toNat (s.get! (i + 3)).toNat (by omega)
  rw [← e] at d
  obtain ⟨d1, d2, d3, d4, d5, d6, d7, d8⟩ := d
  have n47 : ∀ b : UInt8, b.toNat = 47 ↔ b = 47 := fun b => ⟨fun h => UInt8.toNat_inj.1 h, fun h => by rw [h]; rfl⟩
  have g0 : s.data.toList[i]? = some 47 ↔ (s.get! i).toNat = 47 := by
    rw [get_list h, n47]; simp
  refine ⟨d1.trans g0.symm, fun h47 => d2 (g0.1 h47), d3, by omega, fun hr k hk h47 => ?_⟩
  have hik : i + k < s.size := by omega
  rw [get_list hik] at h47
  have hv : (s.get! (i + k)).toNat = 47 := (n47 _).2 (Option.some.inj h47)
  have hk4 : k = 0 ∨ k = 1 ∨ k = 2 ∨ k = 3 := by omega
  rcases hk4 with rfl | rfl | rfl | rfl
  · exact hr (d1.2 hv)
  · have := d6 (by omega); omega
  · have := d7 (by omega); omega
  · have := d8 (by omega); omega
def fieldsL (l : List UInt8) : List (List UInt8) := (splitL l).filter (· ≠ [])
theorem fieldsL_slash (l : List UInt8) : fieldsL (47 :: l) = fieldsL l := by unfold fieldsL; rw [splitL_slash]; simp
theorem fieldsL_app {a : List UInt8} (h : ∀ x ∈ a, x ≠ 47) (hne : a ≠ []) (r : List UInt8) : fieldsL (a ++ 47 :: r) = a :: fieldsL r := by unfold fieldsL; rw [splitL_app r a h, List.filter_cons]; simp [hne]
theorem fieldsL_one {a : List UInt8} (h : ∀ x ∈ a, x ≠ 47) (hne : a ≠ []) : fieldsL a = [a] := by unfold fieldsL; rw [splitL_one a h, List.filter_cons]; simp [hne]
abbrev isSl (x : Nat) : Bool := decide (x = 47)
abbrev extL (s : ByteArray) (x : Nat × Nat) : List UInt8 := (s.extract x.1 x.2).data.toList
theorem spans_law (s : ByteArray) : ∀ (f pos : Nat) (st : Option Nat) (acc : List (Nat × Nat)), s.size - pos ≤ f → pos ≤ s.size → (∀ a, st = some a → a < pos ∧ ∀ k, a ≤ k → k < pos → s.data.toList[k]? ≠ some 47) →
    (Lib.closeSpans s (Lib.spansFromP isSl s f pos st acc)).map (extL s) = acc.map (extL s) ++ fieldsL (s.data.toList.drop (st.getD pos)) := by
  have hl := ba_len s
  -- a run without a slash, as a list
  have run : ∀ (a b : Nat), (∀ k, a ≤ k → k < b → s.data.toList[k]? ≠ some 47) → ∀ x ∈ (s.data.toList.take b).drop a, x ≠ 47 := by
    intro a b h x hx hx47
    subst hx47
    obtain ⟨j, hj⟩ := List.mem_iff_getElem?.1 hx
    rw [List.getElem?_drop, List.getElem?_take] at hj
    split at hj
    · exact h (a + j) (by omega) (by assumption) hj
    · cases hj
  have fin : ∀ (pos : Nat) (st : Option Nat) (acc : List (Nat × Nat)), pos = s.size → (∀ a, st = some a → a < pos ∧ ∀ k, a ≤ k → k < pos → s.data.toList[k]? ≠ some 47) → (Lib.closeSpans s (acc, st)).map (extL s) = acc.map (extL s) ++ fieldsL (s.data.toList.drop (st.getD pos)) := by
    intro pos st acc hp hst
    subst hp
    cases st with
    | none =>
      rw [Option.getD_none, List.drop_of_length_le (by omega)]
      show acc.map (extL s) = acc.map (extL s) ++ []
      rw [List.append_nil]
    | some a =>
      obtain ⟨h1, h2⟩ := hst a rfl
      rw [Option.getD_some]
      show (acc ++ [(a, s.size)]).map (extL s) = _
      rw [List.map_append]
      congr 1
      have e : extL s (a, s.size) = s.data.toList.drop a := by
        show (s.extract a s.size).data.toList = _
        rw [toList_ext, List.take_of_length_le (by omega)]
      have hr := run a s.size h2
      rw [List.take_of_length_le (by omega)] at hr
      rw [fieldsL_one hr (fun h => by have := congrArg List.length h; rw [List.length_drop] at this; simp at this; omega)]
      show [extL s (a, s.size)] = _
      rw [e]
  intro f
  induction f with
  | zero =>
    intro pos st acc hf hp hst
    exact fin pos st acc (by omega) hst
  | succ f ih =>
    intro pos st acc hf hp hst
    unfold Lib.spansFromP
    by_cases hlt : pos < s.size
    · rw [if_pos hlt]
      obtain ⟨d1, d2, d3, d4, d5⟩ := dec_at hlt
      have hd : s.data.toList.drop pos = s.data.toList[pos]'(by omega) :: s.data.toList.drop (pos + 1) := List.drop_eq_getElem_cons (by omega)
      by_cases h47 : (Utf8.decode s pos).1 = 47
      · have hb := d1.1 h47
        have hw := d2 hb
        have hb2 : s.data.toList[pos]'(by omega) = 47 := by
          rw [List.getElem?_eq_getElem (by omega)] at hb
          exact Option.some.inj hb
        rw [hb2] at hd
        rw [if_pos (decide_eq_true h47), hw]
        cases st with
        | none =>
          simp only
          rw [ih _ _ _ (by omega) (by omega) (fun a h => by cases h), Option.getD_none, Option.getD_none, hd, fieldsL_slash]
        | some a =>
          obtain ⟨h1, h2⟩ := hst a rfl
          simp only
          rw [ih _ _ _ (by omega) (by omega) (fun a h => by cases h), Option.getD_none, Option.getD_some, List.map_append, List.append_assoc]
          congr 1
          have e : extL s (a, pos) = (s.data.toList.take pos).drop a := toList_ext s a pos
          have hsp : s.data.toList.drop a = (s.data.toList.take pos).drop a ++ 47 :: s.data.toList.drop (pos + 1) := by
            rw [← hd]
            conv => lhs; rw [← List.take_append_drop pos s.data.toList]
            rw [List.drop_append_of_le_length (by rw [List.length_take]; omega)]
          rw [hsp, fieldsL_app (run a pos h2) (fun h => by have := congrArg List.length h; rw [List.length_drop, List.length_take] at this; simp at this; omega)]
          show extL s (a, pos) :: fieldsL _ = _
          rw [e]
      · rw [if_neg (by simpa using h47)]
        have n5 := d5 h47
        have more : ∀ a, a ≤ pos → (∀ k, a ≤ k → k < pos → s.data.toList[k]? ≠ some 47) → ∀ k, a ≤ k → k < pos + (Utf8.decode s pos).2 → s.data.toList[k]? ≠ some 47 := by
          intro a ha h k hk1 hk2
          by_cases hk : k < pos
          · exact h k hk1 hk
          · have := n5 (k - pos) (by omega)
            rwa [show pos + (k - pos) = k by omega] at this
        cases st with
        | none =>
          simp only
          rw [ih _ _ _ (by omega) (by omega) (fun a h => by cases h; exact ⟨by omega, more pos (Nat.le_refl _) (fun k h1 h2 => by omega)⟩)]
          rfl
        | some a =>
          obtain ⟨h1, h2⟩ := hst a rfl
          simp only
          rw [ih _ _ _ (by omega) (by omega) (fun a' h => by cases h; exact ⟨by omega, more a (by omega) h2⟩)]
          rfl
    · rw [if_neg hlt]
      exact fin pos st acc (by omega) hst
theorem fields_law (s : ByteArray) : (Lib.goFieldsP isSl s).map (·.data.toList) = fieldsL s.data.toList := by
  have h := spans_law s s.size 0 none [] (by omega) (Nat.zero_le _) (fun a h => by cases h)
  rw [List.map_nil, List.nil_append, Option.getD_none, List.drop_zero] at h
  unfold Lib.goFieldsP Lib.spansOfP
  rw [List.map_map]
  exact h
end Go.Ev
