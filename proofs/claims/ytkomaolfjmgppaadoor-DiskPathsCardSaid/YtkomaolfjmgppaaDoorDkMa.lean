/- The program's types, the orders of its drawn regions, what its library functions come to: what the evaluator asks of a program is so. -/
import Derived.Test.YtkomaolfjmgppaaDoorEvTf
import Derived.Test.YtkomaolfjmgppaaDoorDkLay
namespace Go.Ev
open Go Go.Proofs
set_option maxRecDepth 100000
def dkPlans : Plans := [(4, [(9, [(0, []), (2, []), (3, []), (8, [3]), (1, [3, 8]), (4, [8]), (5, []), (6, []), (7, []), (9, []), (10, [])]), (15, [(0, []), (1, []), (2, []), (3, []), (5, []), (6, []), (4, [2, 6]), (7, []), (8, []), (9, [])]), (16, [(0, []), (2, []), (3, []), (8, [3]), (1, [3, 8]), (4, [8]), (5, []), (6, []), (7, []), (9, []), (10, [])]), (20, [(0, []), (2, []), (1, []), (3, []), (4, []), (5, []), (6, []), (7, []), (8, []), (9, []), (10, []), (11, []), (12, []), (13, []), (14, []), (15, []), (16, []), (17, []), (18, []), (19, []), (20, []), (21, []), (22, []), (23, []), (24, [22]), (25, []), (26, []), (27, []), (28, []), (29, []), (30, []), (31, []), (32, []), (33, []), (34, []), (35, []), (36, []), (37, []), (38, []), (39, []), (40, []), (41, []), (42, []), (43, []), (44, []), (45, []), (46, []), (47, [])])]), (5, [(10, [(0, []), (1, []), (2, []), (4, []), (5, []), (3, [5]), (6, []), (7, [])]), (12, [(0, []), (1, []), (2, []), (3, []), (5, []), (6, []), (8, []), (9, []), (10, []), (12, []), (13, []), (4, [2, 6, 9, 10, 13]), (7, [9, 10, 13]), (11, [9, 13]), (14, []), (15, [])]), (17, [(0, []), (1, []), (2, []), (3, []), (4, []), (5, []), (6, []), (7, []), (8, []), (9, []), (10, []), (11, []), (12, []), (13, []), (15, []), (16, []), (14, [16]), (17, []), (18, []), (19, []), (20, []), (22, []), (23, []), (21, [23]), (24, []), (25, [])]), (21, [(0, []), (1, []), (2, []), (3, []), (4, []), (5, []), (6, []), (8, []), (9, []), (7, [9]), (10, []), (11, []), (12, [])])]), (6, [(23, [(0, []), (1, []), (2, []), (3, []), (4, []), (5, []), (6, []), (7, []), (8, []), (9, []), (10, [])]), (25, [(0, []), (1, []), (2, []), (3, []), (4, []), (5, []), (6, []), (7, []), (8, []), (9, []), (10, []), (11, []), (12, []), (13, []), (14, []), (15, []), (16, []), (17, []), (18, []), (19, []), (20, []), (21, []), (22, []), (23, []), (24, [])]), (30, [(0, []), (1, []), (2, []), (3, []), (4, []), (5, []), (6, []), (7, []), (8, []), (9, []), (10, []), (11, []), (12, []), (13, []), (14, []), (15, []), (16, []), (17, []), (18, []), (19, []), (20, []), (21, []), (22, []), (23, []), (24, []), (25, []), (26, []), (27, []), (28, []), (29, []), (30, []), (31, []), (32, []), (33, []), (34, []), (35, []), (36, []), (37, []), (38, []), (39, []), (40, []), (41, []), (42, []), (43, [])]), (35, [(0, []), (1, []), (2, []), (3, []), (4, []), (5, []), (6, []), (7, []), (8, []), (9, []), (10, []), (11, []), (12, [])])]), (13, [(3, [(0, []), (1, []), (2, []), (3, []), (5, []), (6, []), (7, []), (8, []), (4, [8]), (9, []), (10, [3, 8]), (11, [])])]), (16, [(13, [(0, []), (1, []), (2, []), (3, []), (4, []), (5, []), (6, []), (7, []), (8, []), (9, []), (10, []), (11, []), (12, [])])]), (17, [(3, [(0, []), (1, []), (2, []), (3, []), (4, [1, 3]), (5, []), (6, []), (7, [])])]), (23, [(6, [(0, []), (1, []), (2, []), (3, []), (4, []), (5, []), (6, []), (7, []), (8, [])])]), (25, [(3, [(0, []), (1, []), (2, []), (3, []), (5, []), (6, []), (4, [2, 6]), (7, [])])]), (29, [(5, [(0, []), (1, []), (2, []), (3, []), (4, []), (5, []), (6, []), (7, []), (8, []), (9, []), (10, []), (11, []), (12, [])])]), (37, [(17, [(0, []), (1, []), (2, []), (3, []), (4, []), (5, []), (6, []), (7, []), (8, []), (9, []), (10, []), (11, []), (12, []), (13, []), (14, []), (15, []), (16, [])])]), (43, [(4, [(0, []), (1, []), (2, []), (3, []), (4, []), (5, []), (6, []), (7, []), (8, []), (9, []), (10, []), (11, []), (12, []), (13, []), (14, []), (15, []), (16, [])]), (6, [(0, []), (1, []), (2, []), (3, []), (4, []), (5, []), (6, []), (7, []), (8, []), (9, []), (10, []), (11, []), (12, []), (13, []), (14, []), (15, []), (16, []), (17, [])])]), (44, [(10, [(0, []), (1, []), (2, []), (3, []), (4, []), (5, []), (6, []), (7, []), (8, []), (9, []), (10, []), (11, []), (12, []), (13, []), (14, []), (15, []), (16, []), (17, []), (18, []), (19, [])])]), (45, [(10, [(0, []), (1, []), (2, []), (3, []), (4, []), (5, []), (6, []), (7, []), (8, []), (9, []), (10, []), (11, []), (12, []), (13, []), (14, []), (15, []), (16, []), (17, []), (18, []), (19, [])])]), (47, [(3, [(0, []), (1, []), (2, []), (3, []), (4, []), (5, []), (6, []), (7, []), (8, []), (9, []), (10, []), (11, []), (12, []), (13, []), (14, []), (15, [])])]), (48, [(5, [(0, []), (1, []), (2, []), (3, []), (4, []), (5, []), (6, []), (7, []), (8, []), (9, []), (10, []), (11, []), (12, []), (13, []), (14, []), (15, []), (16, []), (17, [])]), (11, [(0, []), (1, []), (2, []), (3, []), (4, []), (5, []), (6, []), (7, []), (8, []), (9, []), (10, []), (11, []), (12, []), (13, []), (14, []), (15, []), (16, []), (17, [])]), (16, [(0, []), (1, []), (2, []), (3, []), (4, []), (5, []), (6, []), (7, []), (8, []), (9, []), (10, []), (11, []), (12, [])]), (17, [(0, []), (1, []), (2, []), (3, []), (4, []), (5, []), (6, []), (7, []), (8, []), (9, []), (10, []), (11, []), (12, []), (13, []), (14, []), (15, []), (16, []), (17, [])]), (22, [(0, []), (1, []), (2, []), (3, []), (4, []), (5, []), (6, []), (7, []), (8, []), (9, []), (10, []), (11, []), (12, [])]), (23, [(0, []), (1, []), (2, []), (3, []), (4, []), (5, []), (6, []), (7, []), (8, []), (9, []), (10, []), (11, []), (12, []), (13, []), (14, []), (15, []), (16, []), (17, [])])]), (49, [(1, [(0, []), (1, []), (2, []), (3, []), (4, []), (5, []), (6, []), (7, []), (8, []), (9, []), (10, []), (11, []), (12, []), (13, []), (14, []), (15, [])]), (3, [(0, []), (1, []), (2, []), (3, []), (4, []), (5, []), (6, []), (7, []), (8, []), (9, []), (10, []), (11, []), (12, []), (13, []), (14, []), (15, []), (16, [])]), (5, [(0, []), (1, []), (2, []), (3, []), (4, []), (5, []), (6, []), (7, []), (8, []), (9, []), (10, []), (11, []), (12, []), (13, []), (14, []), (15, [])]), (8, [(0, []), (1, []), (2, []), (3, []), (4, []), (5, []), (6, []), (7, []), (8, []), (9, []), (10, []), (11, []), (12, []), (13, []), (14, []), (15, [])])]), (50, [(1, [(0, []), (1, []), (2, []), (3, []), (4, []), (5, []), (6, []), (7, []), (8, []), (9, []), (10, []), (11, []), (12, []), (13, []), (14, []), (15, [])]), (3, [(0, []), (1, []), (2, []), (3, []), (4, []), (5, []), (6, []), (7, []), (8, []), (9, []), (10, []), (11, []), (12, []), (13, []), (14, []), (15, [])]), (5, [(0, []), (1, []), (2, []), (3, []), (4, []), (5, []), (6, []), (7, []), (8, []), (9, []), (10, []), (11, []), (12, []), (13, []), (14, []), (15, []), (16, [])]), (8, [(0, []), (1, []), (2, []), (3, []), (4, []), (5, []), (6, []), (7, []), (8, []), (9, []), (10, []), (11, []), (12, []), (13, []), (14, []), (15, [])]), (10, [(0, []), (1, []), (2, []), (3, []), (4, []), (5, []), (6, []), (7, []), (8, []), (9, []), (10, []), (11, []), (12, []), (13, []), (14, []), (15, [])]), (13, [(0, []), (1, []), (2, []), (3, []), (4, []), (5, []), (6, []), (7, []), (8, []), (9, []), (10, []), (11, []), (12, []), (13, []), (14, []), (15, [])]), (15, [(0, []), (1, []), (2, []), (3, []), (4, []), (5, []), (6, []), (7, []), (8, []), (9, []), (10, []), (11, []), (12, []), (13, []), (14, []), (15, []), (16, [])]), (18, [(0, []), (1, []), (2, []), (3, []), (4, []), (5, []), (6, []), (7, []), (8, []), (9, []), (10, []), (11, []), (12, []), (13, []), (14, []), (15, [])]), (21, [(0, []), (1, []), (2, []), (3, []), (4, []), (5, []), (6, []), (7, []), (8, []), (9, []), (10, []), (11, []), (12, []), (13, []), (14, []), (15, [])])]), (58, [(3, [(0, []), (1, []), (2, []), (3, []), (4, []), (5, []), (6, []), (7, []), (8, []), (9, []), (10, []), (11, []), (12, []), (13, []), (14, []), (15, []), (16, []), (17, []), (18, []), (19, []), (20, []), (21, [])]), (5, [(0, []), (1, []), (2, []), (3, []), (4, []), (5, []), (6, []), (7, []), (8, []), (9, []), (10, []), (11, []), (12, []), (13, []), (14, []), (15, [])]), (6, [(0, []), (1, []), (2, []), (3, []), (4, []), (5, []), (6, []), (7, []), (8, []), (9, []), (10, []), (11, []), (12, []), (13, []), (14, []), (15, []), (16, []), (17, []), (18, []), (19, []), (20, []), (21, []), (22, []), (23, [])])]), (60, [(1, [(0, []), (1, []), (2, []), (3, []), (4, []), (5, []), (6, []), (7, []), (8, []), (9, [])]), (2, [(0, []), (1, []), (2, []), (3, []), (4, []), (5, []), (6, []), (7, []), (8, []), (9, [])]), (3, [(0, []), (1, []), (2, []), (3, []), (4, []), (5, []), (6, []), (7, []), (8, []), (9, [])])]), (68, [(1, [(0, []), (1, []), (2, []), (3, []), (4, []), (5, []), (6, []), (7, []), (8, []), (9, []), (10, [])])])]
def dkExts : Exts := [(36, .mapsClone), (53, .compare), (56, .count), (69, .indexByte)]
theorem dkX : ExtsOk Tryd.prog dkExts := ⟨⟨_, Tryd.func36, by kernel_rfl, by kernel_rfl, by kernel_rfl, by kernel_rfl⟩, ⟨⟨_, Tryd.func53, by kernel_rfl, by kernel_rfl, by kernel_rfl, by kernel_rfl⟩, ⟨⟨_, Tryd.func56, by kernel_rfl, by kernel_rfl, by kernel_rfl, by kernel_rfl⟩, ⟨⟨_, Tryd.func69, by kernel_rfl, by kernel_rfl, by kernel_rfl, by kernel_rfl⟩, trivial⟩⟩⟩⟩
/-! ### The examples -/
noncomputable def dk0 : Env := mkEnv Tryd.prog dkPlans dkExts fun _ => none
theorem dkAw : SumOk Tryd.prog 10 (pureS awG) :=
  sumOk_true (E := dk0) (tOk_of (by kernel_rfl) dkX) (fOk_of (by kernel_rfl)) sOk_none (by kernel_rfl) (k := 400) Tryd.func10 (by kernel_rfl) (by decide) (by kernel_rfl)
/-! ### Split -/
theorem dkSplit : BSumOk Tryd.prog 27 (newS (spSpec 9)) := split_ok Tryd.l146 (by kernel_rfl) Tryd.func27 (by kernel_rfl) (by decide)
noncomputable def daSumms : List (Nat × BSumm) := [(27, newS (spSpec 9)), (10, liftS (pureS awG))]
theorem daSO : BSumsOk Tryd.prog daSumms := ⟨dkSplit, dkAw.lift, trivial⟩
noncomputable def dkA : Env := mkEnvB Tryd.prog dkPlans dkExts fun f => look f daSumms
theorem daT : dkA.TOk := tOkB_of (by kernel_rfl) dkX
theorem daF : dkA.FOk dkA.ok := fOkB_of (by kernel_rfl)
theorem daO : dkA.SOk := sOkB_of daSO
theorem daM : dkA.P.follows .mixedOrders = true := by kernel_rfl
end Go.Ev

/- Texts at their slashes, in plain lists. -/
namespace Go.Ev
open Go Go.Proofs Go.RowKit
set_option linter.unusedVariables false
set_option linter.unusedSimpArgs false
set_option maxRecDepth 100000
set_option maxHeartbeats 4000000
abbrev vi (x : Int) : Value := .int .i64 x
theorem ifKb {c : Bool} {a b : Prop} (h1 : c = true → a) (h2 : c = false → b) : ifK c a b := by
  cases c with
  | true => exact h1 rfl
  | false => exact h2 rfl
abbrev nl : Value := .slice none 0 0
abbrev slb (b n : Nat) : Value := .slice (some ⟨b, 0, none⟩) n n
theorem u8_eq {a : UInt8} {n : Nat} (hn : n < 256) : (a.toNat : Int) = n ↔ a = UInt8.ofNat n := by
  constructor
  · intro h
    apply UInt8.toNat_inj.1
    rw [UInt8.toNat_ofNat']
    omega
  · rintro rfl
    rw [UInt8.toNat_ofNat']
    omega
theorem ifK_nd {p : Prop} [Decidable p] {a b : Prop} (h1 : p → b) (h2 : ¬p → a) : ifK (!decide p) a b := by
  by_cases h : p
  · rw [decide_eq_true h]; exact h1 h
  · rw [decide_eq_false h]; exact h2 h
theorem dropAt {s : ByteArray} {i : Nat} (h : i < s.size) : ∃ b : UInt8, byteAt s (i : Int) = b.toNat ∧ s.data.toList.drop i = b :: s.data.toList.drop (i + 1) := by
  obtain ⟨b, h1, h2⟩ := list_byte h
  refine ⟨b, h2, ?_⟩
  have hl : i < s.data.toList.length := by rw [ba_len]; exact h
  rw [List.drop_eq_getElem_cons hl]
  rw [List.getElem?_eq_getElem hl] at h1
  rw [Option.some.inj h1]
abbrev eB : ByteArray := ⟨#[]⟩
abbrev slB : ByteArray := ⟨#[(47 : UInt8)]⟩
abbrev dotB : ByteArray := ⟨#[(46 : UInt8)]⟩
abbrev ddB : ByteArray := ⟨#[(46 : UInt8), (46 : UInt8)]⟩
/-- A text at its slashes. -/
def splitL : List UInt8 → List (List UInt8)
  | [] => [[]]
  | b :: l => if b = 47 then [] :: splitL l else match splitL l with
    | x :: xs => (b :: x) :: xs
    | [] => [[b]]
theorem splitL_ne (l : List UInt8) : splitL l ≠ [] := by
  cases l with
  | nil => decide
  | cons b l =>
    unfold splitL
    split
    · simp
    · split <;> simp
theorem splitL_slash (l : List UInt8) : splitL (47 :: l) = [] :: splitL l := by rw [splitL, if_pos rfl]
theorem splitL_byte {b : UInt8} (hb : b ≠ 47) (l : List UInt8) : ∃ x xs, splitL l = x :: xs ∧ splitL (b :: l) = (b :: x) :: xs := by
  cases h : splitL l with
  | nil => exact absurd h (splitL_ne l)
  | cons x xs => exact ⟨x, xs, rfl, by rw [splitL, if_neg hb, h]⟩
/-- A part ahead of a slash. -/
theorem splitL_app (r : List UInt8) : ∀ (a : List UInt8), (∀ x ∈ a, x ≠ 47) → splitL (a ++ 47 :: r) = a :: splitL r := by
  intro a
  induction a with
  | nil => intro _; exact splitL_slash r
  | cons b a ih =>
    intro h
    obtain ⟨x, xs, h1, h2⟩ := splitL_byte (h b (List.mem_cons_self ..)) (a ++ 47 :: r)
    rw [ih (fun y hy => h y (List.mem_cons_of_mem _ hy))] at h1
    cases h1
    exact h2
theorem splitL_one : ∀ (a : List UInt8), (∀ x ∈ a, x ≠ 47) → splitL a = [a] := by
  intro a
  induction a with
  | nil => intro _; rfl
  | cons b a ih =>
    intro h
    obtain ⟨x, xs, h1, h2⟩ := splitL_byte (h b (List.mem_cons_self ..)) a
    rw [ih (fun y hy => h y (List.mem_cons_of_mem _ hy))] at h1
    cases h1
    exact h2
/-- No part has a slash, and all its bytes are the text's. -/
theorem splitL_mem : ∀ (l : List UInt8), ∀ a ∈ splitL l, ∀ x ∈ a, x ≠ 47 ∧ x ∈ l := by
  intro l
  induction l with
  | nil => intro a ha x hx; simp [splitL] at ha; subst ha; cases hx
  | cons b l ih =>
    intro a ha x hx
    by_cases hb : b = 47
    · subst hb
      rw [splitL_slash] at ha
      rcases List.mem_cons.1 ha with rfl | ha
      · cases hx
      · obtain ⟨h1, h2⟩ := ih a ha x hx; exact ⟨h1, List.mem_cons_of_mem _ h2⟩
    · obtain ⟨y, ys, h1, h2⟩ := splitL_byte hb l
      rw [h2] at ha
      rcases List.mem_cons.1 ha with rfl | ha
      · rcases List.mem_cons.1 hx with rfl | hx
        · exact ⟨hb, List.mem_cons_self ..⟩
        · obtain ⟨h3, h4⟩ := ih y (by rw [h1]; exact List.mem_cons_self ..) x hx; exact ⟨h3, List.mem_cons_of_mem _ h4⟩
      · obtain ⟨h3, h4⟩ := ih a (by rw [h1]; exact List.mem_cons_of_mem _ ha) x hx; exact ⟨h3, List.mem_cons_of_mem _ h4⟩
theorem idx_split : ∀ (l : List UInt8), (Lib.indexByte l 47 = -1 ∧ l.count 47 = 0 ∧ ∀ x ∈ l, x ≠ 47) ∨ (∃ a r, l = a ++ 47 :: r ∧ (∀ x ∈ a, x ≠ 47) ∧ Lib.indexByte l 47 = a.length ∧ l.count 47 = r.count 47 + 1) := by
  intro l
  induction l with
  | nil => exact .inl ⟨rfl, rfl, fun x hx => by cases hx⟩
  | cons b l ih =>
    by_cases hb : b = 47
    · subst hb
      refine .inr ⟨[], l, rfl, ?_, by simp [Lib.indexByte], by simp⟩
      intro x hx; cases hx
    · rcases ih with ⟨h1, h2, h3⟩ | ⟨a, r, h1, h2, h3, h4⟩
      · refine .inl ⟨by simp [Lib.indexByte, hb, h1], by rw [List.count_cons]; simp [hb, h2], ?_⟩
        intro x hx
        rcases List.mem_cons.1 hx with rfl | hx
        · exact hb
        · exact h3 x hx
      · refine .inr ⟨b :: a, r, by rw [h1]; rfl, ?_, by simp [Lib.indexByte, hb, h3], by rw [List.count_cons]; simp [hb, h4]⟩
        intro x hx
        rcases List.mem_cons.1 hx with rfl | hx
        · exact hb
        · exact h2 x hx
theorem countB_47 (s : ByteArray) : Lib.countB s ⟨#[(47 : UInt8)]⟩ = s.data.toList.count 47 := by
  show Lib.count s.data.toList [47] = _
  rw [Lib.count_one]
theorem indexB_47 (s : ByteArray) : Lib.indexB s ⟨#[(47 : UInt8)]⟩ = Lib.indexByte s.data.toList 47 := by
  show Lib.index s.data.toList [47] = _
  rw [Lib.index_one]
theorem splitB_eq : ∀ (k : Nat) (s : ByteArray), s.data.toList.count 47 = k → (Lib.splitB ⟨#[(47 : UInt8)]⟩ 0 k s).map (·.data.toList) = splitL s.data.toList := by
  intro k
  induction k with
  | zero =>
    intro s h
    rcases idx_split s.data.toList with ⟨h1, h2, h3⟩ | ⟨a, r, h1, h2, h3, h4⟩
    · rw [Lib.splitB_zero, splitL_one _ h3]; rfl
    · omega
  | succ k ih =>
    intro s h
    rcases idx_split s.data.toList with ⟨h1, h2, h3⟩ | ⟨a, r, h1, h2, h3, h4⟩
    · omega
    · have hi : Lib.indexB s ⟨#[(47 : UInt8)]⟩ = (a.length : Int) := by rw [indexB_47, h3]
      have e1 : (s.extract 0 (a.length + 0)).data.toList = a := by rw [toList_ext, h1]; simp
      have s1 : (⟨#[(47 : UInt8)]⟩ : ByteArray).size = 1 := rfl
      have e2 : (s.extract (a.length + 1) s.size).data.toList = r := by
        rw [toList_ext, List.take_of_length_le (by rw [ba_len]; exact Nat.le_refl _), h1, ← List.drop_drop, List.drop_left]
        rfl
      rw [Lib.splitB_hit _ _ _ _ a.length hi, s1, List.map_cons, e1, h1, splitL_app r a h2]
      congr 1
      rw [ih _ (by rw [e2]; omega), e2]
theorem pieces_eq (s : ByteArray) : (pieces s 47).map (·.data.toList) = splitL s.data.toList := by
  unfold pieces
  rw [countB_47]
  exact splitB_eq _ s rfl
abbrev tL (x : ByteArray) : List UInt8 := x.data.toList
theorem seq_e (p : ByteArray) : (seq p eB = true) ↔ tL p = [] := by
  show ((p.data.toList == []) = true) ↔ _
  simp
theorem seq_dot (p : ByteArray) : (seq p dotB = true) ↔ tL p = [46] := by
  show ((p.data.toList == [46]) = true) ↔ _
  simp
theorem seq_dd (p : ByteArray) : (seq p ddB = true) ↔ tL p = [46, 46] := by
  show ((p.data.toList == [46, 46]) = true) ↔ _
  simp
theorem tL_inj : ∀ {A B : List ByteArray}, A.map tL = B.map tL → A = B := by
  intro A
  induction A with
  | nil => intro B h; cases B with
    | nil => rfl
    | cons b B => cases h
  | cons a A ih =>
    intro B h
    cases B with
    | nil => cases h
    | cons b B =>
      rw [List.map_cons, List.map_cons] at h
      injection h with h1 h2
      have e : a = b := ba_ext h1
      rw [e, ih h2]
theorem run47 {l : List UInt8} {a b : Nat} (h : ∀ k, a ≤ k → k < b → l[k]? ≠ some 47) : ∀ x ∈ (l.take b).drop a, x ≠ 47 := by
  intro x hx hx47
  subst hx47
  obtain ⟨j, hj⟩ := List.mem_iff_getElem?.1 hx
  rw [List.getElem?_drop, List.getElem?_take] at hj
  split at hj
  · exact h (a + j) (by omega) (by assumption) hj
  · cases hj
theorem split_at {s : ByteArray} {a i : Nat} (ha : a ≤ i) (hi : i < s.size) (h47 : (tL s)[i]? = some 47) (h : ∀ k, a ≤ k → k < i → (tL s)[k]? ≠ some 47) : splitL ((tL s).drop a) = tL (s.extract a i) :: splitL ((tL s).drop (i + 1)) := by
  have hl : (tL s).length = s.size := ba_len s
  have hd : (tL s).drop i = 47 :: (tL s).drop (i + 1) := by
    rw [List.drop_eq_getElem_cons (by omega)]
    rw [List.getElem?_eq_getElem (by omega)] at h47
    rw [Option.some.inj h47]
  have e : tL (s.extract a i) = ((tL s).take i).drop a := toList_ext s a i
  have hsp : (tL s).drop a = ((tL s).take i).drop a ++ 47 :: (tL s).drop (i + 1) := by
    rw [← hd]
    conv => lhs; rw [← List.take_append_drop i (tL s)]
    rw [List.drop_append_of_le_length (by rw [List.length_take]; omega)]
  rw [hsp, splitL_app _ _ (run47 h), e]
theorem split_end {s : ByteArray} {a : Nat} (h : ∀ k, a ≤ k → k < s.size → (tL s)[k]? ≠ some 47) : splitL ((tL s).drop a) = [tL (s.extract a s.size)] := by
  have hl : (tL s).length = s.size := ba_len s
  have e : tL (s.extract a s.size) = (tL s).drop a := by
    show (s.extract a s.size).data.toList = _
    rw [toList_ext, List.take_of_length_le (by rw [ba_len]; exact Nat.le_refl _)]
  have hr := run47 h
  rw [List.take_of_length_le (by omega)] at hr
  rw [splitL_one _ hr, e]
theorem byte47 {s : ByteArray} {i : Nat} (hi : i < s.size) : (byteAt s (i : Int) = 47 ↔ (tL s)[i]? = some 47) := by
  obtain ⟨b, h1, h2⟩ := list_byte hi
  rw [h2, show (tL s)[i]? = some b from h1]
  constructor
  · intro h; rw [(u8_eq (n := 47) (by decide)).1 h]; rfl
  · intro h; rw [Option.some.inj h]; rfl
theorem strs_ren (d : List Nat) (l : List ByteArray) : (l.map Value.string).map (renV d) = l.map Value.string := by rw [List.map_map]; rfl
theorem strs_up (d : List Nat) (l : List ByteArray) : (l.map Value.string).map (upV d) = l.map Value.string := by rw [List.map_map]; rfl
theorem take_next {s : ByteArray} {i : Nat} {b : UInt8} (hi : i < s.size) (hb : byteAt s (i : Int) = b.toNat) : s.data.toList.take (i + 1) = s.data.toList.take i ++ [b] := by
  obtain ⟨b', h1, h2⟩ := list_byte hi
  have : b' = b := by
    rw [h2] at hb
    exact UInt8.toNat_inj.1 (by omega)
  subst this
  rw [List.take_add_one, h1]; rfl
end Go.Ev
