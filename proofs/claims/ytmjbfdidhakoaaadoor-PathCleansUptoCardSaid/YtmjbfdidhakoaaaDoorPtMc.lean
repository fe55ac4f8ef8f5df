/- The law PathQuery: what its ways come to; no condition. -/
import Derived.Test.YtmjbfdidhakoaaaDoorPtMb
namespace Go.Ev
open Go Go.Proofs Go.RowKit
set_option linter.unusedVariables false
set_option maxRecDepth 100000
set_option maxHeartbeats 4000000
noncomputable def pqSumms : List (Nat × BSumm) := (8, newS clSpec) :: pvSumms
theorem pqSO : BSumsOk Tryd.prog pqSumms := ⟨cl_ok, pvSO⟩
noncomputable def ptQ : Env := mkEnvB Tryd.prog ptPlans ptExts fun f => look f pqSumms
theorem pqT : ptQ.TOk := tOkB_of (by kernel_rfl) ptX
theorem pqF : ptQ.FOk ptQ.ok := fOkB_of (by kernel_rfl)
theorem pqO : ptQ.SOk := sOkB_of pqSO
theorem pqM : ptQ.P.follows .mixedOrders = true := by kernel_rfl
abbrev noH : FuncId → Tmp → Option Hint := fun _ _ => none
noncomputable abbrev qB : Code := bodyOf Tryd.prog 6
def qP : List Bool := [true, false, true, false]
def qCuts : Cuts := [(qP, [⟨0, [0,1,5], [], false⟩])]
theorem qS (t q : ByteArray) (R : RFun) (Q : Value → Prop) :
   startA ptQ noH 30 20 6 0 68 qCuts R qB ([.string t, .string q] ++ List.replicate 66 undef) AHeap.empty (endK ptQ [.tmp 4] fun v _ => Q v)
   = (R 0 none [] [Value.string t, Value.string q, vi (0 : Int)] { size := 0, tr := Tr.nil }) := by kernel_rfl
theorem q0 (t q : ByteArray) (m : Nat) (i : Int) (R : RFun) (Q : Value → Prop) :
   segA ptQ noH 30 20 6 0 68 qCuts R qB qP [] m [0,1,5] [.string t, .string q, vi i] AHeap.empty (endK ptQ [.tmp 4] fun v _ => Q v)
   = (ifK (decide (i < (↑(ByteArray.size t) : Int))) (ifK (decide ((0 : Int) ≤ i ∧ i < (↑(ByteArray.size t) : Int))) (ifK (decide (byteAt t i = (63 : Int))) (Q (Value.bool true)) (R 0 (some m) [] [Value.string t, Value.string q, vi (IntKind.wrap IntKind.i64 (i + (1 : Int)))] { size := 0, tr := Tr.nil })) False) (ifK (decide (ByteArray.size t ≤ 8000000)) (ifK (decide (ByteArray.size t + ByteArray.size (⟨#[(63 : UInt8)]⟩ : ByteArray) < 9223372036854775808)) (ifK (decide (ByteArray.size (t ++ (⟨#[(63 : UInt8)]⟩ : ByteArray)) + ByteArray.size q < 9223372036854775808)) (ifK (decide (ByteArray.size (t ++ (⟨#[(63 : UInt8)]⟩ : ByteArray) ++ q) ≤ 8000000)) (ifK (!decide (clErr t = clErr (t ++ (⟨#[(63 : UInt8)]⟩ : ByteArray) ++ q))) (Q (Value.bool false)) (ifK (!seq (clOut t) (clOut (t ++ (⟨#[(63 : UInt8)]⟩ : ByteArray) ++ q))) (Q (Value.bool false)) (ifK (!seq (clQry t) (⟨#[]⟩ : ByteArray)) (Q (Value.bool false)) (ifK (!decide (clErr t = (0 : Int))) (ifK (seq (clQry (t ++ (⟨#[(63 : UInt8)]⟩ : ByteArray) ++ q)) (⟨#[]⟩ : ByteArray)) (Q (Value.bool true)) (ifK (decide (clErr t = (0 : Int))) (ifK (seq (clQry (t ++ (⟨#[(63 : UInt8)]⟩ : ByteArray) ++ q)) q) (Q (Value.bool true)) (Q (Value.bool false))) (Q (Value.bool false)))) (ifK (decide (clErr t = (0 : Int))) (ifK (seq (clQry (t ++ (⟨#[(63 : UInt8)]⟩ : ByteArray) ++ q)) q) (Q (Value.bool true)) (Q (Value.bool false))) (Q (Value.bool false))))))) False) False) False) False)) := by kernel_rfl
end Go.Ev

/- The law PathQuery answers true at every two texts within some bounds. -/
namespace Go.Ev
open Go Go.Proofs Go.RowKit
set_option linter.unusedVariables false
set_option linter.unusedSimpArgs false
set_option maxRecDepth 100000
set_option maxHeartbeats 4000000
theorem tw_all (c : UInt8) : ∀ (l : List UInt8), (∀ x ∈ l, x ≠ c) → l.takeWhile (· != c) = l ∧ (l.dropWhile (· != c)).drop 1 = [] := by
  intro l
  induction l with
  | nil => intro _; exact ⟨rfl, rfl⟩
  | cons b l ih =>
    intro h
    have hb : (b != c) = true := by simpa using h b (List.mem_cons_self ..)
    obtain ⟨h1, h2⟩ := ih (fun x hx => h x (List.mem_cons_of_mem _ hx))
    rw [List.takeWhile_cons, List.dropWhile_cons, hb, if_pos rfl, if_pos rfl, h1]
    exact ⟨rfl, h2⟩
theorem tw_app (c : UInt8) (r : List UInt8) : ∀ (l : List UInt8), (∀ x ∈ l, x ≠ c) → (l ++ c :: r).takeWhile (· != c) = l ∧ ((l ++ c :: r).dropWhile (· != c)).drop 1 = r := by
  intro l
  induction l with
  | nil => intro _; simp
  | cons b l ih =>
    intro h
    have hb : (b != c) = true := by simpa using h b (List.mem_cons_self ..)
    obtain ⟨h1, h2⟩ := ih (fun x hx => h x (List.mem_cons_of_mem _ hx))
    rw [List.cons_append, List.takeWhile_cons, List.dropWhile_cons, hb, if_pos rfl, if_pos rfl, h1]
    exact ⟨rfl, h2⟩
theorem query_law {t q : ByteArray} (h : ∀ x ∈ t.data.toList, x ≠ 63) :
    headC 63 t = t ∧ tailC 63 t = eB ∧ headC 63 (t ++ ⟨#[(63 : UInt8)]⟩ ++ q) = t ∧ tailC 63 (t ++ ⟨#[(63 : UInt8)]⟩ ++ q) = q := by
  obtain ⟨h1, h2⟩ := tw_all 63 _ h
  obtain ⟨h3, h4⟩ := tw_app 63 q.data.toList _ h
  have e : (t ++ ⟨#[(63 : UInt8)]⟩ ++ q).data.toList = t.data.toList ++ 63 :: q.data.toList := by
    rw [ba_list2, ba_list2, List.append_assoc]; rfl
  refine ⟨ba_ext h1, ba_ext h2, ba_ext ?_, ba_ext ?_⟩
  · show (t ++ ⟨#[(63 : UInt8)]⟩ ++ q).data.toList.takeWhile (· != 63) = _
    rw [e, h3]
  · show ((t ++ ⟨#[(63 : UInt8)]⟩ ++ q).data.toList.dropWhile (· != 63)).drop 1 = _
    rw [e, h4]
def qI (t q : ByteArray) (id : Nat) (μ : List Nat) (m : Nat) (vs : List Value) (H : AHeap) : Prop :=
  match id with
  | 0 => ∃ i : Nat, vs = [.string t, .string q, vi i] ∧ H = AHeap.empty ∧ i ≤ t.size ∧ (∀ x ∈ t.data.toList.take i, x ≠ 63) ∧ m = t.size - i
  | _ => False
theorem take_next {s : ByteArray} {i : Nat} {b : UInt8} (hi : i < s.size) (hb : byteAt s (i : Int) = b.toNat) : s.data.toList.take (i + 1) = s.data.toList.take i ++ [b] := by
  obtain ⟨b', h1, h2⟩ := list_byte hi
  have : b' = b := by
    rw [h2] at hb
    exact UInt8.toNat_inj.1 (by omega)
  subst this
  rw [List.take_add_one, h1]; rfl
theorem qseg {t q : ByteArray} (ht : t.size ≤ 2097152) (hq : q.size ≤ 2097152) (m : Nat) (vs : List Value) (H : AHeap) (hI : qI t q 0 [] m vs H) :
    Hd (segA ptQ noH 30 20 6 0 68 qCuts (ofI (qI t q)) qB qP [] m [0,1,5] vs H (endK ptQ [.tmp 4] fun v _ => v = .bool true)) := by
  obtain ⟨i, rfl, rfl, hi, hno, rfl⟩ := hI
  constructor
  rw [q0]
  refine ifK_dec (fun h => ?_) (fun h => ?_)
  · obtain ⟨b, hb, hd⟩ := dropAt (s := t) (i := i) (by omega)
    have hw : IntKind.wrap IntKind.i64 ((i : Int) + 1) = ((i + 1 : Nat) : Int) := by rw [wr_i64]; omega
    refine ifK_dec (fun _ => ?_) (fun h' => absurd ⟨by omega, h⟩ h')
    rw [hb, hw]
    refine ifK_dec (fun _ => rfl) (fun h63 => ?_)
    refine ⟨t.size - (i + 1), by omega, i + 1, rfl, rfl, by omega, ?_, rfl⟩
    intro x hx
    rw [take_next (by omega) hb] at hx
    rcases List.mem_append.1 hx with hx | hx
    · exact hno x hx
    · simp at hx; subst hx; exact fun h => h63 ((u8_eq (n := 63) (by decide)).2 h)
  · have hie : i = t.size := by omega
    rw [hie, List.take_of_length_le (by rw [ba_len]; exact Nat.le_refl _)] at hno
    obtain ⟨e1, e2, e3, e4⟩ := query_law (q := q) hno
    have s1 : (⟨#[(63 : UInt8)]⟩ : ByteArray).size = 1 := rfl
    have hE : clErr (t ++ ⟨#[(63 : UInt8)]⟩ ++ q) = clErr t := by unfold clErr; rw [e1, e3]
    have hO : clOut (t ++ ⟨#[(63 : UInt8)]⟩ ++ q) = clOut t := by unfold clOut; rw [e1, e3]
    have hQ : clQry t = eB := by unfold clQry; rw [e2]; split <;> rfl
    have hQ2 : clQry (t ++ ⟨#[(63 : UInt8)]⟩ ++ q) = if clErr t = 0 then q else eB := by unfold clQry; rw [hE, e4]
    have hz : (t ++ (⟨#[(63 : UInt8)]⟩ : ByteArray)).size = t.size + 1 := by rw [ByteArray.size_append, s1]
    have hz2 : (t ++ (⟨#[(63 : UInt8)]⟩ : ByteArray) ++ q).size = t.size + 1 + q.size := by rw [ByteArray.size_append, hz]
    rw [hE, hO, hQ, hQ2, hz, hz2, s1]
    refine ifK_dec (fun _ => ?_) (fun h' => absurd (by omega) h')
    refine ifK_dec (fun _ => ?_) (fun h' => absurd (by omega) h')
    refine ifK_dec (fun _ => ?_) (fun h' => absurd (by omega) h')
    refine ifK_dec (fun _ => ?_) (fun h' => absurd (by omega) h')
    refine ifK_f (by simp) (ifK_f (by rw [seq_self]; rfl) (ifK_f (by rw [seq_self]; rfl) ?_))
    refine ifK_nd (fun h0 => ?_) (fun h0 => ?_)
    · rw [if_pos h0]
      exact ifK_t (decide_eq_true h0) (ifK_t (seq_self _) rfl)
    · rw [if_neg h0]
      exact ifK_t (seq_self _) rfl
theorem qStart (t q : ByteArray) : Hd (startA ptQ noH 30 20 6 0 68 qCuts (ofI (qI t q)) qB ([.string t, .string q] ++ List.replicate 66 undef) AHeap.empty (endK ptQ [.tmp 4] fun v _ => v = .bool true)) := by
  constructor
  rw [qS]
  exact ⟨t.size, trivial, 0, rfl, rfl, Nat.zero_le _, by simp, rfl⟩
end Go.Ev

/- The pieces of a text at its slashes, in plain lists. -/
namespace Go.Ev
open Go Go.Proofs Go.RowKit
set_option linter.unusedVariables false
set_option linter.unusedSimpArgs false
set_option maxRecDepth 100000
set_option maxHeartbeats 4000000
/-- A text at its slashes. -/
def splitL : List UInt8 → List (List UInt8)
  | [] => [[]]
  | b :: l => if b = 47 then [] :: splitL l else match splitL l with
    | x :: xs => (b :: x) :: xs
    | [] => [[b]]
theorem splitL_ne (l : List UInt8) : splitL l ≠ [] := by
  cases l with
  | nil => decide
  | cons b l =>
    unfold splitL
    split
    · simp
    · split <;> simp
theorem splitL_slash (l : List UInt8) : splitL (47 :: l) = [] :: splitL l := by rw [splitL, if_pos rfl]
theorem splitL_byte {b : UInt8} (hb : b ≠ 47) (l : List UInt8) : ∃ x xs, splitL l = x :: xs ∧ splitL (b :: l) = (b :: x) :: xs := by
  cases h : splitL l with
  | nil => exact absurd h (splitL_ne l)
  | cons x xs => exact ⟨x, xs, rfl, by rw [splitL, if_neg hb, h]⟩
/-- A part ahead of a slash. -/
theorem splitL_app (r : List UInt8) : ∀ (a : List UInt8), (∀ x ∈ a, x ≠ 47) → splitL (a ++ 47 :: r) = a :: splitL r := by
  intro a
  induction a with
  | nil => intro _; exact splitL_slash r
  | cons b a ih =>
    intro h
    obtain ⟨x, xs, h1, h2⟩ := splitL_byte (h b (List.mem_cons_self ..)) (a ++ 47 :: r)
    rw [ih (fun y hy => h y (List.mem_cons_of_mem _ hy))] at h1
    cases h1
    exact h2
theorem splitL_one : ∀ (a : List UInt8), (∀ x ∈ a, x ≠ 47) → splitL a = [a] := by
  intro a
  induction a with
  | nil => intro _; rfl
  | cons b a ih =>
    intro h
    obtain ⟨x, xs, h1, h2⟩ := splitL_byte (h b (List.mem_cons_self ..)) a
    rw [ih (fun y hy => h y (List.mem_cons_of_mem _ hy))] at h1
    cases h1
    exact h2
/-- No part has a slash, and all its bytes are the text's. -/
theorem splitL_mem : ∀ (l : List UInt8), ∀ a ∈ splitL l, ∀ x ∈ a, x ≠ 47 ∧ x ∈ l := by
  intro l
  induction l with
  | nil => intro a ha x hx; simp [splitL] at ha; subst ha; cases hx
  | cons b l ih =>
    intro a ha x hx
    by_cases hb : b = 47
    · subst hb
      rw [splitL_slash] at ha
      rcases List.mem_cons.1 ha with rfl | ha
      · cases hx
      · obtain ⟨h1, h2⟩ := ih a ha x hx; exact ⟨h1, List.mem_cons_of_mem _ h2⟩
    · obtain ⟨y, ys, h1, h2⟩ := splitL_byte hb l
      rw [h2] at ha
      rcases List.mem_cons.1 ha with rfl | ha
      · rcases List.mem_cons.1 hx with rfl | hx
        · exact ⟨hb, List.mem_cons_self ..⟩
        · obtain ⟨h3, h4⟩ := ih y (by rw [h1]; exact List.mem_cons_self ..) x hx; exact ⟨h3, List.mem_cons_of_mem _ h4⟩
      · obtain ⟨h3, h4⟩ := ih a (by rw [h1]; exact List.mem_cons_of_mem _ ha) x hx; exact ⟨h3, List.mem_cons_of_mem _ h4⟩
theorem idx_split : ∀ (l : List UInt8), (Lib.indexByte l 47 = -1 ∧ l.count 47 = 0 ∧ ∀ x ∈ l, x ≠ 47) ∨ (∃ a r, l = a ++ 47 :: r ∧ (∀ x ∈ a, x ≠ 47) ∧ Lib.indexByte l 47 = a.length ∧ l.count 47 = r.count 47 + 1) := by
  intro l
  induction l with
  | nil => exact .inl ⟨rfl, rfl, fun x hx => by cases hx⟩
  | cons b l ih =>
    by_cases hb : b = 47
    · subst hb
      refine .inr ⟨[], l, rfl, ?_, by simp [Lib.indexByte], by simp⟩
      intro x hx; cases hx
    · rcases ih with ⟨h1, h2, h3⟩ | ⟨a, r, h1, h2, h3, h4⟩
      · refine .inl ⟨by simp [Lib.indexByte, hb, h1], by rw [List.count_cons]; simp [hb, h2], ?_⟩
        intro x hx
        rcases List.mem_cons.1 hx with rfl | hx
        · exact hb
        · exact h3 x hx
      · refine .inr ⟨b :: a, r, by rw [h1]; rfl, ?_, by simp [Lib.indexByte, hb, h3], by rw [List.count_cons]; simp [hb, h4]⟩
        intro x hx
        rcases List.mem_cons.1 hx with rfl | hx
        · exact hb
        · exact h2 x hx
theorem countB_47 (s : ByteArray) : Lib.countB s ⟨#[(47 : UInt8)]⟩ = s.data.toList.count 47 := by
  show Lib.count s.data.toList [47] = _
  rw [Lib.count_one]
theorem indexB_47 (s : ByteArray) : Lib.indexB s ⟨#[(47 : UInt8)]⟩ = Lib.indexByte s.data.toList 47 := by
  show Lib.index s.data.toList [47] = _
  rw [Lib.index_one]
theorem splitB_eq : ∀ (k : Nat) (s : ByteArray), s.data.toList.count 47 = k → (Lib.splitB ⟨#[(47 : UInt8)]⟩ 0 k s).map (·.data.toList) = splitL s.data.toList := by
  intro k
  induction k with
  | zero =>
    intro s h
    rcases idx_split s.data.toList with ⟨h1, h2, h3⟩ | ⟨a, r, h1, h2, h3, h4⟩
    · rw [Lib.splitB_zero, splitL_one _ h3]; rfl
    · omega
  | succ k ih =>
    intro s h
    rcases idx_split s.data.toList with ⟨h1, h2, h3⟩ | ⟨a, r, h1, h2, h3, h4⟩
    · omega
    · have hi : Lib.indexB s ⟨#[(47 : UInt8)]⟩ = (a.length : Int) := by rw [indexB_47, h3]
      have e1 : (s.extract 0 (a.length + 0)).data.toList = a := by rw [toList_ext, h1]; simp
      have s1 : (⟨#[(47 : UInt8)]⟩ : ByteArray).size = 1 := rfl
      have e2 : (s.extract (a.length + 1) s.size).data.toList = r := by
        rw [toList_ext, List.take_of_length_le (by rw [ba_len]; exact Nat.le_refl _), h1, ← List.drop_drop, List.drop_left]
        rfl
      rw [Lib.splitB_hit _ _ _ _ a.length hi, s1, List.map_cons, e1, h1, splitL_app r a h2]
      congr 1
      rw [ih _ (by rw [e2]; omega), e2]
theorem pieces_eq (s : ByteArray) : (pieces s 47).map (·.data.toList) = splitL s.data.toList := by
  unfold pieces
  rw [countB_47]
  exact splitB_eq _ s rfl
theorem pieces_mem {s x : ByteArray} (h : x ∈ pieces s 47) : ∀ b ∈ x.data.toList, b ≠ 47 ∧ b ∈ s.data.toList := by
  have : x.data.toList ∈ splitL s.data.toList := by rw [← pieces_eq]; exact List.mem_map.2 ⟨x, h, rfl⟩
  exact splitL_mem _ _ this
/-! ### What is kept -/
def goodP (x : ByteArray) : Prop := seq x eB = false ∧ seq x dotB = false ∧ seq x ddB = false
theorem clGo_keeps : ∀ (ps K : List ByteArray) (f : Bool) (r : List ByteArray × Bool), clGo ps K f = some r → (∀ x ∈ K, goodP x) → ∀ x ∈ r.1, goodP x ∧ (x ∈ K ∨ x ∈ ps) := by
  intro ps
  induction ps with
  | nil => intro K f r h hK x hx; rw [clGo] at h; cases h; exact ⟨hK x hx, .inl hx⟩
  | cons p ps ih =>
    intro K f r h hK x hx
    rw [clGo] at h
    by_cases h1 : seq p eB = true
    · rw [if_pos h1] at h
      obtain ⟨a, b⟩ := ih _ _ _ h hK x hx
      exact ⟨a, b.imp id (List.mem_cons_of_mem _)⟩
    rw [if_neg h1] at h
    by_cases h2 : seq p dotB = true
    · rw [if_pos h2] at h
      obtain ⟨a, b⟩ := ih _ _ _ h hK x hx
      exact ⟨a, b.imp id (List.mem_cons_of_mem _)⟩
    rw [if_neg h2] at h
    by_cases h3 : seq p ddB = true
    · rw [if_pos h3] at h
      by_cases h4 : K.length = 0
      · rw [if_pos h4] at h; cases h
      rw [if_neg h4] at h
      obtain ⟨a, b⟩ := ih _ _ _ h (fun y hy => hK y (List.dropLast_subset K hy)) x hx
      exact ⟨a, b.imp (fun hy => List.dropLast_subset K hy) (List.mem_cons_of_mem _)⟩
    rw [if_neg h3] at h
    have hK2 : ∀ y ∈ K ++ [p], goodP y := by
      intro y hy
      rcases List.mem_append.1 hy with hy | hy
      · exact hK y hy
      · simp at hy; subst hy; exact ⟨by simpa using h1, by simpa using h2, by simpa using h3⟩
    obtain ⟨a, b⟩ := ih _ _ _ h hK2 x hx
    refine ⟨a, ?_⟩
    rcases b with b | b
    · rcases List.mem_append.1 b with b | b
      · exact .inl b
      · simp at b; subst b; exact .inr (List.mem_cons_self ..)
    · exact .inr (List.mem_cons_of_mem _ b)
/-! ### What an escape stands for -/
theorem woth_bd (b : Int) : -1 ≤ woth b ∧ woth b ≤ 15 := by
  have h : ∀ c, -1 ≤ Lib.indexByte hexL c ∧ Lib.indexByte hexL c ≤ 15 := by
    intro c
    rcases idx_spec hexL c with ⟨h, _⟩ | ⟨n, h, hn, _⟩
    · rw [h]; decide
    · rw [h]
      have : hexL.length = 16 := rfl
      omega
  unfold woth
  split <;> exact h _
theorem hexR_all : ∀ x : Fin 16, ∀ y : Fin 16, hexR (x.val : Int) (y.val : Int) = 16 * (x.val : Int) + (y.val : Int) := by decide +kernel
theorem hexR_eq {x y : Int} (h1 : 0 ≤ x) (h2 : x ≤ 15) (h3 : 0 ≤ y) (h4 : y ≤ 15) : hexR x y = 16 * x + y := by
  have := hexR_all ⟨x.toNat, by omega⟩ ⟨y.toNat, by omega⟩
  simp only at this
  rw [show ((x.toNat : Nat) : Int) = x by omega, show ((y.toNat : Nat) : Int) = y by omega] at this
  exact this
theorem hexC_ge {h o : UInt8} (hh : ¬ (woth h.toNat < 2 ∨ woth o.toNat < 0 ∨ hexC h o = 127 ∨ hexC h o = 47)) : 32 ≤ (hexC h o).toNat ∧ hexC h o ≠ 127 ∧ hexC h o ≠ 47 ∧ ((hexC h o).toNat : Int) = 16 * woth h.toNat + woth o.toNat := by
  have b1 := woth_bd h.toNat
  have b2 := woth_bd o.toNat
  have e := hexC_nat h o
  rw [hexR_eq (by omega) (by omega) (by omega) (by omega)] at e
  refine ⟨by omega, fun h => hh (.inr (.inr (.inl h))), fun h => hh (.inr (.inr (.inr h))), e⟩
/-- Bytes that a clean path may have. -/
def okB (b : UInt8) : Prop := 32 ≤ b.toNat ∧ b ≠ 127
theorem unGo_ok : ∀ (n : Nat) (l out B : List UInt8), l.length ≤ n → unGo l out = some B → (∀ b ∈ l, okB b) → (∀ b ∈ out, okB b) → ∀ b ∈ B, okB b := by
  intro n
  induction n with
  | zero =>
    intro l out B hn h hl ho
    have : l = [] := List.length_eq_zero_iff.1 (by omega)
    subst this
    rw [unGo_nil] at h; cases h; exact ho
  | succ n ih =>
    intro l out B hn h hl ho
    match l with
    | [] => rw [unGo_nil] at h; cases h; exact ho
    | b :: l =>
      simp at hn
      by_cases hb : b = 37
      · subst hb
        match l, hn with
        | [], _ => rw [unGo_short (by simp)] at h; cases h
        | [a], _ => rw [unGo_short (by simp)] at h; cases h
        | x :: y :: l, hn =>
          by_cases hh : woth x.toNat < 2 ∨ woth y.toNat < 0 ∨ hexC x y = 127 ∨ hexC x y = 47
          · rw [unGo_bad hh] at h; cases h
          · rw [unGo_hex hh] at h
            simp at hn
            obtain ⟨g1, g2, _⟩ := hexC_ge hh
            refine ih l _ B (by omega) h (fun b hb => hl b (by simp [hb])) ?_
            intro c hc
            rcases List.mem_append.1 hc with hc | hc
            · exact ho c hc
            · simp at hc; subst hc; exact ⟨g1, g2⟩
      · rw [unGo_b hb] at h
        refine ih l _ B hn h (fun b hb => hl b (List.mem_cons_of_mem _ hb)) ?_
        intro c hc
        rcases List.mem_append.1 hc with hc | hc
        · exact ho c hc
        · simp at hc; subst hc; exact hl _ (List.mem_cons_self ..)
end Go.Ev

/- The law PathSafe: what its ways come to; no condition. -/
namespace Go.Ev
open Go Go.Proofs Go.RowKit
set_option linter.unusedVariables false
set_option maxRecDepth 100000
set_option maxHeartbeats 4000000
noncomputable abbrev sfB : Code := bodyOf Tryd.prog 4
def sfP1 : List Bool := [true, false, true, false]
def sfP2 : List Bool := [true, true, true, true, true, true, false, true, false]
def sfCuts : Cuts := [(sfP1, [⟨0, [0,3], [], false⟩]), (sfP2, [⟨1, [4,7,8], [], false⟩])]
theorem sfS (t : ByteArray) (R : RFun) (Q : Value → Prop) :
   startA ptQ noH 30 20 4 0 104 sfCuts R sfB ([.string t] ++ List.replicate 103 undef) AHeap.empty (endK ptQ [.tmp 2] fun v _ => Q v)
   = (R 0 none [] [Value.string t, vi (0 : Int)] { size := 0, tr := Tr.nil }) := by kernel_rfl
theorem sf0 (t : ByteArray) (m : Nat) (i : Int) (R : RFun) (Q : Value → Prop) :
   segA ptQ noH 30 20 4 0 104 sfCuts R sfB sfP1 [] m [0,3] [.string t, vi i] AHeap.empty (endK ptQ [.tmp 2] fun v _ => Q v)
   = (ifK (decide (i < (↑(ByteArray.size t) : Int))) (ifK (decide ((0 : Int) ≤ i ∧ i < (↑(ByteArray.size t) : Int))) (ifK (decide (byteAt t i < (33 : Int))) (Q (Value.bool true)) (ifK (decide ((0 : Int) ≤ i ∧ i < (↑(ByteArray.size t) : Int))) (ifK (decide ((126 : Int) < byteAt t i)) (Q (Value.bool true)) (R 0 (some m) [] [Value.string t, vi (IntKind.wrap IntKind.i64 (i + (1 : Int)))] { size := 0, tr := Tr.nil })) False)) False) (ifK (decide (ByteArray.size t ≤ 8000000)) (ifK (!decide (clErr t = (0 : Int))) (ifK (seq (clOut t) (⟨#[]⟩ : ByteArray)) (ifK (decide (clErr t = (1 : Int))) (Q (Value.bool true)) (ifK (decide (clErr t = (170 : Int))) (Q (Value.bool true)) (ifK (decide (clErr t = (171 : Int))) (Q (Value.bool true)) (Q (Value.bool false))))) (Q (Value.bool false))) (ifK (seq (clOut t) (⟨#[]⟩ : ByteArray)) (Q (Value.bool false)) (ifK (decide ((0 : Int) ≤ (0 : Int) ∧ (0 : Int) < (↑(ByteArray.size (clOut t)) : Int))) (ifK (!decide (byteAt (clOut t) (0 : Int) = (47 : Int))) (Q (Value.bool false)) (R 1 none [] [Value.string (clOut t), Value.string (⟨#[]⟩ : ByteArray), vi (1 : Int)] { size := 0, tr := Tr.nil })) False))) False)) := by kernel_rfl
theorem sf1 (p w : ByteArray) (m : Nat) (i : Int) (R : RFun) (Q : Value → Prop) :
   segA ptQ noH 30 20 4 0 104 sfCuts R sfB sfP2 [] m [4,7,8] [.string p, .string w, vi i] AHeap.empty (endK ptQ [.tmp 2] fun v _ => Q v)
   = (ifK (decide (i < (↑(ByteArray.size p) : Int))) (ifK (decide ((0 : Int) ≤ i ∧ i < (↑(ByteArray.size p) : Int))) (ifK (decide (byteAt p i < (32 : Int))) (Q (Value.bool false)) (ifK (decide ((0 : Int) ≤ i ∧ i < (↑(ByteArray.size p) : Int))) (ifK (decide (byteAt p i = (127 : Int))) (Q (Value.bool false)) (ifK (decide ((0 : Int) ≤ i ∧ i < (↑(ByteArray.size p) : Int))) (ifK (!decide (byteAt p i = (47 : Int))) (ifK (decide ((0 : Int) ≤ i ∧ i ≤ IntKind.wrap IntKind.i64 (i + (1 : Int)) ∧ IntKind.wrap IntKind.i64 (i + (1 : Int)) ≤ (↑(ByteArray.size p) : Int))) (ifK (decide (ByteArray.size w + ByteArray.size (ByteArray.extract p (Int.toNat i) (Int.toNat (IntKind.wrap IntKind.i64 (i + (1 : Int))))) < 9223372036854775808)) (R 1 (some m) [] [Value.string p, Value.string (w ++ ByteArray.extract p (Int.toNat i) (Int.toNat (IntKind.wrap IntKind.i64 (i + (1 : Int))))), vi (IntKind.wrap IntKind.i64 (i + (1 : Int)))] { size := 0, tr := Tr.nil }) False) False) (ifK (seq w (⟨#[]⟩ : ByteArray)) (Q (Value.bool false)) (ifK (seq w (⟨#[(46 : UInt8)]⟩ : ByteArray)) (Q (Value.bool false)) (ifK (seq w (⟨#[(46 : UInt8), (46 : UInt8)]⟩ : ByteArray)) (Q (Value.bool false)) (R 1 (some m) [] [Value.string p, Value.string (⟨#[]⟩ : ByteArray), vi (IntKind.wrap IntKind.i64 (i + (1 : Int)))] { size := 0, tr := Tr.nil }))))) False)) False)) False) (ifK (!seq w (⟨#[(46 : UInt8)]⟩ : ByteArray)) (ifK (!seq w (⟨#[(46 : UInt8), (46 : UInt8)]⟩ : ByteArray)) (Q (Value.bool true)) (Q (Value.bool false))) (Q (Value.bool false)))) := by kernel_rfl
end Go.Ev

/- The law PathSafe answers true at every text within some bound. -/
namespace Go.Ev
open Go Go.Proofs Go.RowKit
set_option linter.unusedVariables false
set_option linter.unusedSimpArgs false
set_option maxRecDepth 100000
set_option maxHeartbeats 4000000
/-! ### What a clean path is -/
theorem clErr_cases (s : ByteArray) : clErr s = 0 ∨ clErr s = 1 ∨ clErr s = 170 ∨ clErr s = 171 := by
  unfold clErr rawErr
  split
  · split
    · split
      · exact .inl rfl
      · exact .inr (.inr (.inr rfl))
    · exact .inr (.inr (.inl rfl))
  · exact .inr (.inl rfl)
/-- A part of a clean path. -/
def goodL (x : List UInt8) : Prop := x ≠ [] ∧ x ≠ [46] ∧ x ≠ [46, 46] ∧ ∀ b ∈ x, b ≠ 47
theorem good_of {x : ByteArray} (h : goodP x) (h2 : ∀ b ∈ x.data.toList, b ≠ 47) : goodL x.data.toList := by
  obtain ⟨h1, h3, h4⟩ := h
  refine ⟨fun e => ?_, fun e => ?_, fun e => ?_, h2⟩
  · have : (x.data.toList == []) = false := h1
    rw [e] at this; cases this
  · have : (x.data.toList == [46]) = false := h3
    rw [e] at this; cases this
  · have : (x.data.toList == [46, 46]) = false := h4
    rw [e] at this; cases this
/-- Parts, each behind a slash. -/
def tailJ (L : List (List UInt8)) : List UInt8 := (L.map (47 :: ·)).flatten
theorem join_tail (x : List UInt8) (L : List (List UInt8)) : Lib.join (x :: L) [47] = x ++ tailJ L := by
  rw [Lib.join_cons]
  rfl
/-- A clean path: a slash, parts with slashes between, and maybe one more. -/
theorem clean_form {s : ByteArray} (h : clErr s = 0) : ∃ (L : List (List UInt8)) (f : Bool), (clOut s).data.toList = 47 :: (Lib.join L [47] ++ (if f = true ∧ L ≠ [] then [47] else [])) ∧ (∀ x ∈ L, goodL x ∧ ∃ y ∈ pieces (unO (headC 63 s)) 47, y.data.toList = x) ∧
    (∃ K, clGo (pieces (unO (headC 63 s)) 47) [] false = some (K, f) ∧ L = K.map (·.data.toList)) ∧ hasP (headC 63 s) = true ∧ unOk (headC 63 s) = true := by
  have h' : rawErr (headC 63 s) = 0 := h
  have hh : hasP (headC 63 s) = true ∧ unOk (headC 63 s) = true ∧ (clGo (pieces (unO (headC 63 s)) 47) [] false).isSome = true := by
    unfold rawErr at h'
    split at h'
    · rename_i h1
      split at h'
      · rename_i h2
        split at h'
        · rename_i h3; exact ⟨h1, h2, h3⟩
        · cases h'
      · cases h'
    · cases h'
  obtain ⟨⟨K, f⟩, hr⟩ := Option.isSome_iff_exists.1 hh.2.2
  refine ⟨K.map (·.data.toList), f, ?_, ?_, ⟨K, hr, rfl⟩, hh.1, hh.2.1⟩
  · have e : clOut s = clO (some (K, f)) := by
      unfold clOut rawOut
      rw [if_pos h', hr]
    rw [e, clO]
    have ej : (joinB K slB).data.toList = Lib.join (K.map (·.data.toList)) [47] := rfl
    have es : slB.data.toList = [47] := rfl
    by_cases hc : f = true ∧ 0 < K.length
    · rw [if_pos hc, if_pos ⟨hc.1, by intro hn; have := congrArg List.length hn; rw [List.length_map] at this; simp at this; rw [this] at hc; exact absurd hc.2 (by simp)⟩, ba_list2, ba_list2, ej, es]
      simp
    · rw [if_neg hc, if_neg (fun hn => hc ⟨hn.1, by
        cases K with
        | nil => exact absurd rfl hn.2
        | cons a K => simp⟩), ba_list2, ej, es]
      simp
  · intro x hx
    obtain ⟨y, hy, rfl⟩ := List.mem_map.1 hx
    obtain ⟨g1, g2⟩ := clGo_keeps _ _ _ _ hr (fun z hz => by cases hz) y hy
    have hy2 : y ∈ pieces (unO (headC 63 s)) 47 := by
      rcases g2 with g2 | g2
      · cases g2
      · exact g2
    exact ⟨good_of g1 (fun b hb => (pieces_mem hy2 b hb).1), y, hy2, rfl⟩
/-! ### What the law looks at -/
def ckP : List UInt8 → List UInt8 → Bool
  | [], w => !(w == [46]) && !(w == [46, 46])
  | b :: l, w => decide (32 ≤ b.toNat) && (!(b == 127) && (if b = 47 then !(w == []) && (!(w == [46]) && (!(w == [46, 46]) && ckP l [])) else ckP l (w ++ [b])))
theorem ck_part : ∀ (x r w : List UInt8), (∀ b ∈ x, b ≠ 47 ∧ okB b) → ckP (x ++ r) w = ckP r (w ++ x) := by
  intro x
  induction x with
  | nil => intro r w _; simp
  | cons b x ih =>
    intro r w h
    obtain ⟨h1, h2, h3⟩ := h b (List.mem_cons_self ..)
    rw [List.cons_append, ckP, if_neg h1, ih r _ (fun c hc => h c (List.mem_cons_of_mem _ hc)), decide_eq_true h2, List.append_assoc]
    have : (b == 127) = false := by simpa using h3
    rw [this]; rfl
theorem good_tests {x : List UInt8} (h : goodL x) : (x == []) = false ∧ (x == [46]) = false ∧ (x == [46, 46]) = false := by
  obtain ⟨h1, h2, h3, _⟩ := h
  exact ⟨by simpa using h1, by simpa using h2, by simpa using h3⟩
theorem ck_tail (tl : List UInt8) (ht : tl = [] ∨ tl = [47]) : ∀ (L : List (List UInt8)) (x : List UInt8), goodL x → (∀ y ∈ L, goodL y ∧ ∀ b ∈ y, okB b) → ckP (tailJ L ++ tl) x = true := by
  intro L
  induction L with
  | nil =>
    intro x hx _
    obtain ⟨t1, t2, t3⟩ := good_tests hx
    rcases ht with rfl | rfl
    · show ckP [] x = true
      rw [ckP, t2, t3]; rfl
    · show ckP [47] x = true
      rw [ckP, if_pos rfl, t1, t2, t3]; decide
  | cons y L ih =>
    intro x hx hL
    obtain ⟨t1, t2, t3⟩ := good_tests hx
    obtain ⟨gy, oy⟩ := hL y (List.mem_cons_self ..)
    have e : tailJ (y :: L) ++ tl = 47 :: (y ++ (tailJ L ++ tl)) := by
      unfold tailJ
      simp
    rw [e, ckP, if_pos rfl, t1, t2, t3, ck_part y _ [] (fun b hb => ⟨gy.2.2.2 b hb, oy b hb⟩), List.nil_append, ih y gy (fun z hz => hL z (List.mem_cons_of_mem _ hz))]
    decide
theorem safe_law {t : ByteArray} (h : clErr t = 0) (hb : ∀ b ∈ t.data.toList, okB b) : ∃ r, (clOut t).data.toList = 47 :: r ∧ ckP r [] = true := by
  obtain ⟨L, f, e, hL, _, _, hu⟩ := clean_form h
  refine ⟨_, e, ?_⟩
  have hO : ∀ x ∈ L, ∀ b ∈ x, okB b := by
    intro x hx b hbx
    obtain ⟨_, y, hy, rfl⟩ := hL x hx
    have h1 := (pieces_mem hy b hbx).2
    cases hq : undoF (headC 63 t) with
    | none =>
      unfold unOk at hu
      rw [hq] at hu; cases hu
    | some B =>
      have h2 : (unO (headC 63 t)).data.toList = B := by
        show (undoF (headC 63 t)).getD [] = B
        rw [hq]; rfl
      rw [h2] at h1
      refine unGo_ok _ _ _ _ (Nat.le_refl _) hq ?_ (fun c hc => by cases hc) b h1
      intro c hc
      exact hb c ((List.takeWhile_sublist _).subset hc)
  cases L with
  | nil =>
    rw [if_neg (fun h => h.2 rfl)]
    show ckP [] [] = true
    decide
  | cons x L =>
    rw [join_tail, List.append_assoc, ck_part x _ [] (fun b hb2 => ⟨(hL x (List.mem_cons_self ..)).1.2.2.2 b hb2, hO x (List.mem_cons_self ..) b hb2⟩), List.nil_append]
    refine ck_tail _ ?_ L x (hL x (List.mem_cons_self ..)).1 (fun y hy => ⟨(hL y (List.mem_cons_of_mem _ hy)).1, hO y (List.mem_cons_of_mem _ hy)⟩)
    split
    · exact .inr rfl
    · exact .inl rfl
/-! ### The law -/
def sfI (t : ByteArray) (id : Nat) (μ : List Nat) (m : Nat) (vs : List Value) (H : AHeap) : Prop :=
  match id with
  | 0 => ∃ i : Nat, vs = [.string t, vi i] ∧ H = AHeap.empty ∧ i ≤ t.size ∧ (∀ b ∈ t.data.toList.take i, okB b) ∧ m = t.size - i
  | 1 => ∃ (p w : ByteArray) (i : Nat), vs = [.string p, .string w, vi i] ∧ H = AHeap.empty ∧ i ≤ p.size ∧ p.size ≤ 100000000000000 ∧ w.size ≤ i ∧ ckP (p.data.toList.drop i) w.data.toList = true ∧ m = p.size - i
  | _ => False
theorem seq_list (w : ByteArray) (l : List UInt8) : seq w ⟨⟨l⟩⟩ = (w.data.toList == l) := rfl
theorem clOut_sz {t : ByteArray} (ht : t.size ≤ 8000000) : (clOut t).size ≤ 100000000000000 := by
  unfold clOut rawOut
  have q1 := headC_sz 63 t
  have q2 := unO_sz (headC 63 t)
  have q3 := pieces_le (unO (headC 63 t)) 47
  split
  · cases hr : clGo (pieces (unO (headC 63 t)) 47) [] false with
    | none => exact Nat.zero_le _
    | some r =>
      obtain ⟨K, f⟩ := r
      have hlen : ∀ (ps K0 : List ByteArray) (f : Bool) (r : List ByteArray × Bool), clGo ps K0 f = some r → r.1.length ≤ K0.length + ps.length := by
        intro ps
        induction ps with
        | nil => intro K0 f r h; rw [clGo] at h; cases h; simp
        | cons p ps ih =>
          intro K0 f r h
          rw [clGo] at h
          split at h
          · have := ih _ _ _ h; simp; omega
          split at h
          · have := ih _ _ _ h; simp; omega
          split at h
          · split at h
            · cases h
            · have := ih _ _ _ h
              rw [List.length_dropLast] at this
              simp; omega
          · have := ih _ _ _ h; simp at this ⊢; omega
      have hK := hlen _ _ _ _ hr
      simp at hK
      have hM : ∀ x ∈ K, x.size ≤ 8000000 := by
        intro x hx
        obtain ⟨g1, g2⟩ := clGo_keeps _ _ _ _ hr (fun z hz => by cases hz) x hx
        rcases g2 with g2 | g2
        · cases g2
        · have := pieces_sz _ _ x g2; omega
      have hj := joinB_sz 8000000 K hM
      have hj2 : K.length * (8000000 + 1) ≤ 8000001 * 8000001 := Nat.mul_le_mul (by omega) (Nat.le_refl _)
      have s1 : slB.size = 1 := rfl
      rw [clO]
      split
      · rw [ByteArray.size_append, ByteArray.size_append, s1]; omega
      · rw [ByteArray.size_append, s1]; omega
  · exact Nat.zero_le _
abbrev sfE : KF := endK ptQ [.tmp 2] fun v _ => v = .bool true
theorem u8_33 {b : UInt8} (h1 : ¬ ((b.toNat : Int) < 33)) (h2 : ¬ ((126 : Int) < b.toNat)) : okB b := by
  refine ⟨by omega, fun h => ?_⟩
  subst h
  exact h2 (by decide)
theorem sfseg0 {t : ByteArray} (ht : t.size ≤ 2097152) (m : Nat) (vs : List Value) (H : AHeap) (hI : sfI t 0 [] m vs H) :
    Hd (segA ptQ noH 30 20 4 0 104 sfCuts (ofI (sfI t)) sfB sfP1 [] m [0,3] vs H sfE) := by
  obtain ⟨i, rfl, rfl, hi, hno, rfl⟩ := hI
  constructor
  unfold sfE
  rw [sf0]
  refine ifK_dec (fun h => ?_) (fun h => ?_)
  · obtain ⟨b, hb, hd⟩ := dropAt (s := t) (i := i) (by omega)
    have hw : IntKind.wrap IntKind.i64 ((i : Int) + 1) = ((i + 1 : Nat) : Int) := by rw [wr_i64]; omega
    refine ifK_dec (fun _ => ?_) (fun h' => absurd ⟨by omega, h⟩ h')
    rw [hb, hw]
    refine ifK_dec (fun _ => rfl) (fun h33 => ?_)
    refine ifK_dec (fun _ => ?_) (fun h' => absurd ⟨by omega, h⟩ h')
    refine ifK_dec (fun _ => rfl) (fun h126 => ?_)
    refine ⟨t.size - (i + 1), by omega, i + 1, rfl, rfl, by omega, ?_, rfl⟩
    intro x hx
    rw [take_next (by omega) hb] at hx
    rcases List.mem_append.1 hx with hx | hx
    · exact hno x hx
    · simp at hx; subst hx; exact u8_33 h33 h126
  · have hie : i = t.size := by omega
    rw [hie, List.take_of_length_le (by rw [ba_len]; exact Nat.le_refl _)] at hno
    refine ifK_dec (fun _ => ?_) (fun h' => absurd (by omega) h')
    refine ifK_nd (fun h0 => ?_) (fun h0 => ?_)
    · obtain ⟨r, e, hck⟩ := safe_law h0 hno
      have hsz : (clOut t).size = r.length + 1 := by rw [← ba_len, e]; rfl
      have hne : seq (clOut t) (⟨#[]⟩ : ByteArray) = false := by
        rw [show seq (clOut t) (⟨#[]⟩ : ByteArray) = ((clOut t).data.toList == []) from rfl, e]; rfl
      have hb0 : byteAt (clOut t) 0 = 47 := by
        have : byteAt (clOut t) ((0 : Nat) : Int) = (47 : UInt8).toNat := byteAt_of (by rw [e]; rfl)
        exact this
      refine ifK_f hne (ifK_dec (fun _ => ?_) (fun h' => absurd ⟨by omega, by omega⟩ h'))
      rw [hb0]
      refine ifK_f (by decide) ?_
      have hz := clOut_sz (t := t) (by omega)
      refine ⟨(clOut t).size - 1, trivial, clOut t, eB, 1, rfl, rfl, by omega, hz, Nat.zero_le _, ?_, rfl⟩
      rw [e]
      exact hck
    · have hO : clOut t = eB := by unfold clOut rawOut; exact if_neg h0
      rw [hO]
      refine ifK_t (seq_self _) ?_
      rcases clErr_cases t with h1 | h1 | h1 | h1
      · exact absurd h1 h0
      · exact ifK_t (decide_eq_true h1) rfl
      · exact ifK_f (decide_eq_false (by omega)) (ifK_t (decide_eq_true h1) rfl)
      · exact ifK_f (decide_eq_false (by omega)) (ifK_f (decide_eq_false (by omega)) (ifK_t (decide_eq_true h1) rfl))
theorem sfseg1 {t : ByteArray} (m : Nat) (vs : List Value) (H : AHeap) (hI : sfI t 1 [] m vs H) :
    Hd (segA ptQ noH 30 20 4 0 104 sfCuts (ofI (sfI t)) sfB sfP2 [] m [4,7,8] vs H sfE) := by
  obtain ⟨p, w, i, rfl, rfl, hi, hp, hwz, hck, rfl⟩ := hI
  constructor
  unfold sfE
  rw [sf1]
  refine ifK_dec (fun h => ?_) (fun h => ?_)
  · obtain ⟨b, hb, hd⟩ := dropAt (s := p) (i := i) (by omega)
    have hw : IntKind.wrap IntKind.i64 ((i : Int) + 1) = ((i + 1 : Nat) : Int) := by rw [wr_i64]; omega
    rw [hd, ckP] at hck
    simp only [Bool.and_eq_true, decide_eq_true_eq, Bool.not_eq_true'] at hck
    obtain ⟨k1, k2, k3⟩ := hck
    have k2' : b ≠ 127 := by simpa using k2
    refine ifK_dec (fun _ => ?_) (fun h' => absurd ⟨by omega, h⟩ h')
    rw [hb, hw]
    refine ifK_dec (fun h' => absurd h' (by omega)) (fun _ => ?_)
    refine ifK_dec (fun _ => ?_) (fun h' => absurd ⟨by omega, h⟩ h')
    refine ifK_dec (fun h' => absurd ((u8_eq (n := 127) (by decide)).1 h') k2') (fun _ => ?_)
    refine ifK_dec (fun _ => ?_) (fun h' => absurd ⟨by omega, h⟩ h')
    refine ifK_nd (fun h47 => ?_) (fun h47 => ?_)
    · have e47 : b = 47 := (u8_eq (n := 47) (by decide)).1 h47
      rw [if_pos e47] at k3
      simp only [Bool.and_eq_true, Bool.not_eq_true'] at k3
      obtain ⟨t1, t2, t3, k4⟩ := k3
      refine ifK_f t1 (ifK_f t2 (ifK_f t3 ?_))
      exact ⟨p.size - (i + 1), by omega, p, eB, i + 1, rfl, rfl, by omega, hp, Nat.zero_le _, k4, rfl⟩
    · have e47 : b ≠ 47 := fun h => h47 ((u8_eq (n := 47) (by decide)).2 h)
      rw [if_neg e47] at k3
      have hx : (p.extract i (i + 1)).data.toList = [b] := by
        rw [toList_ext, List.drop_take, hd]; simp
      have hxs : (p.extract i (i + 1)).size = 1 := by rw [← ba_len, hx]; rfl
      simp only [Int.toNat_natCast]
      refine ifK_dec (fun _ => ?_) (fun h' => absurd ⟨by omega, by omega, by omega⟩ h')
      refine ifK_dec (fun _ => ?_) (fun h' => absurd (by omega) h')
      refine ⟨p.size - (i + 1), by omega, p, w ++ p.extract i (i + 1), i + 1, rfl, rfl, by omega, hp, by rw [ByteArray.size_append]; omega, ?_, rfl⟩
      rw [ba_list2, hx]
      exact k3
  · have hie : i = p.size := by omega
    rw [hie, List.drop_of_length_le (by rw [ba_len]; exact Nat.le_refl _), ckP] at hck
    simp only [Bool.and_eq_true] at hck
    exact ifK_t hck.1 (ifK_t hck.2 rfl)
theorem sfStart (t : ByteArray) : Hd (startA ptQ noH 30 20 4 0 104 sfCuts (ofI (sfI t)) sfB ([.string t] ++ List.replicate 103 undef) AHeap.empty sfE) := by
  constructor
  unfold sfE
  rw [sfS]
  exact ⟨t.size, trivial, 0, rfl, rfl, Nat.zero_le _, by simp, rfl⟩
end Go.Ev
