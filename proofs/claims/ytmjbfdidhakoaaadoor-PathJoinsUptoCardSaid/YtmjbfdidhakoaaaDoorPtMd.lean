/- The law PathQuery: what its ways come to; no condition. -/
import Derived.Test.YtmjbfdidhakoaaaDoorPtMc
namespace Go.Ev
open Go Go.Proofs Go.RowKit
set_option linter.unusedVariables false
set_option maxRecDepth 100000
set_option maxHeartbeats 4000000
noncomputable def pqSumms : List (Nat × BSumm) := (8, newS clSpec) :: pvSumms
theorem pqSO : BSumsOk Tryd.prog pqSumms := ⟨cl_ok, pvSO⟩
noncomputable def ptQ : Env := mkEnvB Tryd.prog ptPlans ptExts fun f => look f pqSumms
theorem pqT : ptQ.TOk := tOkB_of (by kernel_rfl) ptX
theorem pqF : ptQ.FOk ptQ.ok := fOkB_of (by kernel_rfl)
theorem pqO : ptQ.SOk := sOkB_of pqSO
theorem pqM : ptQ.P.follows .mixedOrders = true := by kernel_rfl
abbrev noH : FuncId → Tmp → Option Hint := fun _ _ => none
noncomputable abbrev qB : Code := bodyOf Tryd.prog 6
def qP : List Bool := [true, false, true, false]
def qCuts : Cuts := [(qP, [⟨0, [0,1,5], [], false⟩])]
theorem qS (t q : ByteArray) (R : RFun) (Q : Value → Prop) :
   startA ptQ noH 30 20 6 0 68 qCuts R qB ([.string t, .string q] ++ List.replicate 66 undef) AHeap.empty (endK ptQ [.tmp 4] fun v _ => Q v)
   = (R 0 none [] [Value.string t, Value.string q, vi (0 : Int)] { size := 0, tr := Tr.nil }) := by kernel_rfl
theorem q0 (t q : ByteArray) (m : Nat) (i : Int) (R : RFun) (Q : Value → Prop) :
   segA ptQ noH 30 20 6 0 68 qCuts R qB qP [] m [0,1,5] [.string t, .string q, vi i] AHeap.empty (endK ptQ [.tmp 4] fun v _ => Q v)
   = (ifK (decide (i < (↑(ByteArray.size t) : Int))) (ifK (decide ((0 : Int) ≤ i ∧ i < (↑(ByteArray.size t) : Int))) (ifK (decide (byteAt t i = (63 : Int))) (Q (Value.bool true)) (R 0 (some m) [] [Value.string t, Value.string q, vi (IntKind.wrap IntKind.i64 (i + (1 : Int)))] { size := 0, tr := Tr.nil })) False) (ifK (decide (ByteArray.size t ≤ 8000000)) (ifK (decide (ByteArray.size t + ByteArray.size (⟨#[(63 : UInt8)]⟩ : ByteArray) < 9223372036854775808)) (ifK (decide (ByteArray.size (t ++ (⟨#[(63 : UInt8)]⟩ : ByteArray)) + ByteArray.size q < 9223372036854775808)) (ifK (decide (ByteArray.size (t ++ (⟨#[(63 : UInt8)]⟩ : ByteArray) ++ q) ≤ 8000000)) (ifK (!decide (clErr t = clErr (t ++ (⟨#[(63 : UInt8)]⟩ : ByteArray) ++ q))) (Q (Value.bool false)) (ifK (!seq (clOut t) (clOut (t ++ (⟨#[(63 : UInt8)]⟩ : ByteArray) ++ q))) (Q (Value.bool false)) (ifK (!seq (clQry t) (⟨#[]⟩ : ByteArray)) (Q (Value.bool false)) (ifK (!decide (clErr t = (0 : Int))) (ifK (seq (clQry (t ++ (⟨#[(63 : UInt8)]⟩ : ByteArray) ++ q)) (⟨#[]⟩ : ByteArray)) (Q (Value.bool true)) (ifK (decide (clErr t = (0 : Int))) (ifK (seq (clQry (t ++ (⟨#[(63 : UInt8)]⟩ : ByteArray) ++ q)) q) (Q (Value.bool true)) (Q (Value.bool false))) (Q (Value.bool false)))) (ifK (decide (clErr t = (0 : Int))) (ifK (seq (clQry (t ++ (⟨#[(63 : UInt8)]⟩ : ByteArray) ++ q)) q) (Q (Value.bool true)) (Q (Value.bool false))) (Q (Value.bool false))))))) False) False) False) False)) := by kernel_rfl
end Go.Ev

/- The law PathQuery answers true at every two texts within some bounds. -/
namespace Go.Ev
open Go Go.Proofs Go.RowKit
set_option linter.unusedVariables false
set_option linter.unusedSimpArgs false
set_option maxRecDepth 100000
set_option maxHeartbeats 4000000
theorem tw_all (c : UInt8) : ∀ (l : List UInt8), (∀ x ∈ l, x ≠ c) → l.takeWhile (· != c) = l ∧ (l.dropWhile (· != c)).drop 1 = [] := by
  intro l
  induction l with
  | nil => intro _; exact ⟨rfl, rfl⟩
  | cons b l ih =>
    intro h
    have hb : (b != c) = true := by simpa using h b (List.mem_cons_self ..)
    obtain ⟨h1, h2⟩ := ih (fun x hx => h x (List.mem_cons_of_mem _ hx))
    rw [List.takeWhile_cons, List.dropWhile_cons, hb, if_pos rfl, if_pos rfl, h1]
    exact ⟨rfl, h2⟩
theorem tw_app (c : UInt8) (r : List UInt8) : ∀ (l : List UInt8), (∀ x ∈ l, x ≠ c) → (l ++ c :: r).takeWhile (· != c) = l ∧ ((l ++ c :: r).dropWhile (· != c)).drop 1 = r := by
  intro l
  induction l with
  | nil => intro _; simp
  | cons b l ih =>
    intro h
    have hb : (b != c) = true := by simpa using h b (List.mem_cons_self ..)
    obtain ⟨h1, h2⟩ := ih (fun x hx => h x (List.mem_cons_of_mem _ hx))
    rw [List.cons_append, List.takeWhile_cons, List.dropWhile_cons, hb, if_pos rfl, if_pos rfl, h1]
    exact ⟨rfl, h2⟩
theorem query_law {t q : ByteArray} (h : ∀ x ∈ t.data.toList, x ≠ 63) :
    headC 63 t = t ∧ tailC 63 t = eB ∧ headC 63 (t ++ ⟨#[(63 : UInt8)]⟩ ++ q) = t ∧ tailC 63 (t ++ ⟨#[(63 : UInt8)]⟩ ++ q) = q := by
  obtain ⟨h1, h2⟩ := tw_all 63 _ h
  obtain ⟨h3, h4⟩ := tw_app 63 q.data.toList _ h
  have e : (t ++ ⟨#[(63 : UInt8)]⟩ ++ q).data.toList = t.data.toList ++ 63 :: q.data.toList := by
    rw [ba_list2, ba_list2, List.append_assoc]; rfl
  refine ⟨ba_ext h1, ba_ext h2, ba_ext ?_, ba_ext ?_⟩
  · show (t ++ ⟨#[(63 : UInt8)]⟩ ++ q).data.toList.takeWhile (· != 63) = _
    rw [e, h3]
  · show ((t ++ ⟨#[(63 : UInt8)]⟩ ++ q).data.toList.dropWhile (· != 63)).drop 1 = _
    rw [e, h4]
def qI (t q : ByteArray) (id : Nat) (μ : List Nat) (m : Nat) (vs : List Value) (H : AHeap) : Prop :=
  match id with
  | 0 => ∃ i : Nat, vs = [.string t, .string q, vi i] ∧ H = AHeap.empty ∧ i ≤ t.size ∧ (∀ x ∈ t.data.toList.take i, x ≠ 63) ∧ m = t.size - i
  | _ => False
theorem take_next {s : ByteArray} {i : Nat} {b : UInt8} (hi : i < s.size) (hb : byteAt s (i : Int) = b.toNat) : s.data.toList.take (i + 1) = s.data.toList.take i ++ [b] := by
  obtain ⟨b', h1, h2⟩ := list_byte hi
  have : b' = b := by
    rw [h2] at hb
    exact UInt8.toNat_inj.1 (by omega)
  subst this
  rw [List.take_add_one, h1]; rfl
theorem qseg {t q : ByteArray} (ht : t.size ≤ 2097152) (hq : q.size ≤ 2097152) (m : Nat) (vs : List Value) (H : AHeap) (hI : qI t q 0 [] m vs H) :
    Hd (segA ptQ noH 30 20 6 0 68 qCuts (ofI (qI t q)) qB qP [] m [0,1,5] vs H (endK ptQ [.tmp 4] fun v _ => v = .bool true)) := by
  obtain ⟨i, rfl, rfl, hi, hno, rfl⟩ := hI
  constructor
  rw [q0]
  refine ifK_dec (fun h => ?_) (fun h => ?_)
  · obtain ⟨b, hb, hd⟩ := dropAt (s := t) (i := i) (by omega)
    have hw : IntKind.wrap IntKind.i64 ((i : Int) + 1) = ((i + 1 : Nat) : Int) := by rw [wr_i64]; omega
    refine ifK_dec (fun _ => ?_) (fun h' => absurd ⟨by omega, h⟩ h')
    rw [hb, hw]
    refine ifK_dec (fun _ => rfl) (fun h63 => ?_)
    refine ⟨t.size - (i + 1), by omega, i + 1, rfl, rfl, by omega, ?_, rfl⟩
    intro x hx
    rw [take_next (by omega) hb] at hx
    rcases List.mem_append.1 hx with hx | hx
    · exact hno x hx
    · simp at hx; subst hx; exact fun h => h63 ((u8_eq (n := 63) (by decide)).2 h)
  · have hie : i = t.size := by omega
    rw [hie, List.take_of_length_le (by rw [ba_len]; exact Nat.le_refl _)] at hno
    obtain ⟨e1, e2, e3, e4⟩ := query_law (q := q) hno
    have s1 : (⟨#[(63 : UInt8)]⟩ : ByteArray).size = 1 := rfl
    have hE : clErr (t ++ ⟨#[(63 : UInt8)]⟩ ++ q) = clErr t := by unfold clErr; rw [e1, e3]
    have hO : clOut (t ++ ⟨#[(63 : UInt8)]⟩ ++ q) = clOut t := by unfold clOut; rw [e1, e3]
    have hQ : clQry t = eB := by unfold clQry; rw [e2]; split <;> rfl
    have hQ2 : clQry (t ++ ⟨#[(63 : UInt8)]⟩ ++ q) = if clErr t = 0 then q else eB := by unfold clQry; rw [hE, e4]
    have hz : (t ++ (⟨#[(63 : UInt8)]⟩ : ByteArray)).size = t.size + 1 := by rw [ByteArray.size_append, s1]
    have hz2 : (t ++ (⟨#[(63 : UInt8)]⟩ : ByteArray) ++ q).size = t.size + 1 + q.size := by rw [ByteArray.size_append, hz]
    rw [hE, hO, hQ, hQ2, hz, hz2, s1]
    refine ifK_dec (fun _ => ?_) (fun h' => absurd (by omega) h')
    refine ifK_dec (fun _ => ?_) (fun h' => absurd (by omega) h')
    refine ifK_dec (fun _ => ?_) (fun h' => absurd (by omega) h')
    refine ifK_dec (fun _ => ?_) (fun h' => absurd (by omega) h')
    refine ifK_f (by simp) (ifK_f (by rw [seq_self]; rfl) (ifK_f (by rw [seq_self]; rfl) ?_))
    refine ifK_nd (fun h0 => ?_) (fun h0 => ?_)
    · rw [if_pos h0]
      exact ifK_t (decide_eq_true h0) (ifK_t (seq_self _) rfl)
    · rw [if_neg h0]
      exact ifK_t (seq_self _) rfl
theorem qStart (t q : ByteArray) : Hd (startA ptQ noH 30 20 6 0 68 qCuts (ofI (qI t q)) qB ([.string t, .string q] ++ List.replicate 66 undef) AHeap.empty (endK ptQ [.tmp 4] fun v _ => v = .bool true)) := by
  constructor
  rw [qS]
  exact ⟨t.size, trivial, 0, rfl, rfl, Nat.zero_le _, by simp, rfl⟩
end Go.Ev
