/- The law PathJoins: what its ways come to; no condition. -/
import Derived.Test.YtmjbfdidhakoaaaDoorPtMi
import Derived.Test.YtmjbfdidhakoaaaDoorPtMg
namespace Go.Ev
open Go Go.Proofs Go.RowKit
set_option linter.unusedVariables false
set_option maxRecDepth 100000
set_option maxHeartbeats 4000000
noncomputable abbrev jB : Code := bodyOf Tryd.prog 7
def jHint : FuncId → Tmp → Option Hint := fun f t => (look f [(7, [(31, Hint.str)])]).bind (look t)
def jP : List Bool := [true, true, true, true, true, false, true, false]
def jCuts : Cuts := [(jP, [⟨0, [3,6,7,8], [(6,[])], false⟩])]
theorem jS (t : ByteArray) (R : RFun) (Q : Value → Prop) :
   startA ptS jHint 30 20 7 0 53 jCuts R jB ([.string t] ++ List.replicate 52 undef) AHeap.empty (endK ptS [.tmp 2] fun v _ => Q v)
   = (ifK (decide (ByteArray.size t ≤ 8000000)) (ifK (!decide (clErr t = (0 : Int))) (Q (Value.bool true)) (ifK (decide (ByteArray.size (clOut t) ≤ 100000000)) (R 0 none [] [Value.string (clOut t), Value.slice (some { block := 0, off := 0 }) (List.length (fldB (clOut t))) (List.length (fldB (clOut t))), Value.string (⟨#[]⟩ : ByteArray), vi (0 : Int)] { size := 1, tr := Tr.node (some (AObj.cells (List.map (renV [0]) (List.map (upV [0]) (List.map Value.string (fldB (clOut t))))) (⟨1, some 9, true⟩ : ET) St.live [])) Tr.nil Tr.nil }) False)) False) := by kernel_rfl
theorem j0 (p w : ByteArray) (m n : Nat) (i : Int) (P : List Value) (R : RFun) (Q : Value → Prop) :
   segA ptS jHint 30 20 7 0 53 jCuts R jB jP [] m [3,6,7,8] [.string p, slb 0 n, .string w, vi i] (cH0 P) (endK ptS [.tmp 2] fun v _ => Q v)
   = (ifK (decide (i < (↑n : Int))) (ifK (decide (ByteArray.size w + ByteArray.size (⟨#[(47 : UInt8)]⟩ : ByteArray) < 9223372036854775808)) (ifK (decide ((0 : Int) ≤ i ∧ i < (↑n : Int))) (∃ s, LoadIs ptS 9 (Value.pointer (some { block := 0, off := 0 + Int.toNat i * 1 })) { size := 1, tr := Tr.node (some (AObj.cells P (⟨1, some (nat_lit 9), true⟩ : ET) St.live [])) Tr.nil Tr.nil } (Value.string s) ∧ ifK (decide (ByteArray.size (w ++ (⟨#[(47 : UInt8)]⟩ : ByteArray)) + ByteArray.size s < 9223372036854775808)) (R 0 (some m) [] [Value.string p, Value.slice (some { block := 0, off := 0 }) n n, Value.string (w ++ (⟨#[(47 : UInt8)]⟩ : ByteArray) ++ s), vi (IntKind.wrap IntKind.i64 (i + (1 : Int)))] { size := 1, tr := Tr.node (some (AObj.cells (List.map (renV [0]) P) (⟨1, some (nat_lit 9), true⟩ : ET) St.live [])) Tr.nil Tr.nil }) False) False) False) (ifK (decide ((↑n : Int) = (0 : Int))) (ifK (seq p (⟨#[(47 : UInt8)]⟩ : ByteArray)) (Q (Value.bool true)) (Q (Value.bool false))) (ifK (seq p w) (Q (Value.bool true)) (ifK (decide (ByteArray.size w + ByteArray.size (⟨#[(47 : UInt8)]⟩ : ByteArray) < 9223372036854775808)) (ifK (seq p (w ++ (⟨#[(47 : UInt8)]⟩ : ByteArray))) (Q (Value.bool true)) (Q (Value.bool false))) False)))) := by kernel_rfl
end Go.Ev

/- The law PathJoins answers true at every text within some bound. -/
namespace Go.Ev
open Go Go.Proofs Go.RowKit
set_option linter.unusedVariables false
set_option linter.unusedSimpArgs false
set_option maxRecDepth 100000
set_option maxHeartbeats 4000000
theorem fieldsL_clean (L : List (List UInt8)) (f : Bool) (hL : ∀ x ∈ L, goodL x) : fieldsL (outL (some (L, f))) = L := by
  show fieldsL (47 :: (Lib.join L [47] ++ (if f = true ∧ L ≠ [] then [47] else []))) = L
  rw [fieldsL_slash]
  cases L with
  | nil => rw [if_neg (fun h => h.2 rfl)]; rfl
  | cons x L =>
    have hx := (hL x (List.mem_cons_self ..)).2.2.2
    have hy : ∀ y ∈ L, ∀ b ∈ y, b ≠ 47 := fun y hy => (hL y (List.mem_cons_of_mem _ hy)).2.2.2
    have hne : ∀ y ∈ x :: L, decide (y ≠ []) = true := fun y hy => decide_eq_true (hL y hy).1
    have key : ∀ tl : List UInt8, tl = [] ∨ tl = [47] → fieldsL (x ++ (tailJ L ++ tl)) = x :: L := by
      intro tl ht
      unfold fieldsL
      rw [splitL_tail tl ht L x hx hy]
      have e : x :: (L ++ if tl = [] then [] else [[]]) = (x :: L) ++ (if tl = [] then [] else [[]]) := rfl
      rw [e, List.filter_append, List.filter_eq_self.2 hne]
      rcases ht with rfl | rfl
      · rw [if_pos rfl]; simp
      · rw [if_neg (by simp)]; simp
    rw [join_tail, List.append_assoc]
    refine key _ ?_
    split
    · exact .inr rfl
    · exact .inl rfl
theorem tailJ_app (K L : List (List UInt8)) : tailJ (K ++ L) = tailJ K ++ tailJ L := by unfold tailJ; rw [List.map_append, List.flatten_append]
theorem out_tail (L : List (List UInt8)) (f : Bool) (h : L ≠ []) : outL (some (L, f)) = tailJ L ++ (if f = true ∧ L ≠ [] then [47] else []) := by
  show 47 :: (Lib.join L [47] ++ (if f = true ∧ L ≠ [] then [47] else [])) = _
  cases L with
  | nil => exact absurd rfl h
  | cons x L => rw [join_tail]; rfl
abbrev fl (t : ByteArray) : List ByteArray := fldB (clOut t)
def jI (t : ByteArray) (id : Nat) (μ : List Nat) (m : Nat) (vs : List Value) (H : AHeap) : Prop :=
  match id with
  | 0 => ∃ (i : Nat) (w : ByteArray), vs = [.string (clOut t), slb 0 (fl t).length, .string w, vi i] ∧ H = cH0 ((fl t).map .string) ∧ clErr t = 0 ∧ i ≤ (fl t).length ∧ tL w = tailJ (((fl t).map tL).take i) ∧ m = (fl t).length - i
  | _ => False
theorem psOne9 : (ptS.ty 9).map (fun i => isAggD i.desc) = some false := by kernel_rfl
theorem wt_take (L : List (List UInt8)) (i : Nat) : wt (L.take i) ≤ wt L := by
  have h : wt L = wt (L.take i) + wt (L.drop i) := by rw [← wt_app, List.take_append_drop]
  omega
theorem wt_filter (p : List UInt8 → Bool) (L : List (List UInt8)) : wt (L.filter p) ≤ wt L := by
  induction L with
  | nil => exact Nat.le_refl _
  | cons x L ih =>
    rw [List.filter_cons, wt_cons]
    split
    · rw [wt_cons]; omega
    · omega
theorem fl_wt (s : ByteArray) : wt ((fldB s).map tL) ≤ s.size + 1 := by
  have h := fldB_list s
  rw [show (fldB s).map tL = fieldsL s.data.toList from h]
  unfold fieldsL
  refine Nat.le_trans (wt_filter _ _) ?_
  rw [splitL_wt, ba_len]
  exact Nat.le_refl _
theorem jseg {t : ByteArray} (ht : t.size ≤ 2097152) (m : Nat) (vs : List Value) (H : AHeap) (hI : jI t 0 [] m vs H) :
    Hd (segA ptS jHint 30 20 7 0 53 jCuts (ofI (jI t)) jB jP [] m [3,6,7,8] vs H (endK ptS [.tmp 2] fun v _ => v = .bool true)) := by
  obtain ⟨i, w, rfl, rfl, h0, hi, hw, rfl⟩ := hI
  have hsz := clOut_tight t
  have hwt : wt ((fl t).map tL) ≤ (clOut t).size + 1 := fl_wt (clOut t)
  have hlen : (fl t).length ≤ (clOut t).size + 1 := fldB_len (clOut t)
  have hwz : w.size ≤ (clOut t).size + 1 := by
    have e : w.size = (tL w).length := (ba_len w).symm
    rw [e, hw, tailJ_wt]
    exact Nat.le_trans (wt_take _ _) hwt
  have s1 : (⟨#[(47 : UInt8)]⟩ : ByteArray).size = 1 := rfl
  constructor
  rw [j0]
  refine ifK_dec (fun h => ?_) (fun h => ?_)
  · have hlt : i < (fl t).length := by omega
    have hp : (fl t)[i]? = some (fl t)[i] := List.getElem?_eq_getElem hlt
    have hnext : tailJ (((fl t).map tL).take (i + 1)) = tailJ (((fl t).map tL).take i) ++ 47 :: tL (fl t)[i] := by
      rw [List.take_add_one, List.getElem?_map, hp, tailJ_app]
      show _ ++ tailJ [tL (fl t)[i]] = _
      congr 1
      unfold tailJ
      simp
    have hw1 : IntKind.wrap IntKind.i64 ((i : Int) + 1) = ((i + 1 : Nat) : Int) := by rw [wr_i64]; omega
    rw [s1]
    refine ifK_dec (fun _ => ?_) (fun h' => absurd (by omega) h')
    refine ifK_dec (fun _ => ?_) (fun h' => absurd ⟨by omega, h⟩ h')
    refine ⟨(fl t)[i], ⟨?_⟩, ?_⟩
    · rw [aload_one psOne9 rfl, List.getElem?_map, show 0 + Int.toNat (i : Int) * 1 = i by rw [Int.toNat_natCast]; omega, hp]; rfl
    have hxz : (fl t)[i].size ≤ (clOut t).size + 1 := by
      have h1 := wt_take ((fl t).map tL) (i + 1)
      rw [← tailJ_wt, hnext, List.length_append, List.length_cons] at h1
      have e : (tL (fl t)[i]).length = (fl t)[i].size := ba_len _
      omega
    rw [hw1, strs_ren]
    refine ifK_dec (fun _ => ?_) (fun h' => absurd (by rw [ByteArray.size_append, s1]; omega) h')
    refine ⟨(fl t).length - (i + 1), by omega, i + 1, _, rfl, rfl, h0, by omega, ?_, rfl⟩
    show (w ++ (⟨#[(47 : UInt8)]⟩ : ByteArray) ++ (fl t)[i]).data.toList = _
    rw [ba_list2, ba_list2, hnext, ← hw, List.append_assoc]
    rfl
  · have hie : i = (fl t).length := by omega
    obtain ⟨L, f, e, hL, _, _, _⟩ := clean_form h0
    have hout : tL (clOut t) = outL (some (L, f)) := e
    have hfl : (fl t).map tL = L := by
      have h1 : (fldB (clOut t)).map tL = fieldsL (tL (clOut t)) := fldB_list (clOut t)
      show (fldB (clOut t)).map tL = L
      rw [h1, hout, fieldsL_clean L f (fun x hx => (hL x hx).1)]
    have hll : (fl t).length = L.length := by rw [← hfl, List.length_map]
    rw [hie, hfl, List.take_of_length_le (by omega)] at hw
    refine ifK_dec (fun hn => ?_) (fun hn => ?_)
    · have hL0 : L = [] := List.length_eq_zero_iff.1 (by omega)
      subst hL0
      refine ifK_t ?_ rfl
      rw [seq_iff']
      show tL (clOut t) = [47]
      rw [hout]
      show 47 :: (Lib.join [] [47] ++ (if f = true ∧ ([] : List (List UInt8)) ≠ [] then [47] else [])) = [47]
      rw [if_neg (fun h => h.2 rfl)]; rfl
    · have hne : L ≠ [] := fun h => hn (by rw [hll, h]; rfl)
      rw [out_tail L f hne] at hout
      by_cases hf : f = true
      · rw [if_pos ⟨hf, hne⟩] at hout
        refine ifK_f ?_ ?_
        · cases hq : seq (clOut t) w with
          | false => rfl
          | true =>
            rw [seq_iff'] at hq
            have h1 := congrArg List.length hq
            have h2 : (clOut t).data.toList.length = (tailJ L ++ [47]).length := congrArg List.length hout
            have h3 : w.data.toList.length = (tailJ L).length := congrArg List.length hw
            have h4 : ([47] : List UInt8).length = 1 := rfl
            rw [List.length_append] at h2
            omega
        · rw [s1]
          refine ifK_dec (fun _ => ?_) (fun h' => absurd (by omega) h')
          refine ifK_t ?_ rfl
          rw [seq_iff', ba_list2]
          show tL (clOut t) = tL w ++ [47]
          rw [hout, hw]
      · rw [if_neg (fun h => hf h.1), List.append_nil] at hout
        refine ifK_t ?_ rfl
        rw [seq_iff']
        show tL (clOut t) = tL w
        rw [hout, hw]
theorem jStart (t : ByteArray) (ht : t.size ≤ 2097152) : Hd (startA ptS jHint 30 20 7 0 53 jCuts (ofI (jI t)) jB ([.string t] ++ List.replicate 52 undef) AHeap.empty (endK ptS [.tmp 2] fun v _ => v = .bool true)) := by
  have hsz := clOut_tight t
  constructor
  rw [jS]
  refine ifK_dec (fun _ => ?_) (fun h' => absurd (by omega) h')
  refine ifK_nd (fun h0 => ?_) (fun h0 => rfl)
  refine ifK_dec (fun _ => ?_) (fun h' => absurd (by omega) h')
  rw [strs_up, strs_ren]
  exact ⟨(fl t).length, trivial, 0, eB, rfl, rfl, h0, Nat.zero_le _, by rw [List.take_zero]; rfl, rfl⟩
end Go.Ev
