/- path.Parts' own predicate: what it comes to; no condition. -/
import Derived.Test.YtmjbfdidhakoaaaDoorPtMd
import Derived.Test.YtmjbfdidhakoaaaDoorPtMe
import Derived.Test.YtmjbfdidhakoaaaDoorPtLy
namespace Go.Ev
open Go Go.Proofs Go.RowKit
set_option linter.unusedVariables false
set_option maxRecDepth 100000
set_option maxHeartbeats 4000000
theorem slR (x : Int) (K : Value → Prop) :
   evalK ptA (fun _ _ => none) 30 24 [.int .i32 x] AHeap.empty (fun v _ => K v)
   = (ifK (decide (x = (47 : Int))) (K (Value.bool true)) (K (Value.bool false))) := by kernel_rfl
end Go.Ev

/- The summary of strings.FieldsFunc at path.Parts' own predicate. -/
namespace Go.Ev
open Go Go.Proofs Go.RowKit
set_option linter.unusedVariables false
set_option linter.unusedSimpArgs false
set_option maxRecDepth 100000
set_option maxHeartbeats 4000000
def slG : List Value → Option (Bool × Value)
  | [.int .i32 x] => some (true, .bool (decide (x = 47)))
  | _ => none
theorem post_below {w w' : World} {e : Ending} {b : Bool} (h : Post (fun _ => none) AHeap.empty w (.bool b) AHeap.empty e w') : e = .returned (.bool b) ∧ Below w.heap.size w w' := by
  obtain ⟨V, ρ', he, hR, hS, hv⟩ := h
  have hv' : V = .bool b := by cases hv; rfl
  subst hv'
  refine ⟨he, hS.os, hS.tape, hS.output, hS.size, fun k hk => hS.same k hk ?_⟩
  exact Own.empty _ k
/-- A new row that lies somewhere in what is new. -/
theorem post_own {w w' : World} {cs : List Value} {e : TypeId} {n A : Nat} (hA : w.heap.size ≤ A) (ho : w'.ownsRow w.heap.size e 1 (.slice (some ⟨A, 0, none⟩) n n) n cs) (hb : Below w.heap.size w w')
    (hc : LRel (fun _ => none) cs cs) (h1 : ∀ v ∈ cs, one v = true) (hn : n ≤ 9223372036854775807) :
    Post (fun _ => none) AHeap.empty w (.slice (some ⟨0, 0, none⟩) n n) (pushes AHeap.empty [.cells cs ⟨1, some e, true⟩ .live []]) (.returned (.slice (some ⟨A, 0, none⟩) n n)) w' := by
  obtain ⟨hl, ho | ⟨g, cap, cur, hv, hg, hh, h2, h3, h4, h5⟩⟩ := ho
  · cases ho.1
  · have hv1 : A = g := by injection hv with h6; injection h6 with h6; injection h6
    have hv2 : n = cap := by injection hv
    subst hv1 hv2
    rw [Nat.mul_one] at h4 h5 hl
    have hcur : cur.toList = cs := by rw [List.take_of_length_le (by rw [Array.length_toList]; omega)] at h5; exact h5
    let l : Loc := ⟨A, 0, cur.size, 1⟩
    have hAl : A < w'.heap.size := (Array.getElem?_eq_some_iff.1 hh).1
    have hO : ORel (Ren.upd (fun _ => none) 0 l) w' l (.cells cs ⟨1, some e, true⟩ .live []) := by
      refine ⟨cur, e, (0, 0), hh, rfl, ⟨rfl, fun _ h => Option.some.inj h, fun _ => rfl⟩, ?_, fun i _ _ => by omega⟩
      intro i y hy
      have hi : i < cs.length := (List.getElem?_eq_some_iff.1 hy).1
      refine ⟨y, ?_, h1 y (List.mem_of_getElem? hy), (hc.2 i y y hy hy).mono (fun b l h => by cases h)⟩
      show cur[0 + i]? = some y
      rw [Nat.zero_add, ← Array.getElem?_toList, hcur]; exact hy
    refine ⟨_, Ren.upd (fun _ => none) 0 l, rfl, ?_, ?_, ?_⟩
    · refine { bd := ?_, obj := ?_, excl := ?_ }
      · intro b k hbk
        rcases Ren.upd_inv hbk with ⟨rfl, rfl⟩ | ⟨_, hk⟩
        · exact ⟨by show 0 < 1; omega, hAl⟩
        · cases hk
      · intro b k o hbk hg'
        rcases Ren.upd_inv hbk with ⟨rfl, rfl⟩ | ⟨_, hk⟩
        · have : o = .cells cs ⟨1, some e, true⟩ .live [] := by
            have e : (pushes AHeap.empty [.cells cs ⟨1, some e, true⟩ .live []]).get 0 = some (.cells cs ⟨1, some e, true⟩ .live []) := rfl
            rw [e] at hg'
            exact (Option.some.inj hg').symm
          subst this
          exact hO
        · cases hk
      · intro b k o anc b' k' o' hbk _ _ hbk' _ _ hne _
        rcases Ren.upd_inv hbk with ⟨rfl, rfl⟩ | ⟨_, hk⟩
        · rcases Ren.upd_inv hbk' with ⟨rfl, rfl⟩ | ⟨_, hk⟩
          · exact absurd rfl hne
          · cases hk
        · cases hk
    · refine { le := fun b l h => (by cases h), keep := fun b hb => absurd hb (by show ¬ b < 0; omega), hs := Nat.zero_le _, os := hb.os, tape := hb.tape, output := hb.output, size := hb.size, own := ?_, same := fun B hB _ => hb.block B hB }
      rintro B hB ⟨b, k, o, hbk, rfl, _, _⟩
      rcases Ren.upd_inv hbk with ⟨rfl, rfl⟩ | ⟨_, hk⟩
      · exact absurd hB (by show ¬ A < w.heap.size; omega)
      · cases hk
    · refine .slice 0 0 n n l n _ (Ren.upd_eq _ _ _) (Nat.le_refl _) ⟨Nat.le_refl _, hn⟩ (fun _ => ?_) (fun _ => rfl)
      show 0 + 0 + n * 1 ≤ cur.size
      omega
theorem sl_ok : SumOk ptA.P 24 (pureS slG) := by
  refine sumOk_evalK paT paF paO paM (fun _ _ => none) 30 Tryd.func24 (by kernel_rfl) (by decide) fun args v hg => ?_
  unfold slG at hg
  split at hg
  case h_2 => cases hg
  rename_i x
  simp only [Option.some.injEq, Prod.mk.injEq, true_and] at hg
  subst hg
  refine ⟨rfl, rfl, ?_⟩
  rw [slR]
  exact ifK_dec (fun h => by rw [decide_eq_true h]) (fun h => by rw [decide_eq_false h])
theorem sl_pred (w : World) : PredGrows Tryd.prog 24 #[] isSl w := by
  intro W x _ _
  have h := (sl_ok [.int .i32 (x : Int)] AHeap.empty (.bool (decide ((x : Int) = 47))) AHeap.empty rfl).2.2 (fun _ => none) W #[.int .i32 (x : Int)] (Rel.empty W) (LRel.cons (.int _ _) (LRel.nil _))
  have e : decide ((x : Int) = 47) = isSl x := by
    by_cases hx : x = 47
    · subst hx; rfl
    · rw [decide_eq_false (by omega)]; exact (decide_eq_false hx).symm
  refine h.mono fun e' w' hp => ?_
  rw [e] at hp
  exact post_below hp
/-- The fields between slashes. -/
def fldB (s : ByteArray) : List ByteArray := Lib.goFieldsP isSl s
theorem fldB_list (s : ByteArray) : (fldB s).map (·.data.toList) = fieldsL s.data.toList := fields_law s
def ffSpec : List Value → SpR
  | [.string s, .func (.func 24) ⟨[]⟩ ⟨[]⟩] => .ret (decide (s.size ≤ 100000000)) (.slice (some ⟨0, 0, none⟩) (fldB s).length (fldB s).length) [.cells ((fldB s).map Value.string) ⟨1, some 9, true⟩ .live []]
  | _ => .fail
theorem splitL_len (l : List UInt8) : (splitL l).length ≤ l.length + 1 := by
  induction l with
  | nil => exact Nat.le_refl _
  | cons b l ih =>
    by_cases hb : b = 47
    · subst hb; rw [splitL_slash, List.length_cons, List.length_cons]; omega
    · obtain ⟨x, xs, h1, h2⟩ := splitL_byte hb l
      rw [h1, List.length_cons] at ih
      rw [h2, List.length_cons, List.length_cons]; omega
theorem fldB_len (s : ByteArray) : (fldB s).length ≤ s.size + 1 := by
  have h := congrArg List.length (fldB_list s)
  rw [List.length_map] at h
  rw [h]
  have h2 : (fieldsL s.data.toList).length ≤ (splitL s.data.toList).length := List.length_filter_le _ _
  have h3 := splitL_len s.data.toList
  rw [ba_len] at h3
  omega
theorem ff_ok : BSumOk Tryd.prog 23 (newS ffSpec) := by
  refine sumOk_new Tryd.func23 (by kernel_rfl) (by decide) fun args v os hs w cargs ha => ?_
  unfold ffSpec at hs
  split at hs
  case h_2 => cases hs
  rename_i s
  simp only [SpR.get, Option.some.injEq, Prod.mk.injEq, decide_eq_true_eq] at hs
  obtain ⟨hs, rfl, rfl⟩ := hs
  obtain ⟨S, T1, e1, hS, r1⟩ := ha.cons_left
  obtain ⟨C, T2, e2, hC, r2⟩ := r1.cons_left
  obtain rfl := r2.nil_left
  subst e2
  obtain rfl := hS.string_inv
  have hC' : C = .func (.func 24) #[] #[] := by
    cases hC with
    | func fn fs gs cs ds hf hc h1 h2 =>
      have g1 : gs = #[] := Array.eq_empty_of_size_eq_zero hf.symm
      have g2 : ds = #[] := Array.eq_empty_of_size_eq_zero hc.symm
      rw [g1, g2]
  subst hC'
  have : cargs = #[.string s, .func (.func 24) #[] #[]] := by apply Array.ext'; simpa using e1
  subst this
  have hlen := fldB_len s
  refine (Any.strings_FieldsFunc_grows Tryd.l229 24 #[] (Go.Proofs.enters_of Tryd.func24 (by kernel_rfl) rfl) isSl s w (by omega) (sl_pred w) (by kernel_rfl) (by kernel_rfl)).mono ?_
  rintro e w' ⟨A, rfl, hA, ho, hb⟩
  exact post_own (cs := (fldB s).map Value.string) hA ho hb (strs_rel _) (by simp [one]) (by show (fldB s).length ≤ _; omega)
noncomputable def psSumms : List (Nat × BSumm) := (23, newS ffSpec) :: prSumms
theorem psSO : BSumsOk Tryd.prog psSumms := ⟨ff_ok, prSO⟩
noncomputable def ptS : Env := mkEnvB Tryd.prog ptPlans ptExts fun f => look f psSumms
theorem psT : ptS.TOk := tOkB_of (by kernel_rfl) ptX
theorem psF : ptS.FOk ptS.ok := fOkB_of (by kernel_rfl)
theorem psO : ptS.SOk := sOkB_of psSO
theorem psM : ptS.P.follows .mixedOrders = true := by kernel_rfl
end Go.Ev

/- The law PathJoins: what its ways come to; no condition. -/
namespace Go.Ev
open Go Go.Proofs Go.RowKit
set_option linter.unusedVariables false
set_option maxRecDepth 100000
set_option maxHeartbeats 4000000
noncomputable abbrev jB : Code := bodyOf Tryd.prog 7
def jHint : FuncId → Tmp → Option Hint := fun f t => (look f [(7, [(31, Hint.str)])]).bind (look t)
def jP : List Bool := [true, true, true, true, true, false, true, false]
def jCuts : Cuts := [(jP, [⟨0, [3,6,7,8], [(6,[])], false⟩])]
theorem jS (t : ByteArray) (R : RFun) (Q : Value → Prop) :
   startA ptS jHint 30 20 7 0 53 jCuts R jB ([.string t] ++ List.replicate 52 undef) AHeap.empty (endK ptS [.tmp 2] fun v _ => Q v)
   = (ifK (decide (ByteArray.size t ≤ 8000000)) (ifK (!decide (clErr t = (0 : Int))) (Q (Value.bool true)) (ifK (decide (ByteArray.size (clOut t) ≤ 100000000)) (R 0 none [] [Value.string (clOut t), Value.slice (some { block := 0, off := 0 }) (List.length (fldB (clOut t))) (List.length (fldB (clOut t))), Value.string (⟨#[]⟩ : ByteArray), vi (0 : Int)] { size := 1, tr := Tr.node (some (AObj.cells (List.map (renV [0]) (List.map (upV [0]) (List.map Value.string (fldB (clOut t))))) (⟨1, some 9, true⟩ : ET) St.live [])) Tr.nil Tr.nil }) False)) False) := by kernel_rfl
theorem j0 (p w : ByteArray) (m n : Nat) (i : Int) (P : List Value) (R : RFun) (Q : Value → Prop) :
   segA ptS jHint 30 20 7 0 53 jCuts R jB jP [] m [3,6,7,8] [.string p, slb 0 n, .string w, vi i] (cH0 P) (endK ptS [.tmp 2] fun v _ => Q v)
   = (ifK (decide (i < (↑n : Int))) (ifK (decide (ByteArray.size w + ByteArray.size (⟨#[(47 : UInt8)]⟩ : ByteArray) < 9223372036854775808)) (ifK (decide ((0 : Int) ≤ i ∧ i < (↑n : Int))) (∃ s, LoadIs ptS 9 (Value.pointer (some { block := 0, off := 0 + Int.toNat i * 1 })) { size := 1, tr := Tr.node (some (AObj.cells P (⟨1, some (nat_lit 9), true⟩ : ET) St.live [])) Tr.nil Tr.nil } (Value.string s) ∧ ifK (decide (ByteArray.size (w ++ (⟨#[(47 : UInt8)]⟩ : ByteArray)) + ByteArray.size s < 9223372036854775808)) (R 0 (some m) [] [Value.string p, Value.slice (some { block := 0, off := 0 }) n n, Value.string (w ++ (⟨#[(47 : UInt8)]⟩ : ByteArray) ++ s), vi (IntKind.wrap IntKind.i64 (i + (1 : Int)))] { size := 1, tr := Tr.node (some (AObj.cells (List.map (renV [0]) P) (⟨1, some (nat_lit 9), true⟩ : ET) St.live [])) Tr.nil Tr.nil }) False) False) False) (ifK (decide ((↑n : Int) = (0 : Int))) (ifK (seq p (⟨#[(47 : UInt8)]⟩ : ByteArray)) (Q (Value.bool true)) (Q (Value.bool false))) (ifK (seq p w) (Q (Value.bool true)) (ifK (decide (ByteArray.size w + ByteArray.size (⟨#[(47 : UInt8)]⟩ : ByteArray) < 9223372036854775808)) (ifK (seq p (w ++ (⟨#[(47 : UInt8)]⟩ : ByteArray))) (Q (Value.bool true)) (Q (Value.bool false))) False)))) := by kernel_rfl
end Go.Ev

/- The law PathJoins answers true at every text within some bound. -/
namespace Go.Ev
open Go Go.Proofs Go.RowKit
set_option linter.unusedVariables false
set_option linter.unusedSimpArgs false
set_option maxRecDepth 100000
set_option maxHeartbeats 4000000
theorem fieldsL_clean (L : List (List UInt8)) (f : Bool) (hL : ∀ x ∈ L, goodL x) : fieldsL (outL (some (L, f))) = L := by
  show fieldsL (47 :: (Lib.join L [47] ++ (if f = true ∧ L ≠ [] then [47] else []))) = L
  rw [fieldsL_slash]
  cases L with
  | nil => rw [if_neg (fun h => h.2 rfl)]; rfl
  | cons x L =>
    have hx := (hL x (List.mem_cons_self ..)).2.2.2
    have hy : ∀ y ∈ L, ∀ b ∈ y, b ≠ 47 := fun y hy => (hL y (List.mem_cons_of_mem _ hy)).2.2.2
    have hne : ∀ y ∈ x :: L, decide (y ≠ []) = true := fun y hy => decide_eq_true (hL y hy).1
    have key : ∀ tl : List UInt8, tl = [] ∨ tl = [47] → fieldsL (x ++ (tailJ L ++ tl)) = x :: L := by
      intro tl ht
      unfold fieldsL
      rw [splitL_tail tl ht L x hx hy]
      have e : x :: (L ++ if tl = [] then [] else [[]]) = (x :: L) ++ (if tl = [] then [] else [[]]) := rfl
      rw [e, List.filter_append, List.filter_eq_self.2 hne]
      rcases ht with rfl | rfl
      · rw [if_pos rfl]; simp
      · rw [if_neg (by simp)]; simp
    rw [join_tail, List.append_assoc]
    refine key _ ?_
    split
    · exact .inr rfl
    · exact .inl rfl
theorem tailJ_app (K L : List (List UInt8)) : tailJ (K ++ L) = tailJ K ++ tailJ L := by unfold tailJ; rw [List.map_append, List.flatten_append]
theorem out_tail (L : List (List UInt8)) (f : Bool) (h : L ≠ []) : outL (some (L, f)) = tailJ L ++ (if f = true ∧ L ≠ [] then [47] else []) := by
  show 47 :: (Lib.join L [47] ++ (if f = true ∧ L ≠ [] then [47] else [])) = _
  cases L with
  | nil => exact absurd rfl h
  | cons x L => rw [join_tail]; rfl
abbrev fl (t : ByteArray) : List ByteArray := fldB (clOut t)
def jI (t : ByteArray) (id : Nat) (μ : List Nat) (m : Nat) (vs : List Value) (H : AHeap) : Prop :=
  match id with
  | 0 => ∃ (i : Nat) (w : ByteArray), vs = [.string (clOut t), slb 0 (fl t).length, .string w, vi i] ∧ H = cH0 ((fl t).map .string) ∧ clErr t = 0 ∧ i ≤ (fl t).length ∧ tL w = tailJ (((fl t).map tL).take i) ∧ m = (fl t).length - i
  | _ => False
theorem psOne9 : (ptS.ty 9).map (fun i => isAggD i.desc) = some false := by kernel_rfl
theorem wt_take (L : List (List UInt8)) (i : Nat) : wt (L.take i) ≤ wt L := by
  have h : wt L = wt (L.take i) + wt (L.drop i) := by rw [← wt_app, List.take_append_drop]
  omega
theorem wt_filter (p : List UInt8 → Bool) (L : List (List UInt8)) : wt (L.filter p) ≤ wt L := by
  induction L with
  | nil => exact Nat.le_refl _
  | cons x L ih =>
    rw [List.filter_cons, wt_cons]
    split
    · rw [wt_cons]; omega
    · omega
theorem fl_wt (s : ByteArray) : wt ((fldB s).map tL) ≤ s.size + 1 := by
  have h := fldB_list s
  rw [show (fldB s).map tL = fieldsL s.data.toList from h]
  unfold fieldsL
  refine Nat.le_trans (wt_filter _ _) ?_
  rw [splitL_wt, ba_len]
  exact Nat.le_refl _
theorem jseg {t : ByteArray} (ht : t.size ≤ 2097152) (m : Nat) (vs : List Value) (H : AHeap) (hI : jI t 0 [] m vs H) :
    Hd (segA ptS jHint 30 20 7 0 53 jCuts (ofI (jI t)) jB jP [] m [3,6,7,8] vs H (endK ptS [.tmp 2] fun v _ => v = .bool true)) := by
  obtain ⟨i, w, rfl, rfl, h0, hi, hw, rfl⟩ := hI
  have hsz := clOut_tight t
  have hwt : wt ((fl t).map tL) ≤ (clOut t).size + 1 := fl_wt (clOut t)
  have hlen : (fl t).length ≤ (clOut t).size + 1 := fldB_len (clOut t)
  have hwz : w.size ≤ (clOut t).size + 1 := by
    have e : w.size = (tL w).length := (ba_len w).symm
    rw [e, hw, tailJ_wt]
    exact Nat.le_trans (wt_take _ _) hwt
  have s1 : (⟨#[(47 : UInt8)]⟩ : ByteArray).size = 1 := rfl
  constructor
  rw [j0]
  refine ifK_dec (fun h => ?_) (fun h => ?_)
  · have hlt : i < (fl t).length := by omega
    have hp : (fl t)[i]? = some (fl t)[i] := List.getElem?_eq_getElem hlt
    have hnext : tailJ (((fl t).map tL).take (i + 1)) = tailJ (((fl t).map tL).take i) ++ 47 :: tL (fl t)[i] := by
      rw [List.take_add_one, List.getElem?_map, hp, tailJ_app]
      show _ ++ tailJ [tL (fl t)[i]] = _
      congr 1
      unfold tailJ
      simp
    have hw1 : IntKind.wrap IntKind.i64 ((i : Int) + 1) = ((i + 1 : Nat) : Int) := by rw [wr_i64]; omega
    rw [s1]
    refine ifK_dec (fun _ => ?_) (fun h' => absurd (by omega) h')
    refine ifK_dec (fun _ => ?_) (fun h' => absurd ⟨by omega, h⟩ h')
    refine ⟨(fl t)[i], ⟨?_⟩, ?_⟩
    · rw [aload_one psOne9 rfl, List.getElem?_map, show 0 + Int.toNat (i : Int) * 1 = i by rw [Int.toNat_natCast]; omega, hp]; rfl
    have hxz : (fl t)[i].size ≤ (clOut t).size + 1 := by
      have h1 := wt_take ((fl t).map tL) (i + 1)
      rw [← tailJ_wt, hnext, List.length_append, List.length_cons] at h1
      have e : (tL (fl t)[i]).length = (fl t)[i].size := ba_len _
      omega
    rw [hw1, strs_ren]
    refine ifK_dec (fun _ => ?_) (fun h' => absurd (by rw [ByteArray.size_append, s1]; omega) h')
    refine ⟨(fl t).length - (i + 1), by omega, i + 1, _, rfl, rfl, h0, by omega, ?_, rfl⟩
    show (w ++ (⟨#[(47 : UInt8)]⟩ : ByteArray) ++ (fl t)[i]).data.toList = _
    rw [ba_list2, ba_list2, hnext, ← hw, List.append_assoc]
    rfl
  · have hie : i = (fl t).length := by omega
    obtain ⟨L, f, e, hL, _, _, _⟩ := clean_form h0
    have hout : tL (clOut t) = outL (some (L, f)) := e
    have hfl : (fl t).map tL = L := by
      have h1 : (fldB (clOut t)).map tL = fieldsL (tL (clOut t)) := fldB_list (clOut t)
      show (fldB (clOut t)).map tL = L
      rw [h1, hout, fieldsL_clean L f (fun x hx => (hL x hx).1)]
    have hll : (fl t).length = L.length := by rw [← hfl, List.length_map]
    rw [hie, hfl, List.take_of_length_le (by omega)] at hw
    refine ifK_dec (fun hn => ?_) (fun hn => ?_)
    · have hL0 : L = [] := List.length_eq_zero_iff.1 (by omega)
      subst hL0
      refine ifK_t ?_ rfl
      rw [seq_iff']
      show tL (clOut t) = [47]
      rw [hout]
      show 47 :: (Lib.join [] [47] ++ (if f = true ∧ ([] : List (List UInt8)) ≠ [] then [47] else [])) = [47]
      rw [if_neg (fun h => h.2 rfl)]; rfl
    · have hne : L ≠ [] := fun h => hn (by rw [hll, h]; rfl)
      rw [out_tail L f hne] at hout
      by_cases hf : f = true
      · rw [if_pos ⟨hf, hne⟩] at hout
        refine ifK_f ?_ ?_
        · cases hq : seq (clOut t) w with
          | false => rfl
          | true =>
            rw [seq_iff'] at hq
            have h1 := congrArg List.length hq
            have h2 : (clOut t).data.toList.length = (tailJ L ++ [47]).length := congrArg List.length hout
            have h3 : w.data.toList.length = (tailJ L).length := congrArg List.length hw
            have h4 : ([47] : List UInt8).length = 1 := rfl
            rw [List.length_append] at h2
            omega
        · rw [s1]
          refine ifK_dec (fun _ => ?_) (fun h' => absurd (by omega) h')
          refine ifK_t ?_ rfl
          rw [seq_iff', ba_list2]
          show tL (clOut t) = tL w ++ [47]
          rw [hout, hw]
      · rw [if_neg (fun h => hf h.1), List.append_nil] at hout
        refine ifK_t ?_ rfl
        rw [seq_iff']
        show tL (clOut t) = tL w
        rw [hout, hw]
theorem jStart (t : ByteArray) (ht : t.size ≤ 2097152) : Hd (startA ptS jHint 30 20 7 0 53 jCuts (ofI (jI t)) jB ([.string t] ++ List.replicate 52 undef) AHeap.empty (endK ptS [.tmp 2] fun v _ => v = .bool true)) := by
  have hsz := clOut_tight t
  constructor
  rw [jS]
  refine ifK_dec (fun _ => ?_) (fun h' => absurd (by omega) h')
  refine ifK_nd (fun h0 => ?_) (fun h0 => rfl)
  refine ifK_dec (fun _ => ?_) (fun h' => absurd (by omega) h')
  rw [strs_up, strs_ren]
  exact ⟨(fl t).length, trivial, 0, eB, rfl, rfl, h0, Nat.zero_le _, by rw [List.take_zero]; rfl, rfl⟩
end Go.Ev
