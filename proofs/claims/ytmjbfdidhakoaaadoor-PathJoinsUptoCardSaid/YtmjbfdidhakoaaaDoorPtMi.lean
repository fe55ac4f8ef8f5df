/- path.Parts' own predicate: what it comes to; no condition. -/
import Derived.Test.YtmjbfdidhakoaaaDoorPtMf
import Derived.Test.YtmjbfdidhakoaaaDoorPtMh
import Derived.Test.YtmjbfdidhakoaaaDoorPtLy
namespace Go.Ev
open Go Go.Proofs Go.RowKit
set_option linter.unusedVariables false
set_option maxRecDepth 100000
set_option maxHeartbeats 4000000
theorem slR (x : Int) (K : Value → Prop) :
   evalK ptA (fun _ _ => none) 30 24 [.int .i32 x] AHeap.empty (fun v _ => K v)
   = (ifK (decide (x = (47 : Int))) (K (Value.bool true)) (K (Value.bool false))) := by kernel_rfl
end Go.Ev

/- The summary of strings.FieldsFunc at path.Parts' own predicate. -/
namespace Go.Ev
open Go Go.Proofs Go.RowKit
set_option linter.unusedVariables false
set_option linter.unusedSimpArgs false
set_option maxRecDepth 100000
set_option maxHeartbeats 4000000
def slG : List Value → Option (Bool × Value)
  | [.int .i32 x] => some (true, .bool (decide (x = 47)))
  | _ => none
theorem post_below {w w' : World} {e : Ending} {b : Bool} (h : Post (fun _ => none) AHeap.empty w (.bool b) AHeap.empty e w') : e = .returned (.bool b) ∧ Below w.heap.size w w' := by
  obtain ⟨V, ρ', he, hR, hS, hv⟩ := h
  have hv' : V = .bool b := by cases hv; rfl
  subst hv'
  refine ⟨he, hS.os, hS.tape, hS.output, hS.size, fun k hk => hS.same k hk ?_⟩
  exact Own.empty _ k
/-- A new row that lies somewhere in what is new. -/
theorem post_own {w w' : World} {cs : List Value} {e : TypeId} {n A : Nat} (hA : w.heap.size ≤ A) (ho : w'.ownsRow w.heap.size e 1 (.slice (some ⟨A, 0, none⟩) n n) n cs) (hb : Below w.heap.size w w')
    (hc : LRel (fun _ => none) cs cs) (h1 : ∀ v ∈ cs, one v = true) (hn : n ≤ 9223372036854775807) :
    Post (fun _ => none) AHeap.empty w (.slice (some ⟨0, 0, none⟩) n n) (pushes AHeap.empty [.cells cs ⟨1, some e, true⟩ .live []]) (.returned (.slice (some ⟨A, 0, none⟩) n n)) w' := by
  obtain ⟨hl, ho | ⟨g, cap, cur, hv, hg, hh, h2, h3, h4, h5⟩⟩ := ho
  · cases ho.1
  · have hv1 : A = g := by injection hv with h6; injection h6 with h6; injection h6
    have hv2 : n = cap := by injection hv
    subst hv1 hv2
    rw [Nat.mul_one] at h4 h5 hl
    have hcur : cur.toList = cs := by rw [List.take_of_length_le (by rw [Array.length_toList]; omega)] at h5; exact h5
    let l : Loc := ⟨A, 0, cur.size, 1⟩
    have hAl : A < w'.heap.size := (Array.getElem?_eq_some_iff.1 hh).1
    have hO : ORel (Ren.upd (fun _ => none) 0 l) w' l (.cells cs ⟨1, some e, true⟩ .live []) := by
      refine ⟨cur, e, (0, 0), hh, rfl, ⟨rfl, fun _ h => Option.some.inj h, fun _ => rfl⟩, ?_, fun i _ _ => by omega⟩
      intro i y hy
      have hi : i < cs.length := (List.getElem?_eq_some_iff.1 hy).1
      refine ⟨y, ?_, h1 y (List.mem_of_getElem? hy), (hc.2 i y y hy hy).mono (fun b l h => by cases h)⟩
      show cur[0 + i]? = some y
      rw [Nat.zero_add, ← Array.getElem?_toList, hcur]; exact hy
    refine ⟨_, Ren.upd (fun _ => none) 0 l, rfl, ?_, ?_, ?_⟩
    · refine { bd := ?_, obj := ?_, excl := ?_ }
      · intro b k hbk
        rcases Ren.upd_inv hbk with ⟨rfl, rfl⟩ | ⟨_, hk⟩
        · exact ⟨by show 0 < 1; omega, hAl⟩
        · cases hk
      · intro b k o hbk hg'
        rcases Ren.upd_inv hbk with ⟨rfl, rfl⟩ | ⟨_, hk⟩
        · have : o = .cells cs ⟨1, some e, true⟩ .live [] := by
            have e : (pushes AHeap.empty [.cells cs ⟨1, some e, true⟩ .live []]).get 0 = some (.cells cs ⟨1, some e, true⟩ .live []) := rfl
            rw [e] at hg'
            exact (Option.some.inj hg').symm
          subst this
          exact hO
        · cases hk
      · intro b k o anc b' k' o' hbk _ _ hbk' _ _ hne _
        rcases Ren.upd_inv hbk with ⟨rfl, rfl⟩ | ⟨_, hk⟩
        · rcases Ren.upd_inv hbk' with ⟨rfl, rfl⟩ | ⟨_, hk⟩
          · exact absurd rfl hne
          · cases hk
        · cases hk
    · refine { le := fun b l h => (by cases h), keep := fun b hb => absurd hb (by show ¬ b < 0; omega), hs := Nat.zero_le _, os := hb.os, tape := hb.tape, output := hb.output, size := hb.size, own := ?_, same := fun B hB _ => hb.block B hB }
      rintro B hB ⟨b, k, o, hbk, rfl, _, _⟩
      rcases Ren.upd_inv hbk with ⟨rfl, rfl⟩ | ⟨_, hk⟩
      · exact absurd hB (by show ¬ A < w.heap.size; omega)
      · cases hk
    · refine .slice 0 0 n n l n _ (Ren.upd_eq _ _ _) (Nat.le_refl _) ⟨Nat.le_refl _, hn⟩ (fun _ => ?_) (fun _ => rfl)
      show 0 + 0 + n * 1 ≤ cur.size
      omega
theorem sl_ok : SumOk ptA.P 24 (pureS slG) := by
  refine sumOk_evalK paT paF paO paM (fun _ _ => none) 30 Tryd.func24 (by kernel_rfl) (by decide) fun args v hg => ?_
  unfold slG at hg
  split at hg
  case h_2 => cases hg
  rename_i x
  simp only [Option.some.injEq, Prod.mk.injEq, true_and] at hg
  subst hg
  refine ⟨rfl, rfl, ?_⟩
  rw [slR]
  exact ifK_dec (fun h => by rw [decide_eq_true h]) (fun h => by rw [decide_eq_false h])
theorem sl_pred (w : World) : PredGrows Tryd.prog 24 #[] isSl w := by
  intro W x _ _
  have h := (sl_ok [.int .i32 (x : Int)] AHeap.empty (.bool (decide ((x : Int) = 47))) AHeap.empty rfl).2.2 (fun _ => none) W #[.int .i32 (x : Int)] (Rel.empty W) (LRel.cons (.int _ _) (LRel.nil _))
  have e : decide ((x : Int) = 47) = isSl x := by
    by_cases hx : x = 47
    · subst hx; rfl
    · rw [decide_eq_false (by omega)]; exact (decide_eq_false hx).symm
  refine h.mono fun e' w' hp => ?_
  rw [e] at hp
  exact post_below hp
/-- The fields between slashes. -/
def fldB (s : ByteArray) : List ByteArray := Lib.goFieldsP isSl s
theorem fldB_list (s : ByteArray) : (fldB s).map (·.data.toList) = fieldsL s.data.toList := fields_law s
def ffSpec : List Value → SpR
  | [.string s, .func (.func 24) ⟨[]⟩ ⟨[]⟩] => .ret (decide (s.size ≤ 100000000)) (.slice (some ⟨0, 0, none⟩) (fldB s).length (fldB s).length) [.cells ((fldB s).map Value.string) ⟨1, some 9, true⟩ .live []]
  | _ => .fail
theorem splitL_len (l : List UInt8) : (splitL l).length ≤ l.length + 1 := by
  induction l with
  | nil => exact Nat.le_refl _
  | cons b l ih =>
    by_cases hb : b = 47
    · subst hb; rw [splitL_slash, List.length_cons, List.length_cons]; omega
    · obtain ⟨x, xs, h1, h2⟩ := splitL_byte hb l
      rw [h1, List.length_cons] at ih
      rw [h2, List.length_cons, List.length_cons]; omega
theorem fldB_len (s : ByteArray) : (fldB s).length ≤ s.size + 1 := by
  have h := congrArg List.length (fldB_list s)
  rw [List.length_map] at h
  rw [h]
  have h2 : (fieldsL s.data.toList).length ≤ (splitL s.data.toList).length := List.length_filter_le _ _
  have h3 := splitL_len s.data.toList
  rw [ba_len] at h3
  omega
theorem ff_ok : BSumOk Tryd.prog 23 (newS ffSpec) := by
  refine sumOk_new Tryd.func23 (by kernel_rfl) (by decide) fun args v os hs w cargs ha => ?_
  unfold ffSpec at hs
  split at hs
  case h_2 => cases hs
  rename_i s
  simp only [SpR.get, Option.some.injEq, Prod.mk.injEq, decide_eq_true_eq] at hs
  obtain ⟨hs, rfl, rfl⟩ := hs
  obtain ⟨S, T1, e1, hS, r1⟩ := ha.cons_left
  obtain ⟨C, T2, e2, hC, r2⟩ := r1.cons_left
  obtain rfl := r2.nil_left
  subst e2
  obtain rfl := hS.string_inv
  have hC' : C = .func (.func 24) #[] #[] := by
    cases hC with
    | func fn fs gs cs ds hf hc h1 h2 =>
      have g1 : gs = #[] := Array.eq_empty_of_size_eq_zero hf.symm
      have g2 : ds = #[] := Array.eq_empty_of_size_eq_zero hc.symm
      rw [g1, g2]
  subst hC'
  have : cargs = #[.string s, .func (.func 24) #[] #[]] := by apply Array.ext'; simpa using e1
  subst this
  have hlen := fldB_len s
  refine (Any.strings_FieldsFunc_grows Tryd.l229 24 #[] (Go.Proofs.enters_of Tryd.func24 (by kernel_rfl) rfl) isSl s w (by omega) (sl_pred w) (by kernel_rfl) (by kernel_rfl)).mono ?_
  rintro e w' ⟨A, rfl, hA, ho, hb⟩
  exact post_own (cs := (fldB s).map Value.string) hA ho hb (strs_rel _) (by simp [one]) (by show (fldB s).length ≤ _; omega)
noncomputable def psSumms : List (Nat × BSumm) := (23, newS ffSpec) :: prSumms
theorem psSO : BSumsOk Tryd.prog psSumms := ⟨ff_ok, prSO⟩
noncomputable def ptS : Env := mkEnvB Tryd.prog ptPlans ptExts fun f => look f psSumms
theorem psT : ptS.TOk := tOkB_of (by kernel_rfl) ptX
theorem psF : ptS.FOk ptS.ok := fOkB_of (by kernel_rfl)
theorem psO : ptS.SOk := sOkB_of psSO
theorem psM : ptS.P.follows .mixedOrders = true := by kernel_rfl
end Go.Ev
