/- Regions whose order is drawn: the theorem. -/
import Derived.Test.YtkomaolfjmgppaaDoorEvT
namespace Go.Ev
open Go
set_option linter.unusedVariables false
set_option linter.unusedSectionVars false
set_option linter.unusedSimpArgs false

def Lst (listed : Array Bool) : Nat → Prop := fun i => listed.getD i false = true

theorem getD_same {listed : Array Bool} {i : Nat} (h : i < listed.size) : listed.getD i true = listed.getD i false := by
  simp [Array.getD, h]

theorem all_of_ready {E : Env} {ops : Array Oper} {order : List (Nat × List Nat)} (hp : Plan E ops order) {listed : Array Bool} (hs : listed.size = ops.size)
    (h : Region.ready .any ops listed = []) : ∀ i, i < ops.size → Lst listed i := by
  intro i
  induction i using Nat.strongRecOn with
  | _ i ih =>
    intro hi
    cases hl : listed.getD i false with
    | true => exact hl
    | false =>
      exfalso
      have : i ∈ Region.ready .any ops listed := by
        unfold Region.ready
        rw [List.mem_filter]
        refine ⟨List.mem_range.2 hi, ?_⟩
        rw [getD_same (by omega), hl, Array.getElem?_eq_getElem hi]
        simp only [Bool.not_false, Option.map_some, Option.getD_some, Bool.true_and]
        rw [Array.all_eq_true_iff_forall_mem]
        intro e he
        cases hb : Region.binds .any e with
        | false => simp
        | true =>
          have hlt := hp.back i ops[i] (Array.getElem?_eq_getElem hi) e (Array.mem_toList_iff.2 he) hb
          have := ih e.on hlt (by omega)
          simp only [Lst] at this
          simp [this]
      rw [h] at this
      simp at this

theorem adraw_ok {E : Env} (hT : E.TOk) (hm : E.P.follows .mixedOrders = true) (call : Caller) (hC : CallOk E.P call) (f : FuncId) :
    DrawOk E.P (adraw E call f) (fun id ops => match E.plan f id with | some pl => planOk E ops pl | none => true) := by
  have hSz : SizeOk call := fun g a H v H' h => (hC g a H v H' h).2.1
  refine ⟨?_, ?_⟩
  · intro id ops tm H tm' H' h
    unfold adraw at h
    split at h
    · obtain ⟨T, WF, t⟩ := adrawGo_tr _ _ _ _ _ _ h
      exact (t.size hSz).1
    · cases h
  · intro id ops tm H tm' H' hok h ρ w a hR ht hd
    unfold adraw at h
    split at h
    case h_2 => cases h
    rename_i order hpl
    simp only [hpl] at hok
    have hp := plan_of hok
    obtain ⟨T, WF, hW⟩ := adrawGo_tr _ _ _ _ _ _ h
    have hops := hW.ops_at
    have hidx := hW.idx
    have hρ0 : ∀ b, H.size ≤ b → ρ b = none := by
      intro b hb
      cases hx : ρ b with
      | none => rfl
      | some l => have := (hR.bd b l hx).1; omega
    have hRd : Rel ρ H w.drew := hR.heap rfl
    refine wp_region_any hm ?_
    show wpAny E.P .any ops _ ops.size (Array.replicate ops.size false) a w.drew
    -- all steps
    have key : ∀ (fuel : Nat) (listed : Array Bool) (a : Act) (w1 : World), listed.size = ops.size →
        (∃ A C o1 o2 W1 tm1 H1 ρ1, Inv E call ops order T tm H WF tm' H' ρ w.drew (Lst listed) a w1 A C o1 o2 W1 tm1 H1 ρ1) →
        (∀ q ∈ T, Lst listed q.i → ∀ j, pb ops q.i j = true → Lst listed j) → ((List.range ops.size).filter fun i => !listed.getD i true).length ≤ fuel →
        wpAny E.P .any ops (Behind ρ H w .normal tm' H') fuel listed a w1 := by
      have fin : ∀ (listed : Array Bool) (a : Act) (w1 : World), listed.size = ops.size →
          (∃ A C o1 o2 W1 tm1 H1 ρ1, Inv E call ops order T tm H WF tm' H' ρ w.drew (Lst listed) a w1 A C o1 o2 W1 tm1 H1 ρ1) →
          Region.ready .any ops listed = [] → Behind ρ H w .normal tm' H' .normal a w1 := by
        rintro listed a w1 hsz ⟨A, C, o1, o2, W1, tm1, H1, ρ1, hI⟩ hr
        have hall := all_of_ready hp hsz hr
        have hCn : C = [] := by
          cases C with
          | nil => rfl
          | cons x C' =>
            exfalso
            have hx := hI.rest x (by simp)
            have hxT : x ∈ T := by rw [hI.split]; simp
            exact hx (hall x.i (Array.getElem?_eq_some_iff.1 (hops x hxT)).1)
        subst hCn
        have t2 := hI.t2
        cases t2
        refine ⟨ρ1, rfl, hI.rel, (Step.drew ρ H w).trans hI.step, ⟨?_, ?_⟩, hI.defers⟩
        · rw [hW.len]; simpa using hI.temps.1.symm
        · intro t u V hu hV
          rw [Array.getElem?_toList] at hV
          obtain ⟨h1, h2⟩ := hI.temps.2 t V hV
          have hlt : t < tm.length := by rw [← hW.len]; exact (List.getElem?_eq_some_iff.1 hu).1
          by_cases hw : ∃ q ∈ T, q.o.dst = some t
          · obtain ⟨q, hq, hqd, hqv⟩ := hW.tm_some hlt hw
            rw [hqv] at hu
            injection hu with hu
            subst hu
            exact h1 q hq (hall q.i (Array.getElem?_eq_some_iff.1 (hops q hq)).1) hqd
          · rw [hW.tm_none fun q hq hqd => hw ⟨q, hq, hqd⟩] at hu
            exact h2 (fun q hq _ hqd => hw ⟨q, hq, hqd⟩) u hu
      intro fuel
      induction fuel with
      | zero =>
        intro listed a w1 hsz hI hdc hc
        have hr : Region.ready .any ops listed = [] := by
          have h0 : (List.range ops.size).filter (fun i => !listed.getD i true) = [] := List.length_eq_zero_iff.1 (by omega)
          unfold Region.ready
          rw [List.filter_eq_nil_iff] at h0 ⊢
          intro i hi
          have := h0 i hi
          simp at this
          simp [this]
        exact ⟨hr, fin listed a w1 hsz hI hr⟩
      | succ fuel ih =>
        intro listed a w1 hsz hI hdc hc
        refine ⟨fin listed a w1 hsz hI, fun i hi => ?_⟩
        unfold Region.ready at hi
        rw [List.mem_filter] at hi
        obtain ⟨hi1, hi2⟩ := hi
        have hin := List.mem_range.1 hi1
        rw [Array.getElem?_eq_getElem hin] at hi2
        simp only [Option.map_some, Option.getD_some, Bool.and_eq_true, Bool.not_eq_true'] at hi2
        obtain ⟨hnl, hedges⟩ := hi2
        have hnl' : ¬ Lst listed i := by
          rw [getD_same (by omega)] at hnl
          simp [Lst, hnl]
        obtain ⟨A, C, o1, o2, W1, tm1, H1, ρ1, hI⟩ := hI
        have hpre : ∀ j, pb ops i j = true → Lst listed j := by
          intro j hb
          obtain ⟨o, ho, e, he, hbi, hj⟩ := before_spec hb
          have hoe : o = ops[i] := by rw [Array.getElem?_eq_getElem hin] at ho; injection ho with ho; exact ho.symm
          subst hoe
          rw [Array.all_eq_true_iff_forall_mem] at hedges
          have h1 := hedges e (Array.mem_toList_iff.1 he)
          rw [hbi] at h1
          have h1' : Lst listed e.on := by simpa [Lst] using h1
          rcases hj with hj | hj
          · rw [← hj]; exact h1'
          · have hlt : e.on < ops.size := by have := hp.back i _ (Array.getElem?_eq_getElem hin) e he hbi; omega
            have := hp.full e.on hlt
            rw [← hidx, List.mem_map] at this
            obtain ⟨q, hq, hqe⟩ := this
            exact hdc q hq (by rw [hqe]; exact h1') j (by rw [hqe]; exact hj)
        have hL' : ∀ j, Lst (listed.setIfInBounds i true) j ↔ (Lst listed j ∨ j = i) := by
          intro j
          unfold Lst
          rw [Array.getD_eq_getD_getElem?, Array.getD_eq_getD_getElem?, Array.getElem?_setIfInBounds]
          by_cases e : i = j
          · subst e
            rw [if_pos rfl, if_pos (by omega)]
            simp
          · rw [if_neg e]
            constructor
            · intro h; exact .inl h
            · rintro (h | h)
              · exact h
              · exact absurd h.symm e
        refine inv_step hT hC hp hW hI hρ0 hdc hin hnl' hpre hL' fun a' w' A' C' o1' o2' W1' tm1' H1' ρ' hI' => ?_
        refine ih (listed.setIfInBounds i true) a' w' (by simpa using hsz) ⟨A', C', o1', o2', W1', tm1', H1', ρ', hI'⟩ ?_ ?_
        · intro q hq hLq j hb
          rcases (hL' q.i).1 hLq with h | h
          · exact (hL' j).2 (.inl (hdc q hq h j hb))
          · rw [h] at hb; exact (hL' j).2 (.inl (hpre j hb))
        · have hsub : ((List.range ops.size).filter fun j => !(listed.setIfInBounds i true).getD j true) =
              ((List.range ops.size).filter fun j => !listed.getD j true).filter fun j => j != i := by
            rw [List.filter_filter]
            refine List.filter_congr fun j hj => ?_
            rw [Array.getD_eq_getD_getElem?, Array.getD_eq_getD_getElem?, Array.getElem?_setIfInBounds]
            by_cases e : i = j
            · subst e; rw [if_pos rfl, if_pos (by omega)]; simp
            · rw [if_neg e]
              have : (j != i) = true := by simp; exact fun h => e h.symm
              simp [this]
          rw [hsub]
          have hlt : (((List.range ops.size).filter fun j => !listed.getD j true).filter fun j => j != i).length < ((List.range ops.size).filter fun j => !listed.getD j true).length := by
            rw [List.length_filter_lt_length_iff_exists]
            exact ⟨i, by rw [List.mem_filter]; exact ⟨hi1, by simp [hnl]⟩, by simp⟩
          omega
    -- the beginning
    obtain ⟨Seg, D, hTD, hseg, hD⟩ := span_eff (fun x => isEff E x.o.op) T
    have hno : ∀ i, ¬ Lst (Array.replicate ops.size false) i := by
      intro i
      unfold Lst
      rw [Array.getD_eq_getD_getElem?, Array.getElem?_replicate]
      split <;> simp
    have hW2 := hW
    rw [hTD] at hW2
    obtain ⟨o1, o2, W1, tm1, H1, ho, t1, t2⟩ := hW2.split
    obtain ⟨x1, x2⟩ := ext_way (hp := hp.good) t1 hseg
    obtain ⟨y1, y2⟩ := hRd.ext x1 x2
    refine key ops.size (Array.replicate ops.size false) a w.drew (by simp) ⟨Seg, D, o1, o2, W1, tm1, H1, ρ, hTD, ho, t1, t2, ?_, fun r _ => hno r.i, hD, y1, y2, ?_, ?_, hd⟩ (fun q _ h => absurd h (hno q.i)) ?_
    · intro r hr he; rw [hseg r hr] at he; cases he
    · intro q hq hk hqw _ b hb
      obtain ⟨S1, S2, rfl⟩ := List.append_of_mem hq
      obtain ⟨p1, p2, V1, u1, G1, hpp, s8, s9⟩ := t1.split (A := S1) (C := q :: S2)
      obtain ⟨_, _, _, _, _, _, _, hh2⟩ := s9.head
      rcases hh2 with ⟨h1, _⟩ | ⟨_, hs2, _, s10⟩
      · rw [h1] at hqw; cases hqw
      · rw [astep_aop (eff_false (by rw [hk]; simp))] at hs2
        obtain ⟨obj, e1, e2⟩ := aop_allocH hk hs2
        have hge := (s8.size hSz).1
        rw [e2] at hb
        injection hb with hb
        exact hρ0 b (by omega)
    · refine ⟨by have := ht.1; simpa using this.symm, fun t V hV => ⟨fun r _ h => absurd h (hno r.i), fun _ u hu => ht.2 t u V hu (by rw [Array.getElem?_toList]; exact hV)⟩⟩
    · exact Nat.le_trans (List.length_filter_le _ _) (by simp)

/-- The functions of a program as they are evaluated. -/
noncomputable def Env.run (E : Env) (k : Nat) : Caller := evalF E (adraw E) k
def Env.ok (E : Env) : FuncId → Nat → Array Oper → Bool := fun f id ops => match E.plan f id with | some pl => planOk E ops pl | none => true

/-- What the evaluation says of a call, the model does. -/
theorem run_ok {E : Env} (hT : E.TOk) (hF : E.FOk E.ok) (hS : E.SOk) (hm : E.P.follows .mixedOrders = true) (k : Nat) : CallOk E.P (E.run k) :=
  evalF_ok hT hF hS (fun call hC f => adraw_ok hT hm call hC f) k
end Go.Ev
