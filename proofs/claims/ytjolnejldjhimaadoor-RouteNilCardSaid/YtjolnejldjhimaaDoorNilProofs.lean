/- The law RouteNil answers true at every argument: it is evaluated by an evaluator that is proved right once for all programs; no condition. -/
import Derived.Test.YtjolnejldjhimaaDoorRows
import Derived.Test.YtjolnejldjhimaaDoorBase
import Derived.Test.YtjolnejldjhimaaDoorEvO
import Derived.Test.YtjolnejldjhimaaDoorEvSc
import Derived.WalkKit
import Derived.ProofKit
import Derived.OpenShut
import Derived.Test.YtjolnejldjhimaaDoorCards
import Derived.Test.YtjolnejldjhimaaDoorTie
import Derived.LaidMore
import Derived.Lay
import Derived.SevenTiedAt
import Derived.Stop.Joined
namespace Go.Proofs.YtjolnejldjhimaaDoor.routeNil
open Go.ChangeShapes Go.WideShapes Go.ChangeAt Go.RowKit Go.Ev
set_option linter.unusedVariables false      -- a walk need not use every 'w<i>' (that an integer argument fits its kind)

theorem own : ownKnob Tryd.prog.godebug = none := by kernel_rfl

set_option maxRecDepth 100000
theorem evaluates (a0_0 : ByteArray) (a0_1 : ByteArray) : (rtE.run 600 5 [.agg #[.string a0_0, .string a0_1]] AHeap.empty).map (·.1) = some (.bool true) := by kernel_rfl
theorem walk (a0_0 : ByteArray) (a0_1 : ByteArray) (w : World) :
    Calls Tryd.prog 5 #[.agg #[.string a0_0, .string a0_1]] w fun e w' => e = .returned (.bool true) ∧ Below w.heap.size w w' :=
  law_of' rtT rtF rtS rtM (evaluates a0_0 a0_1) rfl (Rel.empty w) (Own.empty _) (LRel.cons (VRel.agg' (LRel.cons (.string _) (LRel.cons (.string _) (LRel.nil _)))) (LRel.nil _))
theorem laid : laidOutB Tryd.prog = true := by kernel_rfl
theorem readable : ∀ t ∈ Tryd.f5.params.toList, Tryd.prog.readableRec t = true ∧ t < Tryd.prog.types.size := by
  have h : ([37].all fun t => Tryd.prog.readableRec t && decide (t < Tryd.prog.types.size)) = true := by kernel_rfl
  intro t ht
  rw [Tryd.params5] at ht
  have := List.all_eq_true.1 h t (by simpa using ht)
  simpa using this

set_option maxRecDepth 100000 in
theorem lifted (os : Os) (started : os.Started) (H : Type) (enc : TypeId × Value → H) :
    ReturnsInHanded {} Tryd.checked os 5 .any (fun w args => (Rows.routeNilSpec.pre enc Tryd.prog Tryd.f5 Rows.routeNilRow.domain false w args ∧ laidMetH Tryd.prog Rows.routeNilRow.laid w) ∧ sizedMet enc Tryd.prog Tryd.f5 (OpenSpec.ofChange Rows.routeNilSpec) false w args) (Rows.routeNilSpec.post enc Tryd.prog Tryd.f5 false true false false) := by
  refine returnsInHanded_of_change_and (C := Tryd.checked) (X := fun w _ => laidMetH Tryd.prog Rows.routeNilRow.laid w) (fun _ _ _ hh h => h.of_heap hh) own started (by kernel_rfl) Tryd.func5
    (ChangeSpec.witness_shaped (enc := enc) (C := Tryd.checked) (os := os) (X := fun w _ => laidMetH Tryd.prog Rows.routeNilRow.laid w) false (World.laidAll Tryd.prog os Rows.routeNilRow.laid) #[.agg #[.string .empty, .string .empty]] 8 (World.laidAll_os _ _ _)
      (World.shaped_of_ZipB (by kernel_rfl) (by kernel_rfl)) (by kernel_rfl) (by kernel_rfl) (by kernel_rfl)
      (by rw [MakeChecks.laidMetH_plain _ _ _ (by kernel_rfl)]; exact laidMet_laidAll _ (by kernel_rfl) (by kernel_rfl))) ?_
  intro W base args ds gs before hval0 hW hcnd _ hlaid _
  have hval : ∀ (j : Nat) t v, Tryd.f5.params[j]? = some t → args[j]? = some v → Value.okWide Tryd.prog W .any base t v := hval0
  have hW' := hW
  obtain ⟨p, q, hA0, hV, rfl, hfz, hnd⟩ := hW
  have hA : DataW.TrodAll enc Tryd.prog W 0 (fun _ => true) true Tryd.f5.params.toList args.toList ds p := hA0
  rw [Tryd.params5] at hA hval
  obtain ⟨v0, vs0, d0, ds0, p0, q0, hargs, rfl, rfl, h0, r0⟩ := trodAll_cons hA
  obtain ⟨rfl, rfl, rfl⟩ := trodAll_nil r0
  obtain rfl : args = #[v0] := by cases args; simp_all
  obtain ⟨cs0, xs0, n0, rfl, hs0, rfl, _, hl0, hf0⟩ := open_struct Tryd.underlying37 (hval 0 37 v0 rfl rfl) h0
  have hc9 : Tryd.prog.cellsOf 9 = 1 := by kernel_rfl
  have hct : Tryd.prog.cellsOf 37 = 2 := by kernel_rfl
  rw [hct] at hs0
  have hl0' : xs0.length = 2 := hl0
  obtain ⟨a0_0, e0_0, _, _⟩ := field_string Tryd.underlying9 hc9 (o := 0) ((hf0 0 _ rfl).trans (List.getElem?_eq_getElem (by omega)))
  obtain ⟨a0_1, e0_1, _, _⟩ := field_string Tryd.underlying9 hc9 (o := 1) ((hf0 1 _ rfl).trans (List.getElem?_eq_getElem (by omega)))
  obtain rfl : cs0 = #[.string a0_0, .string a0_1] := by
    apply Array.ext_getElem?
    intro j
    by_cases hj : j < 2
    · obtain rfl | rfl : j = 0 ∨ j = 1 := by omega
      · rw [e0_0]; rfl
      · rw [e0_1]; rfl
    · rw [Array.getElem?_eq_none (by omega), Array.getElem?_eq_none (by simp; omega)]
  clear hA0 hval0
  refine (walk a0_0 a0_1 W).mono fun e W' ⟨he, hg⟩ => ?_
  subst he
  exact ⟨_, rfl, post_law laid readable rfl rfl Tryd.underlying4 hW' ⟨rfl, rfl, rfl⟩ hg⟩

theorem over : Rows.routeNilRow.holds Tryd.pinned (OpenSpec.ofChange Rows.routeNilSpec) :=
  OpenClaim.holds_of_wide 5 Tryd.f5 rfl rfl rfl rfl rfl rfl rfl ⟨rfl, rfl, rfl, rfl, rfl⟩ rfl rfl rfl rfl rfl (by kernel_rfl) Tryd.func5 (by kernel_rfl)
    (of_decide_eq_true (by kernel_rfl)) (by unfold Func.isWrapper; first | (rw [if_pos (by decide +kernel)]; kernel_rfl) | (rw [if_neg (by decide +kernel)]; exact ⟨rfl, rfl⟩))
    (fun os started H enc _ => lifted os started H enc)

/-- THE STATEMENT -/
theorem proved : Rows.RouteNilCardSaid :=
  Claim7.holds_tied_plain_at .later [] [.data, .pinned] true (true, "f75a921f60eec88b9dc2092c5c7825f4c3cde267c8093b11fab7cfcbec5b1d15") true over (fun _ h => by cases h) (by kernel_rfl) (fun _ h => by cases h) routeNil_row_tie rfl ⟨rfl, rfl⟩ (by kernel_rfl) rfl
    (fun f fn hf hfn => by
      obtain rfl : f = 5 := Option.some.inj ((show Tryd.prog.funcNamed Rows.routeNilRow.func = some 5 by kernel_rfl).symm.trans hf) |>.symm
      obtain rfl : fn = Tryd.f5 := (Option.some.inj (Tryd.func5.symm.trans hfn)).symm
      exact ⟨by kernel_rfl, fun j t ht => by
        rw [Tryd.params5] at ht
        have hm : t ∈ [37] := by simpa using Array.mem_of_getElem? ht
        have hall : ([37].all fun u => !Tryd.prog.wantsStandIn u) = true := by kernel_rfl
        exact (show Tryd.prog.wantsStandIn t = false by simpa using List.all_eq_true.1 hall t hm)⟩)
    (by kernel_rfl)
#print axioms proved
end Go.Proofs.YtjolnejldjhimaaDoor.routeNil
