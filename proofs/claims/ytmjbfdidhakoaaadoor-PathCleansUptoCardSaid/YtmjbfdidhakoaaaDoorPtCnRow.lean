/- The law PathCleans answers true at every argument of the second form; no condition but that form's own bound. -/
import Derived.Test.YtmjbfdidhakoaaaDoorRows
import Derived.Test.YtmjbfdidhakoaaaDoorPtMi
import Derived.WalkKit
import Derived.ProofKit
import Derived.OpenShut
import Derived.Test.YtmjbfdidhakoaaaDoorPtBulk
import Derived.JoinedCond
import Derived.Deep.DeepHandedRow
import Derived.Test.YtmjbfdidhakoaaaDoorCards
import Derived.Test.YtmjbfdidhakoaaaDoorTie
import Derived.LaidMore
import Derived.Lay
import Derived.SevenTiedAt
import Derived.Stop.Joined
namespace Go.Proofs.YtmjbfdidhakoaaaDoor.pathCleans
open Go.ChangeShapes Go.WideShapes Go.ChangeAt Go.RowKit Go.Ev
set_option linter.unusedVariables false
set_option maxRecDepth 100000

theorem own : ownKnob Tryd.prog.godebug = none := by kernel_rfl
theorem laid : laidOutB Tryd.prog = true := by kernel_rfl
theorem readable : ∀ t ∈ Tryd.f3.params.toList, Tryd.prog.readableRec t = true ∧ t < Tryd.prog.types.size := by
  have h : (Tryd.f3.params.toList.all fun t => Tryd.prog.readableRec t && decide (t < Tryd.prog.types.size)) = true := by kernel_rfl
  intro t ht
  have := List.all_eq_true.1 h t ht
  simpa using this
theorem bodyF : Tryd.f3.body = some (bodyOf Tryd.prog 3) := by kernel_rfl
theorem nt : Tryd.f3.ntmps = 100 := by kernel_rfl
theorem rs : Tryd.f3.results.toList = [.tmp 2] := by kernel_rfl
theorem drawn : allDraw (ptH.ok 3) (bodyOf Tryd.prog 3) = true := by kernel_rfl
theorem walk (a0 : ByteArray) (ha0 : a0.size ≤ 1048576) (W : World) :
    Calls Tryd.prog 3 #[.string a0] W fun e w' => e = .returned (.bool true) ∧ Below W.heap.size W w' := by
  refine law_cuts (E := ptH) phT phF phO phM cnHint (f := 3) (k := 30) (n := 20) Tryd.func3 bodyF nt rs drawn (cuts := cnCuts) (I := cnI (fldB a0)) (args := [.string a0])
    (Rel.empty W) (Own.empty _) (LRel.cons (.string _) (LRel.nil _)) (cnStart a0 (by omega)) ?_
  have hl : (fldB a0).length ≤ 1000000000000 := by have := fldB_len a0; omega
  refine ⟨⟨?_, ?_, trivial⟩, ⟨?_, ?_, trivial⟩, trivial⟩
  · intro ms hms m vs H hi
    obtain rfl := List.eq_nil_of_length_eq_zero (hms.trans (show loopsOn cnP1 cnB = 0 by kernel_rfl))
    exact cnseg1 hl m vs H hi
  · intro ms hms m vs H hi
    obtain rfl := List.eq_nil_of_length_eq_zero (hms.trans (show loopsOn cnP1 cnB = 0 by kernel_rfl))
    exact cnseg0 m vs H hi
  · intro ms hms m vs H hi
    obtain rfl := List.eq_nil_of_length_eq_zero (hms.trans (show loopsOn cnP2 cnB = 0 by kernel_rfl))
    exact cnseg3 hl m vs H hi
  · intro ms hms m vs H hi
    obtain rfl := List.eq_nil_of_length_eq_zero (hms.trans (show loopsOn cnP2 cnB = 0 by kernel_rfl))
    exact cnseg2 m vs H hi
noncomputable def lw (os : Os) : World := World.laidAll Tryd.prog os Rows.pathCleansUptoRow.laid
theorem reads (os : Os) {H : Type} (enc : TypeId × Value → H) : ∃ places, DataW.whole enc Tryd.prog ((lw os).forCall (fun _ _ => 0) ⟨#[], #[.string .empty], []⟩).memory Tryd.f3.params.toList Rows.pathCleansSpec.vars false #[.string .empty].toList 8 = some ([.lit (.string [])], [], places) :=
  ⟨[], by kernel_rfl⟩
set_option maxRecDepth 100000 in
theorem lifted (os : Os) (started : os.Started) (H : Type) (enc : TypeId × Value → H) (F : Stop.Interp) :
    ReturnsInHanded {} Tryd.checked os 3 .any ((Rows.OpenSpec.upto Rows.pathCleansSpec).preRow enc Tryd.prog Tryd.f3 Rows.pathCleansUptoRow.domain false Rows.pathCleansUptoRow.laid) (((Rows.OpenSpec.upto Rows.pathCleansSpec).at F).post enc Tryd.prog Tryd.f3 false true false false) := by
  obtain ⟨places, hx⟩ := reads os enc
  refine returnsInHanded_of_row (C := Tryd.checked) (s := Rows.OpenSpec.upto Rows.pathCleansSpec) own started (by kernel_rfl) Tryd.func3
    (witness_row_at (enc := enc) (C := Tryd.checked) false (lw os) #[.string .empty] (World.laidAll_os _ _ _) (by kernel_rfl) (by kernel_rfl) (by kernel_rfl)
      (OpenSpec.preRow_of_cond 8 hx (by kernel_rfl) (fun k hk => by cases hk; kernel_rfl) (by kernel_rfl) (by rw [MakeChecks.laidMetH_plain _ _ _ (by kernel_rfl)]; exact laidMet_laidAll _ (by kernel_rfl) (by kernel_rfl)))) ?_
  intro W base args ds gs before hval0 hW _ hcond _ hL _ _
  have hk := hcond _ rfl
  have hval : ∀ (j : Nat) t v, Tryd.f3.params[j]? = some t → args[j]? = some v → Value.okWide Tryd.prog W .any base t v := hval0
  have hW' := hW
  obtain ⟨p, q, hA0, hV, rfl, hfz, hnd⟩ := hW
  have hA : DataW.TrodAll enc Tryd.prog W 0 (fun _ => true) true Tryd.f3.params.toList args.toList ds p := hA0
  rw [Tryd.params3] at hA hval
  obtain ⟨v0, vs0, d0, ds0, p0, q0, hargs0, rfl, rfl, h0, r0⟩ := trodAll_cons hA
  obtain ⟨rfl, rfl, rfl⟩ := trodAll_nil r0
  obtain rfl : args = #[v0] := by cases args; simp_all
  have b1 := bulks.bound hk
  obtain ⟨a0, rfl, rfl, rfl, w0⟩ := ChangeMaps.open_string Tryd.underlying9 (hval 0 9 v0 rfl rfl) h0
  have c0 := Nat.le_trans (bulks.part_le (d := DataW.lit (H := H) (.string a0.data.toList)) List.mem_cons_self) b1
  rw [bulks.string_eq, ba_len] at c0
  refine (walk a0 (by omega) W).mono fun e W' ⟨he, hg⟩ => ?_
  subst he
  exact ⟨_, rfl, post_law laid readable rfl rfl Tryd.underlying4 hW' ⟨rfl, rfl, rfl⟩ hg⟩

theorem over : Rows.pathCleansUptoRow.holds Tryd.pinned (Rows.OpenSpec.upto Rows.pathCleansSpec) :=
  OpenClaim.holds_of_cond 3 Tryd.f3 rfl rfl rfl rfl rfl rfl rfl ⟨rfl, rfl, rfl, rfl, rfl⟩ rfl rfl rfl rfl rfl (by kernel_rfl) Tryd.func3 (by kernel_rfl)
    (of_decide_eq_true (by kernel_rfl)) (by unfold Func.isWrapper; first | (rw [if_pos (by decide +kernel)]; kernel_rfl) | (rw [if_neg (by decide +kernel)]; exact ⟨rfl, rfl⟩))
    (fun os started H enc _ F => by rw [OpenClaim.pre_eq_preRow]; exact lifted os started H enc F)
theorem plain (f : FuncId) (fn : Func) (hf : Tryd.pinned.checked.prog.funcNamed Rows.pathCleansUptoRow.func = some f) (hfn : Tryd.pinned.checked.prog.funcs[f]? = some fn) :
    false = Tryd.pinned.checked.prog.looks [] ∧ ∀ (j : Nat) t, fn.params[j]? = some t → Tryd.pinned.checked.prog.wantsStandIn t = false := by
  obtain rfl : f = 3 := Option.some.inj ((show Tryd.prog.funcNamed Rows.pathCleansUptoRow.func = some 3 by kernel_rfl).symm.trans hf) |>.symm
  obtain rfl : fn = Tryd.f3 := (Option.some.inj (Tryd.func3.symm.trans hfn)).symm
  refine ⟨by kernel_rfl, fun j t ht => ?_⟩
  rw [Tryd.params3] at ht
  obtain rfl : t = 9 := by simpa using Array.mem_of_getElem? ht
  exact (show Tryd.prog.wantsStandIn 9 = false by kernel_rfl)
/-- The statement. -/
theorem proved : Rows.PathCleansUptoCardSaid :=
  Claim7.holds_tied_plain_at .later [] _ _ _ _ over (fun _ h => by cases h) (by kernel_rfl) (fun _ h => by cases h) pathCleansUpto_row_tie rfl ⟨rfl, rfl⟩ (by kernel_rfl) rfl plain (by kernel_rfl)
#print axioms proved
end Go.Proofs.YtmjbfdidhakoaaaDoor.pathCleans

