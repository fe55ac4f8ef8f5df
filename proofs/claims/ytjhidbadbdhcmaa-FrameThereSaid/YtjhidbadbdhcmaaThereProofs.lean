/- The law FrameThere answers true at every argument: its walk, its arguments, its row; no condition but the form's own. -/
import Derived.Test.YtjhidbadbdhcmaaRows
import Derived.Test.YtjhidbadbdhcmaaFrThP
import Derived.Test.YtjhidbadbdhcmaaEvSf
import Derived.Test.YtjhidbadbdhcmaaEvO
import Derived.WalkKit
import Derived.ProofKit
import Derived.OpenShut
import Derived.SizedLaws
namespace Go.Proofs.Ytjhidbadbdhcmaa.frameThere
open Go.ChangeShapes Go.WideShapes Go.ChangeAt Go.RowKit Go.Ev
set_option linter.unusedVariables false

theorem own : ownKnob Try.prog.godebug = none := by kernel_rfl

set_option maxRecDepth 100000
theorem run_of {E : Env} {hint : FuncId → Tmp → Option Hint} {k : Nat} {f : FuncId} {args : List Value} (h : Evals E hint k f args) : ∃ v H', E.run k f args AHeap.empty = some (v, H') ∧ v = .bool true :=
  evalK_ok E hint k _ _ _ _ h.h
theorem walk (a0 : ByteArray) (h_a0 : a0.size ≤ 140737488355327)  (w : World) :
    Calls Try.prog 9 #[.string a0] w fun e w' => e = .returned (.bool true) ∧ Below w.heap.size w w' := by
  obtain ⟨v, H', h1, h2⟩ := run_of ((fun s h => Go.Ev.there s h) a0 h_a0)
  exact law_of fnT fnF fnS fnM h1 h2 (Rel.empty w) (Own.empty _) (LRel.cons (.string _) (LRel.nil _))
theorem laid : laidOutB Try.prog = true := by kernel_rfl
theorem readable : ∀ t ∈ Try.f9.params.toList, Try.prog.readableRec t = true ∧ t < Try.prog.types.size := by
  have h : ([9].all fun t => Try.prog.readableRec t && decide (t < Try.prog.types.size)) = true := by kernel_rfl
  intro t ht
  rw [Try.params9] at ht
  have := List.all_eq_true.1 h t (by simpa using ht)
  simpa using this

set_option maxRecDepth 100000 in
theorem lifted (os : Os) (started : os.Started) (H : Type) (enc : TypeId × Value → H) :
    ReturnsInHanded {} Try.checked os 9 .any (Rows.frameThereSpec.pre6 enc Try.prog Try.f9 Rows.frameThereRow.domain false) (Rows.frameThereSpec.post enc Try.prog Try.f9 false true false false) := by
  refine returnsInHanded_of_change_sized (C := Try.checked) own started (by kernel_rfl) Try.func9
    (ChangeSpec.witness6 (enc := enc) (C := Try.checked) false ⟨#[], #[.string .empty], []⟩ 8 (by kernel_rfl) (by kernel_rfl) (by kernel_rfl) (by kernel_rfl)) ?_
  intro W base args ds gs before hval0 hW hcnd hsz _
  have hval : ∀ (j : Nat) t v, Try.f9.params[j]? = some t → args[j]? = some v → Value.okWide Try.prog W .any base t v := hval0
  have hW' := hW
  obtain ⟨p, q, hA0, hV, rfl, hfz, hnd⟩ := hW
  have hA : DataW.TrodAll enc Try.prog W 0 (fun _ => true) true Try.f9.params.toList args.toList ds p := hA0
  rw [Try.params9] at hA hval hsz
  obtain ⟨v0, vs0, d0, ds0, p0, q0, hargs, rfl, rfl, h0, r0⟩ := trodAll_cons hA
  obtain ⟨rfl, rfl, rfl⟩ := trodAll_nil r0
  obtain rfl : args = #[v0] := by cases args; simp_all
  obtain ⟨a0, rfl, rfl, rfl, wm_a0⟩ := ChangeMaps.open_string Try.underlying9 (hval 0 9 v0 rfl rfl) h0
  have h_a0 : a0.size ≤ 140737488355327 := by
    have := sized_string hsz (j := 0) (t := 9) (bytes := a0.data.toList) rfl rfl
    have e : reachBytes ≤ 140737488355327 := by decide
    rw [Array.length_toList] at this
    exact Nat.le_trans this e
  clear hA0 hval0
  refine (walk a0 h_a0 W).mono fun e W' ⟨he, hg⟩ => ?_
  subst he
  exact ⟨_, rfl, post_law laid readable rfl rfl Try.underlying4 hW' ⟨rfl, rfl, rfl⟩ hg⟩

theorem over : Rows.frameThereRow.holds Try.pinned (OpenSpec.ofChange Rows.frameThereSpec) :=
  OpenClaim.holds_of_wide 9 Try.f9 rfl rfl rfl rfl rfl rfl rfl ⟨rfl, rfl, rfl, rfl, rfl⟩ rfl rfl rfl rfl rfl (by kernel_rfl) Try.func9 (by kernel_rfl)
    (of_decide_eq_true (by kernel_rfl)) (by unfold Func.isWrapper; first | (rw [if_pos (by decide +kernel)]; kernel_rfl) | (rw [if_neg (by decide +kernel)]; exact ⟨rfl, rfl⟩))
    (fun os started H enc _ => lifted os started H enc)

/-- THE STATEMENT -/
theorem proved : Rows.FrameThereSaid :=
  over
#print axioms proved
end Go.Proofs.Ytjhidbadbdhcmaa.frameThere
