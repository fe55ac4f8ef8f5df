/- The law FrameBack answers true at every argument: its walk, its arguments, its row; no condition but the form's own. -/
import Derived.Test.YtjhidbadbdhcmaaRows
import Derived.Test.YtjhidbadbdhcmaaFrBkP
import Derived.Test.YtjhidbadbdhcmaaEvSf
import Derived.Test.YtjhidbadbdhcmaaEvO
import Derived.WalkKit
import Derived.ProofKit
import Derived.OpenShut
import Derived.SizedLaws
namespace Go.Proofs.Ytjhidbadbdhcmaa.frameBack
open Go.ChangeShapes Go.WideShapes Go.ChangeAt Go.RowKit Go.Ev
set_option linter.unusedVariables false

theorem own : ownKnob Try.prog.godebug = none := by kernel_rfl

set_option maxRecDepth 100000
theorem run_of {E : Env} {hint : FuncId → Tmp → Option Hint} {k : Nat} {f : FuncId} {args : List Value} (h : Evals E hint k f args) : ∃ v H', E.run k f args AHeap.empty = some (v, H') ∧ v = .bool true :=
  evalK_ok E hint k _ _ _ _ h.h
theorem walk (a0_0 : Int) (a0_1 : Int) (a0_2 : Int) (a0_3 : ByteArray) (a1 : ByteArray) (a2 : Int) (h_a0_3 : a0_3.size ≤ 9223372036854775807) (h_a1 : a1.size ≤ 140737488355327) (w_a0_0 : (Lit.int .i64 a0_0).wf = true) (w_a0_1 : (Lit.int .i64 a0_1).wf = true) (w_a0_2 : (Lit.int .i64 a0_2).wf = true) (w_a2 : (Lit.int .i64 a2).wf = true) (w : World) :
    Calls Try.prog 8 #[.agg #[.int .i64 a0_0, .int .i64 a0_1, .int .i64 a0_2, .string a0_3], .string a1, .int .i64 a2] w fun e w' => e = .returned (.bool true) ∧ Below w.heap.size w w' := by
  obtain ⟨v, H', h1, h2⟩ := run_of ((fun a b c d e g _ hb _ _ _ _ => Go.Ev.back a b c g d e hb) a0_0 a0_1 a0_2 a0_3 a1 a2 h_a0_3 h_a1 w_a0_0 w_a0_1 w_a0_2 w_a2)
  exact law_of fnT fnF fnS fnM h1 h2 (Rel.empty w) (Own.empty _) (LRel.cons (VRel.agg' (LRel.cons (.int _ _) (LRel.cons (.int _ _) (LRel.cons (.int _ _) (LRel.cons (.string _) (LRel.nil _)))))) (LRel.cons (.string _) (LRel.cons (.int _ _) (LRel.nil _))))
theorem laid : laidOutB Try.prog = true := by kernel_rfl
theorem readable : ∀ t ∈ Try.f8.params.toList, Try.prog.readableRec t = true ∧ t < Try.prog.types.size := by
  have h : ([23, 9, 3].all fun t => Try.prog.readableRec t && decide (t < Try.prog.types.size)) = true := by kernel_rfl
  intro t ht
  rw [Try.params8] at ht
  have := List.all_eq_true.1 h t (by simpa using ht)
  simpa using this

set_option maxRecDepth 100000 in
theorem lifted (os : Os) (started : os.Started) (H : Type) (enc : TypeId × Value → H) :
    ReturnsInHanded {} Try.checked os 8 .any (Rows.frameBackSpec.pre6 enc Try.prog Try.f8 Rows.frameBackRow.domain false) (Rows.frameBackSpec.post enc Try.prog Try.f8 false true false false) := by
  refine returnsInHanded_of_change_sized (C := Try.checked) own started (by kernel_rfl) Try.func8
    (ChangeSpec.witness6 (enc := enc) (C := Try.checked) false ⟨#[], #[.agg #[.int .i64 0, .int .i64 0, .int .i64 0, .string .empty], .string .empty, .int .i64 0], []⟩ 8 (by kernel_rfl) (by kernel_rfl) (by kernel_rfl) (by kernel_rfl)) ?_
  intro W base args ds gs before hval0 hW hcnd hsz _
  have hval : ∀ (j : Nat) t v, Try.f8.params[j]? = some t → args[j]? = some v → Value.okWide Try.prog W .any base t v := hval0
  have hW' := hW
  obtain ⟨p, q, hA0, hV, rfl, hfz, hnd⟩ := hW
  have hA : DataW.TrodAll enc Try.prog W 0 (fun _ => true) true Try.f8.params.toList args.toList ds p := hA0
  rw [Try.params8] at hA hval hsz
  obtain ⟨v0, vs0, d0, ds0, p0, q0, hargs, rfl, rfl, h0, r0⟩ := trodAll_cons hA
  obtain ⟨v1, vs1, d1, ds1, p1, q1, rfl, rfl, rfl, h1, r1⟩ := trodAll_cons r0
  obtain ⟨v2, vs2, d2, ds2, p2, q2, rfl, rfl, rfl, h2, r2⟩ := trodAll_cons r1
  obtain ⟨rfl, rfl, rfl⟩ := trodAll_nil r2
  obtain rfl : args = #[v0, v1, v2] := by cases args; simp_all
  obtain ⟨cs0, xs0, n0, rfl, hs0, rfl, _, hl0, hf0⟩ := open_struct Try.underlying23 (hval 0 23 v0 rfl rfl) h0
  have hct0 : Try.prog.cellsOf 23 = 4 := by kernel_rfl
  rw [hct0] at hs0
  have hl0' : xs0.length = 4 := hl0
  obtain ⟨a0_0, e0_0, _, w_a0_0⟩ := field_int Try.underlying3 (by kernel_rfl) (o := 0) ((hf0 0 _ rfl).trans (List.getElem?_eq_getElem (by omega)))
  obtain ⟨a0_1, e0_1, _, w_a0_1⟩ := field_int Try.underlying3 (by kernel_rfl) (o := 1) ((hf0 1 _ rfl).trans (List.getElem?_eq_getElem (by omega)))
  obtain ⟨a0_2, e0_2, _, w_a0_2⟩ := field_int Try.underlying3 (by kernel_rfl) (o := 2) ((hf0 2 _ rfl).trans (List.getElem?_eq_getElem (by omega)))
  obtain ⟨a0_3, e0_3, _, h_a0_3⟩ := field_string Try.underlying9 (by kernel_rfl) (o := 3) ((hf0 3 _ rfl).trans (List.getElem?_eq_getElem (by omega)))
  replace h_a0_3 : a0_3.size ≤ 9223372036854775807 := by
    have e : maxLen = 9223372036854775807 := by decide
    omega
  obtain rfl : cs0 = #[.int .i64 a0_0, .int .i64 a0_1, .int .i64 a0_2, .string a0_3] := by
    apply Array.ext_getElem?
    intro j
    by_cases hj : j < 4
    · obtain rfl | rfl | rfl | rfl : j = 0 ∨ j = 1 ∨ j = 2 ∨ j = 3 := by omega
      · rw [e0_0]; rfl
      · rw [e0_1]; rfl
      · rw [e0_2]; rfl
      · rw [e0_3]; rfl
    · rw [Array.getElem?_eq_none (by omega), Array.getElem?_eq_none (by simp; omega)]
  obtain ⟨a1, rfl, rfl, rfl, wm_a1⟩ := ChangeMaps.open_string Try.underlying9 (hval 1 9 v1 rfl rfl) h1
  have h_a1 : a1.size ≤ 140737488355327 := by
    have := sized_string hsz (j := 1) (t := 9) (bytes := a1.data.toList) rfl rfl
    have e : reachBytes ≤ 140737488355327 := by decide
    rw [Array.length_toList] at this
    exact Nat.le_trans this e
  obtain ⟨a2, rfl, rfl, rfl, w_a2⟩ := open_int Try.underlying3 (hval 2 3 v2 rfl rfl) h2
  clear hA0 hval0
  refine (walk a0_0 a0_1 a0_2 a0_3 a1 a2 h_a0_3 h_a1 w_a0_0 w_a0_1 w_a0_2 w_a2 W).mono fun e W' ⟨he, hg⟩ => ?_
  subst he
  exact ⟨_, rfl, post_law laid readable rfl rfl Try.underlying4 hW' ⟨rfl, rfl, rfl⟩ hg⟩

theorem over : Rows.frameBackRow.holds Try.pinned (OpenSpec.ofChange Rows.frameBackSpec) :=
  OpenClaim.holds_of_wide 8 Try.f8 rfl rfl rfl rfl rfl rfl rfl ⟨rfl, rfl, rfl, rfl, rfl⟩ rfl rfl rfl rfl rfl (by kernel_rfl) Try.func8 (by kernel_rfl)
    (of_decide_eq_true (by kernel_rfl)) (by unfold Func.isWrapper; first | (rw [if_pos (by decide +kernel)]; kernel_rfl) | (rw [if_neg (by decide +kernel)]; exact ⟨rfl, rfl⟩))
    (fun os started H enc _ => lifted os started H enc)

/-- THE STATEMENT -/
theorem proved : Rows.FrameBackSaid :=
  over
#print axioms proved
end Go.Proofs.Ytjhidbadbdhcmaa.frameBack
