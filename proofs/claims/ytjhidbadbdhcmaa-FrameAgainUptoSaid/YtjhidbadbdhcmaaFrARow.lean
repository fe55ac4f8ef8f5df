/- The law FrameAgain answers true at every argument of the second form; no condition but that form's own bound. -/
import Derived.Test.YtjhidbadbdhcmaaRows
import Derived.Test.YtjhidbadbdhcmaaFrMl
import Derived.WalkKit
import Derived.ProofKit
import Derived.OpenShut
import Derived.Test.YtjhidbadbdhcmaaFrBulk
import Derived.JoinedCond
namespace Go.Proofs.Ytjhidbadbdhcmaa.frameAgain
open Go.ChangeShapes Go.WideShapes Go.ChangeAt Go.RowKit Go.Ev
set_option linter.unusedVariables false
set_option maxRecDepth 100000

theorem own : ownKnob Try.prog.godebug = none := by kernel_rfl
theorem laid : laidOutB Try.prog = true := by kernel_rfl
theorem readable : ∀ t ∈ Try.f6.params.toList, Try.prog.readableRec t = true ∧ t < Try.prog.types.size := by
  have h : (Try.f6.params.toList.all fun t => Try.prog.readableRec t && decide (t < Try.prog.types.size)) = true := by kernel_rfl
  intro t ht
  have := List.all_eq_true.1 h t ht
  simpa using this
theorem body6 : Try.f6.body = some (bodyOf Try.prog 6) := by kernel_rfl
theorem nt : Try.f6.ntmps = 115 := by kernel_rfl
theorem rs : Try.f6.results.toList = [.tmp 2] := by kernel_rfl
theorem drawn : allDraw (frG.ok 6) (bodyOf Try.prog 6) = true := by kernel_rfl

theorem walk (k fl st : Int) (s : ByteArray) (hb : s.size ≤ 1048576) (W : World) :
    Calls Try.prog 6 #[.agg #[vi k, vi fl, vi st, .string s]] W fun e w' => e = .returned (.bool true) ∧ Below W.heap.size W w' :=
  law_cuts (E := frG) fgT fgF fgS fgM pNoHint (f := 6) (k := 30) (n := 20) Try.func6 body6 nt rs drawn (cuts := []) (I := fun _ _ _ _ _ => False) (args := [.agg #[vi k, vi fl, vi st, .string s]])
    (Rel.empty W) (Own.empty _) (LRel.cons (VRel.agg' (LRel.cons (.int _ _) (LRel.cons (.int _ _) (LRel.cons (.int _ _) (LRel.cons (.string _) (LRel.nil _)))))) (LRel.nil _)) (agRh k fl st s hb) trivial

set_option maxRecDepth 100000 in
theorem lifted (os : Os) (started : os.Started) (H : Type) (enc : TypeId × Value → H) (F : Stop.Interp) :
    ReturnsInHanded {} Try.checked os 6 .any ((Rows.OpenSpec.upto Rows.frameAgainSpec).pre6 enc Try.prog Try.f6 Rows.frameAgainUptoRow.domain false) (((Rows.OpenSpec.upto Rows.frameAgainSpec).at F).post enc Try.prog Try.f6 false true false false) := by
  refine returnsInHanded_of_cond (C := Try.checked) (s := Rows.OpenSpec.upto Rows.frameAgainSpec) (k := Rows.uptoSmall) rfl own started (by kernel_rfl) Try.func6
    (OpenSpec.witness (enc := enc) (C := Try.checked) (s := Rows.OpenSpec.upto Rows.frameAgainSpec) (k := Rows.uptoSmall) rfl false ⟨#[], #[.agg #[.int .i64 0, .int .i64 0, .int .i64 0, .string .empty]], []⟩ 8 (by kernel_rfl) (by kernel_rfl) (by kernel_rfl)
      (x := ([.agg [.lit (.int .i64 0), .lit (.int .i64 0), .lit (.int .i64 0), .lit (.string [])]], [], [])) (by kernel_rfl) rfl (by kernel_rfl)) ?_
  intro W base args ds gs before hval0 hW _ hk _
  have hval : ∀ (j : Nat) t v, Try.f6.params[j]? = some t → args[j]? = some v → Value.okWide Try.prog W .any 0 t v := by
    intro j t v h1 h2
    exact hval0 j t v h1 h2
  have hW' := hW
  obtain ⟨p, q, hA0, hV, rfl, hfz, hnd⟩ := hW
  have hA : DataW.TrodAll enc Try.prog W 0 (fun _ => true) true Try.f6.params.toList args.toList ds p := hA0
  rw [Try.params6] at hA hval
  obtain ⟨v0, vs0, d0, ds0, p0, q0, hargs, rfl, rfl, h0, r0⟩ := trodAll_cons hA
  obtain ⟨rfl, rfl, rfl⟩ := trodAll_nil r0
  obtain rfl : args = #[v0] := by cases args; simp_all
  obtain ⟨cs0, xs0, n0, rfl, hs0, rfl, _, hl0, hf0⟩ := open_struct Try.underlying23 (hval 0 23 v0 rfl rfl) h0
  have hct0 : Try.prog.cellsOf 23 = 4 := by kernel_rfl
  rw [hct0] at hs0
  have hl0' : xs0.length = 4 := hl0
  obtain ⟨z0, e0, _, _⟩ := field_int Try.underlying3 (by kernel_rfl) (o := 0) ((hf0 0 _ rfl).trans (List.getElem?_eq_getElem (by omega)))
  obtain ⟨z1, e1, _, _⟩ := field_int Try.underlying3 (by kernel_rfl) (o := 1) ((hf0 1 _ rfl).trans (List.getElem?_eq_getElem (by omega)))
  obtain ⟨z2, e2, _, _⟩ := field_int Try.underlying3 (by kernel_rfl) (o := 2) ((hf0 2 _ rfl).trans (List.getElem?_eq_getElem (by omega)))
  obtain ⟨z3, e3, x3, _⟩ := field_string Try.underlying9 (by kernel_rfl) (o := 3) ((hf0 3 _ rfl).trans (List.getElem?_eq_getElem (by omega)))
  obtain rfl : cs0 = #[.int .i64 z0, .int .i64 z1, .int .i64 z2, .string z3] := by
    apply Array.ext_getElem?
    intro j
    by_cases hj : j < 4
    · obtain rfl | rfl | rfl | rfl : j = 0 ∨ j = 1 ∨ j = 2 ∨ j = 3 := by omega
      · rw [e0]; rfl
      · rw [e1]; rfl
      · rw [e2]; rfl
      · rw [e3]; rfl
    · rw [Array.getElem?_eq_none (by omega), Array.getElem?_eq_none (by simp; omega)]
  have b1 := bulks.bound hk
  have b2 := Nat.le_trans (bulks.part_le (d := DataW.agg (xs0.map (·.1))) (List.mem_cons_self)) b1
  have hm : (DataW.lit (H := H) (.string z3.data.toList)) ∈ xs0.map (·.1) := by
    refine List.mem_map.2 ⟨_, List.getElem_mem (by omega : 3 < xs0.length), ?_⟩
    rw [x3]
  have b3 := bulks.part_le hm
  rw [bulks.string_eq, ba_len] at b3
  have b4 : Rows.uptoBulkAll (xs0.map (·.1)) + 1 ≤ 1048576 := b2
  refine (walk z0 z1 z2 z3 (by omega) W).mono fun e W' ⟨he, hg⟩ => ?_
  subst he
  exact ⟨_, rfl, post_law laid readable rfl rfl Try.underlying4 hW' ⟨rfl, rfl, rfl⟩ hg⟩

theorem over : Rows.frameAgainUptoRow.holds Try.pinned (Rows.OpenSpec.upto Rows.frameAgainSpec) :=
  OpenClaim.holds_of_cond 6 Try.f6 rfl rfl rfl rfl rfl rfl rfl ⟨rfl, rfl, rfl, rfl, rfl⟩ rfl rfl rfl rfl rfl (by kernel_rfl) Try.func6 (by kernel_rfl)
    (of_decide_eq_true (by kernel_rfl)) (by unfold Func.isWrapper; first | (rw [if_pos (by decide +kernel)]; kernel_rfl) | (rw [if_neg (by decide +kernel)]; exact ⟨rfl, rfl⟩))
    (fun os started H enc _ F => lifted os started H enc F)

/-- The statement. -/
theorem proved : Rows.FrameAgainUptoSaid :=
  over
#print axioms proved
end Go.Proofs.Ytjhidbadbdhcmaa.frameAgain
