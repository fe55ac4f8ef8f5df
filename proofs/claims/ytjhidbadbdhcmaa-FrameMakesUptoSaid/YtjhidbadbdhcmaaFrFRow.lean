/- The law FrameMakes answers true at every argument of the second form; no condition but that form's own bound. -/
import Derived.Test.YtjhidbadbdhcmaaRows
import Derived.Test.YtjhidbadbdhcmaaFrMq
import Derived.Test.YtjhidbadbdhcmaaFrMj
import Derived.WalkKit
import Derived.ProofKit
import Derived.OpenShut
import Derived.Test.YtjhidbadbdhcmaaFrBulk
import Derived.JoinedCond
namespace Go.Proofs.Ytjhidbadbdhcmaa.frameMakes
open Go.ChangeShapes Go.WideShapes Go.ChangeAt Go.RowKit Go.Ev
set_option linter.unusedVariables false
set_option maxRecDepth 100000

theorem own : ownKnob Try.prog.godebug = none := by kernel_rfl
theorem laid : laidOutB Try.prog = true := by kernel_rfl
theorem readable : ∀ t ∈ Try.f5.params.toList, Try.prog.readableRec t = true ∧ t < Try.prog.types.size := by
  have h : (Try.f5.params.toList.all fun t => Try.prog.readableRec t && decide (t < Try.prog.types.size)) = true := by kernel_rfl
  intro t ht
  have := List.all_eq_true.1 h t ht
  simpa using this
theorem body5 : Try.f5.body = some (bodyOf Try.prog 5) := by kernel_rfl
theorem nt : Try.f5.ntmps = 79 := by kernel_rfl
theorem rs : Try.f5.results.toList = [.tmp 4] := by kernel_rfl
theorem drawn : allDraw (frI.ok 5) (bodyOf Try.prog 5) = true := by kernel_rfl
theorem int_lt {z : Int} (h : (Lit.int .i64 z).wf = true) : z < 9223372036854775808 := by
  have h' : (decide (IntKind.i64.min ≤ z) && decide (z ≤ IntKind.i64.max)) = true := h
  simp only [Bool.and_eq_true, decide_eq_true_eq] at h'
  have : IntKind.i64.max = 9223372036854775807 := by decide
  omega
abbrev ptC (p : Pt) (st : Value) : Array Value := ⟨ptL p st⟩
theorem pt_rel {ρ : Ren} {p : Pt} {st st' : Value} (h : VRel ρ st st') : VRel ρ (ptV p st) (.agg (ptC p st')) :=
  VRel.agg' (LRel.cons (.string _) (LRel.cons (.int _ _) (LRel.cons (.int _ _) (LRel.cons (.int _ _) (LRel.cons (.int _ _) (LRel.cons (.bool _) (LRel.cons (.int _ _) (LRel.cons h (LRel.nil _)))))))))
theorem hd_rel {ρ : Ren} (k fl st : Int) : VRel ρ (.agg #[vi k, vi fl, vi st]) (.agg #[vi k, vi fl, vi st]) :=
  VRel.agg' (LRel.cons (.int _ _) (LRel.cons (.int _ _) (LRel.cons (.int _ _) (LRel.nil _))))
theorem walkNil (k fl st : Int) (p : Pt) (hb : p.d.size ≤ 1048576) (hq : ptB p) (W : World) :
    Calls Try.prog 5 #[.agg #[vi k, vi fl, vi st], .agg (ptC p (.slice none 0 0))] W fun e w' => e = .returned (.bool true) ∧ Below W.heap.size W w' :=
  law_cuts (E := frI) fiT fiF fiSO2 fiM fHint (f := 5) (k := 30) (n := 20) Try.func5 body5 nt rs drawn (cuts := []) (I := fun _ _ _ _ _ => False) (args := [.agg #[vi k, vi fl, vi st], ptV p nl])
    (Rel.empty W) (Own.empty _) (LRel.cons (hd_rel _ _ _) (LRel.cons (pt_rel .nils) (LRel.nil _))) (fmNh k fl st p hb hq) trivial
theorem walkS (k fl st : Int) (p : Pt) (hb : p.d.size ≤ 1048576) (hq : ptB p) {n c : Nat} {xs : List Int} {T : ET} (hn : n * 2 ≤ xs.length) (hn2 : n ≤ 1048576) {ρ : Ren} {W : World} {sv : Value}
    (hR : Rel ρ (roH1w (xs.map vi) T) W) (hno : ∀ B, ¬ Own ρ (roH1w (xs.map vi) T) B) (hs : VRel ρ (slo 0 0 n c) sv) :
    Calls Try.prog 5 #[.agg #[vi k, vi fl, vi st], .agg (ptC p sv)] W fun e w' => e = .returned (.bool true) ∧ Below W.heap.size W w' :=
  law_cuts (E := frI) fiT fiF fiSO2 fiM fHint (f := 5) (k := 30) (n := 20) Try.func5 body5 nt rs drawn (cuts := []) (I := fun _ _ _ _ _ => False) (args := [.agg #[vi k, vi fl, vi st], ptV p (slo 0 0 n c)])
    hR hno (LRel.cons (hd_rel _ _ _) (LRel.cons (pt_rel hs) (LRel.nil _))) (fmSh k fl st p n c xs T hb hq hn hn2) trivial

set_option maxRecDepth 100000 in
theorem lifted (os : Os) (started : os.Started) (H : Type) (enc : TypeId × Value → H) (F : Stop.Interp) :
    ReturnsInHanded {} Try.checked os 5 .any ((Rows.OpenSpec.upto Rows.frameMakesSpec).pre6 enc Try.prog Try.f5 Rows.frameMakesUptoRow.domain false) (((Rows.OpenSpec.upto Rows.frameMakesSpec).at F).post enc Try.prog Try.f5 false true false false) := by
  refine returnsInHanded_of_cond (C := Try.checked) (s := Rows.OpenSpec.upto Rows.frameMakesSpec) (k := Rows.uptoSmall) rfl own started (by kernel_rfl) Try.func5
    (OpenSpec.witness (enc := enc) (C := Try.checked) (s := Rows.OpenSpec.upto Rows.frameMakesSpec) (k := Rows.uptoSmall) rfl false ⟨#[], #[.agg #[.int .i64 0, .int .i64 0, .int .i64 0], .agg #[.string .empty, .int .i64 0, .int .i64 0, .int .i64 0, .int .i64 0, .bool false, .int .i64 0, .slice none 0 0]], []⟩ 8 (by kernel_rfl) (by kernel_rfl) (by kernel_rfl)
      (x := ([.agg [.lit (.int .i64 0), .lit (.int .i64 0), .lit (.int .i64 0)], .agg [.lit (.string []), .lit (.int .i64 0), .lit (.int .i64 0), .lit (.int .i64 0), .lit (.int .i64 0), .lit (.bool false), .lit (.int .i64 0), .nil]], [], [])) (by kernel_rfl) rfl (by kernel_rfl)) ?_
  intro W base args ds gs before hval0 hW _ hk _
  have hval : ∀ (j : Nat) t v, Try.f5.params[j]? = some t → args[j]? = some v → Value.okWide Try.prog W .any 0 t v := by
    intro j t v h1 h2
    exact hval0 j t v h1 h2
  have hW' := hW
  obtain ⟨p, q, hA0, hV, rfl, hfz, hnd⟩ := hW
  have hA : DataW.TrodAll enc Try.prog W 0 (fun _ => true) true Try.f5.params.toList args.toList ds p := hA0
  rw [Try.params5] at hA hval
  obtain ⟨v0, vs0, d0, ds0, p0, q0, hargs, rfl, rfl, h0, r0⟩ := trodAll_cons hA
  obtain ⟨v1, vs1, d1, ds1, p1, q1, rfl, rfl, rfl, h1, r1⟩ := trodAll_cons r0
  obtain ⟨rfl, rfl, rfl⟩ := trodAll_nil r1
  obtain rfl : args = #[v0, v1] := by cases args; simp_all
  have b1 := bulks.bound hk
  have hv1 := hval 1 32 v1 rfl rfl
  obtain ⟨cs0, xs0, n0, rfl, hs0, rfl, _, hl0, hf0⟩ := open_struct Try.underlying42 (hval 0 42 v0 rfl rfl) h0
  obtain ⟨cs1, xs1, n1, rfl, hs1, rfl, _, hl1, hf1⟩ := open_struct Try.underlying32 hv1 h1
  have hct0 : Try.prog.cellsOf 42 = 3 := by kernel_rfl
  have hct1 : Try.prog.cellsOf 32 = 8 := by kernel_rfl
  rw [hct0] at hs0
  rw [hct1] at hs1
  have hl0' : xs0.length = 3 := hl0
  have hl1' : xs1.length = 8 := hl1
  obtain ⟨a0, e0, _, _⟩ := field_int Try.underlying3 (by kernel_rfl) (o := 0) ((hf0 0 _ rfl).trans (List.getElem?_eq_getElem (by omega)))
  obtain ⟨a1, e1, _, _⟩ := field_int Try.underlying3 (by kernel_rfl) (o := 1) ((hf0 1 _ rfl).trans (List.getElem?_eq_getElem (by omega)))
  obtain ⟨a2, e2, _, _⟩ := field_int Try.underlying3 (by kernel_rfl) (o := 2) ((hf0 2 _ rfl).trans (List.getElem?_eq_getElem (by omega)))
  obtain rfl : cs0 = #[.int .i64 a0, .int .i64 a1, .int .i64 a2] := by
    apply Array.ext_getElem?
    intro j
    by_cases hj : j < 3
    · obtain rfl | rfl | rfl : j = 0 ∨ j = 1 ∨ j = 2 := by omega
      · rw [e0]; rfl
      · rw [e1]; rfl
      · rw [e2]; rfl
    · rw [Array.getElem?_eq_none (by omega), Array.getElem?_eq_none (by simp; omega)]
  obtain ⟨z0, g0, x0, _⟩ := field_string Try.underlying9 (by kernel_rfl) (o := 0) ((hf1 0 _ rfl).trans (List.getElem?_eq_getElem (by omega)))
  obtain ⟨z1, g1, _, _⟩ := field_int Try.underlying3 (by kernel_rfl) (o := 1) ((hf1 1 _ rfl).trans (List.getElem?_eq_getElem (by omega)))
  obtain ⟨z2, g2, _, y2⟩ := field_int Try.underlying29 (by kernel_rfl) (o := 2) ((hf1 2 _ rfl).trans (List.getElem?_eq_getElem (by omega)))
  obtain ⟨z3, g3, _, y3⟩ := field_int Try.underlying3 (by kernel_rfl) (o := 3) ((hf1 3 _ rfl).trans (List.getElem?_eq_getElem (by omega)))
  obtain ⟨z4, g4, _, _⟩ := field_int Try.underlying3 (by kernel_rfl) (o := 4) ((hf1 4 _ rfl).trans (List.getElem?_eq_getElem (by omega)))
  obtain ⟨z5, g5, _, _⟩ := field_bool Try.underlying4 (by kernel_rfl) (o := 5) ((hf1 5 _ rfl).trans (List.getElem?_eq_getElem (by omega)))
  obtain ⟨z6, g6, _, y6⟩ := field_int Try.underlying3 (by kernel_rfl) (o := 6) ((hf1 6 _ rfl).trans (List.getElem?_eq_getElem (by omega)))
  have h7 := (hf1 7 _ rfl).trans (List.getElem?_eq_getElem (by omega : 7 < xs1.length))
  have hts : Try.prog.cellTypes Try.prog.depth 32 = some [9, 3, 29, 3, 3, 4, 3, 30] := by kernel_rfl
  have hc30 : Try.prog.cellsOf 30 = 1 := by kernel_rfl
  replace h7 : DataW.trod enc Try.prog W 0 (fun _ => true) true n1 30 ((cs1.toList.drop 7).take (Try.prog.cellsOf 30)) = some (xs1[7]'(by omega)) := h7
  have g7 : cs1[7]? = some (cs1[7]'(by omega)) := Array.getElem?_eq_getElem (by omega)
  generalize hsv : cs1[7]'(by omega) = sv at g7
  have hok := field_cell Try.underlying32 hts (o := 7) rfl Try.underlying30 hv1 g7
  have hsc : sv.cells = #[sv] := by
    cases sv <;> first | rfl | exact absurd hok (by simp [Value.okWide, Try.underlying30, Cell.okWide, Cell.ok])
  obtain rfl : cs1 = ptC ⟨z0, z1, z2, z3, z4, z5, z6⟩ sv := by
    apply Array.ext_getElem?
    intro j
    by_cases hj : j < 8
    · obtain rfl | rfl | rfl | rfl | rfl | rfl | rfl | rfl : j = 0 ∨ j = 1 ∨ j = 2 ∨ j = 3 ∨ j = 4 ∨ j = 5 ∨ j = 6 ∨ j = 7 := by omega
      · rw [g0]; rfl
      · rw [g1]; rfl
      · rw [g2]; rfl
      · rw [g3]; rfl
      · rw [g4]; rfl
      · rw [g5]; rfl
      · rw [g6]; rfl
      · rw [g7]; rfl
    · rw [Array.getElem?_eq_none (by omega), Array.getElem?_eq_none (by show 8 ≤ j; omega)]
  have hd7 : DataW.Trod enc Try.prog W 0 (fun _ => true) true 30 sv (xs1[7]'(by omega)).1 (xs1[7]'(by omega)).2 := by
    refine ⟨n1, ?_⟩
    rw [hsc]
    rw [hc30] at h7
    exact h7
  have b2 := Nat.le_trans (bulks.part_le (d := DataW.agg (xs1.map (·.1))) (List.mem_cons_of_mem _ List.mem_cons_self)) b1
  have b4 : Rows.uptoBulkAll (xs1.map (·.1)) + 1 ≤ 1048576 := b2
  have hm : (DataW.lit (H := H) (.string z0.data.toList)) ∈ xs1.map (·.1) := by
    refine List.mem_map.2 ⟨_, List.getElem_mem (by omega : 0 < xs1.length), ?_⟩
    rw [x0]
  have b3 := bulks.part_le hm
  rw [bulks.string_eq, ba_len] at b3
  have hm7 : (xs1[7]'(by omega)).1 ∈ xs1.map (·.1) := List.mem_map.2 ⟨_, List.getElem_mem (by omega : 7 < xs1.length), rfl⟩
  have b5 := bulks.part_le hm7
  have fin : (Calls Try.prog 5 #[.agg #[vi a0, vi a1, vi a2], .agg (ptC ⟨z0, z1, z2, z3, z4, z5, z6⟩ sv)] W fun e w' => e = .returned (.bool true) ∧ Below W.heap.size W w') →
      Calls Try.prog 5 #[.agg #[vi a0, vi a1, vi a2], .agg (ptC ⟨z0, z1, z2, z3, z4, z5, z6⟩ sv)] W fun e W' => ∃ v, e = .returned v ∧ Rows.frameMakesSpec.post enc Try.prog Try.f5 false true false false W #[.agg #[vi a0, vi a1, vi a2], .agg (ptC ⟨z0, z1, z2, z3, z4, z5, z6⟩ sv)] v W' := by
    intro h
    refine h.mono fun e W' ⟨he, hg⟩ => ?_
    subst he
    exact ⟨_, rfl, post_law laid readable rfl rfl Try.underlying4 hW' ⟨rfl, rfl, rfl⟩ hg⟩
  refine fin ?_
  have hbz : z0.size ≤ 1048576 := by omega
  have hq : ptB ⟨z0, z1, z2, z3, z4, z5, z6⟩ := ⟨int_lt y2, int_lt y3, int_lt y6⟩
  rcases flat_slice (sz := 2) Try.underlying30 (by kernel_rfl) hok hd7 with ⟨rfl, _⟩ | ⟨B, o, len, cap, CS, el, fr, ci, es, rest, rfl, hde, hes, hl, hmx, hB, hcap, hel⟩
  · exact walkNil a0 a1 a2 ⟨z0, z1, z2, z3, z4, z5, z6⟩ hbz hq W
  · rw [hde] at b5
    have b6 := bulks.slice_le es rest
    obtain ⟨F, f1, f2, f3, f4⟩ := rows_open (cel := setCel) (k := 2) (len := len) (o := o) (CS := CS) (ci := ci) (Q := fun _ _ => True) setCel_len (by omega) setCel_scal
      (fun i hi j hj => (hel i hi).2.1 j hj) (fun i hi => by
        obtain ⟨k1, k2, di, n, hdi, k3⟩ := hel i hi
        obtain ⟨xs, n', _, hx, _, hl', hf⟩ := DataW.trod_struct Try.underlying39 k3
        have hl2 : xs.length = 2 := hl'
        obtain ⟨y0, e0, _, _⟩ := field_int Try.underlying3 (by kernel_rfl) (cs := ⟨ci i⟩) (o := 0) ((hf 0 _ rfl).trans (List.getElem?_eq_getElem (by omega)))
        obtain ⟨y1, e1, _, _⟩ := field_int Try.underlying3 (by kernel_rfl) (cs := ⟨ci i⟩) (o := 1) ((hf 1 _ rfl).trans (List.getElem?_eq_getElem (by omega)))
        refine ⟨(y0, y1), ?_, trivial⟩
        apply List.ext_getElem?
        intro j
        by_cases hj : j < 2
        · obtain rfl | rfl : j = 0 ∨ j = 1 := by omega
          · exact (by simpa using e0 : (ci i)[0]? = some (vi y0))
          · exact (by simpa using e1 : (ci i)[1]? = some (vi y1))
        · rw [List.getElem?_eq_none (by omega), List.getElem?_eq_none (by show 2 ≤ j; omega)])
    have hlen : F.length = len := f1
    rw [rows_ints] at f3 f4
    have hlx : (F.flatMap fun p => [p.1, p.2]).length = len * 2 := by
      have := rows_len setCel_len F
      rw [rows_ints, List.length_map, hlen] at this
      exact this
    exact walkS a0 a1 a2 ⟨z0, z1, z2, z3, z4, z5, z6⟩ hbz hq (n := len) (c := len) (xs := F.flatMap fun p => [p.1, p.2]) (T := ⟨2, none, false⟩) (by omega) (by omega) (lent_rel (sz := 2) hB f3 f4) lent_own (lent_slice hl hmx fun hc => hcap (by omega) hc)

theorem over : Rows.frameMakesUptoRow.holds Try.pinned (Rows.OpenSpec.upto Rows.frameMakesSpec) :=
  OpenClaim.holds_of_cond 5 Try.f5 rfl rfl rfl rfl rfl rfl rfl ⟨rfl, rfl, rfl, rfl, rfl⟩ rfl rfl rfl rfl rfl (by kernel_rfl) Try.func5 (by kernel_rfl)
    (of_decide_eq_true (by kernel_rfl)) (by unfold Func.isWrapper; first | (rw [if_pos (by decide +kernel)]; kernel_rfl) | (rw [if_neg (by decide +kernel)]; exact ⟨rfl, rfl⟩))
    (fun os started H enc _ F => lifted os started H enc F)

/-- The statement. -/
theorem proved : Rows.FrameMakesUptoSaid :=
  over
#print axioms proved
end Go.Proofs.Ytjhidbadbdhcmaa.frameMakes
