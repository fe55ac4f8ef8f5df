/- The law FrameRow answers true at every argument of the second form; no condition but that form's own bound. -/
import Derived.Test.YtjhidbadbdhcmaaRows
import Derived.Test.YtjhidbadbdhcmaaFrRwP
import Derived.WalkKit
import Derived.ProofKit
import Derived.OpenShut
import Derived.Test.YtjhidbadbdhcmaaFrBulk
import Derived.JoinedCond
namespace Go.Proofs.Ytjhidbadbdhcmaa.frameRow
open Go.ChangeShapes Go.WideShapes Go.ChangeAt Go.RowKit Go.Ev
set_option linter.unusedVariables false
set_option maxRecDepth 100000

theorem own : ownKnob Try.prog.godebug = none := by kernel_rfl
theorem laid : laidOutB Try.prog = true := by kernel_rfl
theorem readable : ∀ t ∈ Try.f11.params.toList, Try.prog.readableRec t = true ∧ t < Try.prog.types.size := by
  have h : (Try.f11.params.toList.all fun t => Try.prog.readableRec t && decide (t < Try.prog.types.size)) = true := by kernel_rfl
  intro t ht
  have := List.all_eq_true.1 h t ht
  simpa using this
theorem body11 : Try.f11.body = some (bodyOf Try.prog 11) := by kernel_rfl
theorem nt : Try.f11.ntmps = 97 := by kernel_rfl
theorem rs : Try.f11.results.toList = [.tmp 4] := by kernel_rfl
theorem drawn : allDraw (frN.ok 11) (bodyOf Try.prog 11) = true := by kernel_rfl
theorem lo1 : loopsOn rwP1 rwB = 0 := by kernel_rfl
theorem lo2 : loopsOn rwP2 rwB = 0 := by kernel_rfl

theorem run_of {E : Env} {hint : FuncId → Tmp → Option Hint} {k : Nat} {f : FuncId} {args : List Value} (h : Evals E hint k f args) : ∃ v H', E.run k f args AHeap.empty = some (v, H') ∧ v = .bool true :=
  evalK_ok E hint k _ _ _ _ h.h
theorem walkNil (cut : Int) (w : World) : Calls Try.prog 11 #[.slice none 0 0, .int .i64 cut] w fun e w' => e = .returned (.bool true) ∧ Below w.heap.size w w' := by
  have h : Evals frN rwHint 30 11 [nl, vi cut] := by
    constructor
    rw [rwN]
    have hc : (if (0 : Int) < if (0 : Int) > cut then (0 : Int) else cut then (0 : Int) else if (0 : Int) > cut then (0 : Int) else cut) = (0 : Int) := by
      split
      · rfl
      · split at * <;> omega
    rw [hc]
    exact ifK_t (by simp) (ifK_t (by simp) rfl)
  obtain ⟨v, H', h1, h2⟩ := run_of h
  exact law_of fnT fnF fnS fnM h1 h2 (Rel.empty w) (Own.empty _) (LRel.cons .nils (LRel.cons (.int _ _) (LRel.nil _)))

theorem enc_le (F : List Fr) : ∀ i, (((F.take i).filter frGood).flatMap frEnc).length ≤ (F.map fun f => 9 + f.s.size).sum := by
  induction F with
  | nil => intro i; simp
  | cons f F ih =>
    intro i
    cases i with
    | zero => simp
    | succ i =>
      have := ih i
      rw [List.take_succ_cons, List.map_cons, List.sum_cons]
      cases hg : frGood f
      · rw [List.filter_cons_of_neg (by simp [hg])]; omega
      · rw [List.filter_cons_of_pos hg, List.flatMap_cons, List.length_append, frEnc_len]; omega
theorem bulk_sum {H : Type} : ∀ (F : List Fr) (ds : List (DataW H)), ds.length = F.length → (∀ (i : Nat) (f : Fr) (d : DataW H), F[i]? = some f → ds[i]? = some d → f.s.size + 1 ≤ Rows.uptoBulk d) → (F.map fun f => 9 + f.s.size).sum ≤ 9 * Rows.uptoBulkAll ds := by
  intro F
  induction F with
  | nil => intro ds _ _; simp
  | cons f F ih =>
    intro ds hl h
    cases ds with
    | nil => simp at hl
    | cons d ds =>
      have h0 := h 0 f d rfl rfl
      have := ih ds (by simpa using hl) fun i f' d' h1 h2 => h (i + 1) f' d' h1 h2
      rw [List.map_cons, List.sum_cons]
      simp only [Rows.uptoBulkAll]
      omega

theorem walk {cut : Int} {W : World} {F : List Fr} {ρ : Ren} {cargs : Array Value} (hn : F.length ≤ 1048576) (hb : ∀ i, (((F.take i).filter frGood).flatMap frEnc).length ≤ 20000000)
    (hR : Rel ρ (rwH0 (fRow F)) W) (hno : ∀ B, ¬ Own ρ (rwH0 (fRow F)) B) (ha : LRel ρ [sl F.length, vi cut] cargs.toList) :
    Calls Try.prog 11 cargs W fun e w' => e = .returned (.bool true) ∧ Below W.heap.size W w' := by
  have hs : Hd (startA frN rwHint 30 20 11 1 97 rwCuts (ofI (rwI F cut)) rwB ([sl F.length, vi cut] ++ List.replicate 95 undef) (rwH0 (fRow F)) rwE) := by
    constructor
    rw [rwS]
    refine ⟨_, trivial, 0, ?_, ?_, by omega, rfl, rfl⟩
    · rfl
    · rw [rows_ren _ (frCel_ren _)]; rfl
  refine law_cuts (E := frN) fnT fnF fnS fnM rwHint (f := 11) (k := 30) (n := 20) Try.func11 body11 nt rs drawn (cuts := rwCuts) (I := rwI F cut) (args := [sl F.length, vi cut]) hR hno ha hs ?_
  refine ⟨⟨?_, ?_, trivial⟩, ⟨?_, ?_, trivial⟩, trivial⟩
  · intro ms hms m vs H hi
    obtain rfl := List.eq_nil_of_length_eq_zero (hms.trans lo1)
    exact rseg1 hn hb m vs H hi
  · intro ms hms m vs H hi
    obtain rfl := List.eq_nil_of_length_eq_zero (hms.trans lo1)
    exact rseg0 hn hb m vs H hi
  · intro ms hms m vs H hi
    obtain rfl := List.eq_nil_of_length_eq_zero (hms.trans lo2)
    exact rseg3 hn hb m vs H hi
  · intro ms hms m vs H hi
    obtain rfl := List.eq_nil_of_length_eq_zero (hms.trans lo2)
    exact rseg2 m vs H hi

set_option maxRecDepth 100000 in
theorem lifted (os : Os) (started : os.Started) (H : Type) (enc : TypeId × Value → H) (F : Stop.Interp) :
    ReturnsInHanded {} Try.checked os 11 .any ((Rows.OpenSpec.upto Rows.frameRowSpec).pre6 enc Try.prog Try.f11 Rows.frameRowUptoRow.domain false) (((Rows.OpenSpec.upto Rows.frameRowSpec).at F).post enc Try.prog Try.f11 false true false false) := by
  refine returnsInHanded_of_cond (C := Try.checked) (s := Rows.OpenSpec.upto Rows.frameRowSpec) (k := Rows.uptoSmall) rfl own started (by kernel_rfl) Try.func11
    (OpenSpec.witness (enc := enc) (C := Try.checked) (s := Rows.OpenSpec.upto Rows.frameRowSpec) (k := Rows.uptoSmall) rfl false ⟨#[], #[.slice none 0 0, .int .i64 0], []⟩ 8 (by kernel_rfl) (by kernel_rfl) (by kernel_rfl)
      (x := ([.nil, .lit (.int .i64 0)], [], [])) (by kernel_rfl) rfl (by kernel_rfl)) ?_
  intro W base args ds gs before hval0 hW _ hk _
  have hval : ∀ (j : Nat) t v, Try.f11.params[j]? = some t → args[j]? = some v → Value.okWide Try.prog W .any 0 t v := by
    intro j t v h1 h2
    exact hval0 j t v h1 h2
  have hW' := hW
  obtain ⟨p, q, hA0, hV, rfl, hfz, hnd⟩ := hW
  have hA : DataW.TrodAll enc Try.prog W 0 (fun _ => true) true Try.f11.params.toList args.toList ds p := hA0
  rw [Try.params11] at hA hval
  obtain ⟨v0, vs0, d0, ds0, p0, q0, hargs, rfl, rfl, h0, r0⟩ := trodAll_cons hA
  obtain ⟨v1, vs1, d1, ds1, p1, q1, rfl, rfl, rfl, h1, r1⟩ := trodAll_cons r0
  obtain ⟨rfl, rfl, rfl⟩ := trodAll_nil r1
  obtain rfl : args = #[v0, v1] := by cases args; simp_all
  obtain ⟨a1, rfl, rfl, rfl, w1⟩ := open_int Try.underlying3 (hval 1 3 v1 rfl rfl) h1
  have fin : (Calls Try.prog 11 #[v0, .int .i64 a1] W fun e w' => e = .returned (.bool true) ∧ Below W.heap.size W w') →
      Calls Try.prog 11 #[v0, .int .i64 a1] W fun e W' => ∃ v, e = .returned v ∧ Rows.frameRowSpec.post enc Try.prog Try.f11 false true false false W #[v0, .int .i64 a1] v W' := by
    intro h
    refine h.mono fun e W' ⟨he, hg⟩ => ?_
    subst he
    exact ⟨_, rfl, post_law laid readable rfl rfl Try.underlying4 hW' ⟨rfl, rfl, rfl⟩ hg⟩
  refine fin ?_
  rcases flat_slice (sz := 4) Try.underlying51 (by kernel_rfl) (hval 0 51 v0 rfl rfl) h0 with ⟨rfl, _⟩ | ⟨B, o, len, cap, CS, el, fr, ci, es, rest, rfl, rfl, hes, hl, hm, hB, hcap, hel⟩
  · exact walkNil a1 W
  · have b1 := bulks.bound hk
    have b2 := bulks.slice_le es rest
    have b4 := bulks.slice_elems es rest
    have b3 := Nat.le_trans (bulks.part_le (d := DataW.slice es rest) (List.mem_cons_self)) b1
    obtain ⟨F, f1, f2, f3, f4⟩ := rows_open (cel := frCel) (k := 4) (len := len) (o := o) (CS := CS) (ci := ci) (Q := fun i f => ∀ d, es[i]? = some d → f.s.size + 1 ≤ Rows.uptoBulk d) frCel_len (by omega) frCel_scal
      (fun i hi j hj => (hel i hi).2.1 j hj) (fun i hi => by
        obtain ⟨k1, k2, di, n, hdi, k3⟩ := hel i hi
        obtain ⟨xs, n', _, hx, _, hl', hf⟩ := DataW.trod_struct Try.underlying23 k3
        have hl4 : xs.length = 4 := hl'
        obtain ⟨z0, e0, x0, _⟩ := field_int Try.underlying3 (by kernel_rfl) (cs := ⟨ci i⟩) (o := 0) ((hf 0 _ rfl).trans (List.getElem?_eq_getElem (by omega)))
        obtain ⟨z1, e1, x1, _⟩ := field_int Try.underlying3 (by kernel_rfl) (cs := ⟨ci i⟩) (o := 1) ((hf 1 _ rfl).trans (List.getElem?_eq_getElem (by omega)))
        obtain ⟨z2, e2, x2, _⟩ := field_int Try.underlying3 (by kernel_rfl) (cs := ⟨ci i⟩) (o := 2) ((hf 2 _ rfl).trans (List.getElem?_eq_getElem (by omega)))
        obtain ⟨z3, e3, x3, _⟩ := field_string Try.underlying9 (by kernel_rfl) (cs := ⟨ci i⟩) (o := 3) ((hf 3 _ rfl).trans (List.getElem?_eq_getElem (by omega)))
        refine ⟨⟨z0, z1, z2, z3⟩, ?_, ?_⟩
        · apply List.ext_getElem?
          intro j
          by_cases hj : j < 4
          · obtain rfl | rfl | rfl | rfl : j = 0 ∨ j = 1 ∨ j = 2 ∨ j = 3 := by omega
            · exact (by simpa using e0 : (ci i)[0]? = some (vi z0))
            · exact (by simpa using e1 : (ci i)[1]? = some (vi z1))
            · exact (by simpa using e2 : (ci i)[2]? = some (vi z2))
            · exact (by simpa using e3 : (ci i)[3]? = some (Value.string z3))
          · rw [List.getElem?_eq_none (by omega), List.getElem?_eq_none (by show 4 ≤ j; omega)]
        · intro d hd
          rw [hdi] at hd
          injection hd with hd
          have hd1 : d = .agg (xs.map (·.1)) := by rw [← hd, hx]
          subst hd1
          have hm : (DataW.lit (H := H) (.string z3.data.toList)) ∈ xs.map (·.1) := by
            refine List.mem_map.2 ⟨_, List.getElem_mem (by omega : 3 < xs.length), ?_⟩
            rw [x3]
          have h1 := bulks.part_le hm
          rw [bulks.string_eq, ba_len] at h1
          show z3.size + 1 ≤ Rows.uptoBulkAll (xs.map (·.1)) + 1
          omega)
    have hsum := bulk_sum F es (by omega) fun i f d h1 h2 => f2 i f h1 d h2
    have hlen : F.length = len := f1
    refine walk (cut := a1) (F := F) (by omega) (fun i => Nat.le_trans (enc_le F i) (by omega)) (lent_rel (sz := 4) hB f3 f4) lent_own ?_
    rw [hlen]
    exact LRel.cons (lent_slice hl hm fun hc => hcap (by omega) hc) (LRel.cons (.int _ _) (LRel.nil _))

theorem over : Rows.frameRowUptoRow.holds Try.pinned (Rows.OpenSpec.upto Rows.frameRowSpec) :=
  OpenClaim.holds_of_cond 11 Try.f11 rfl rfl rfl rfl rfl rfl rfl ⟨rfl, rfl, rfl, rfl, rfl⟩ rfl rfl rfl rfl rfl (by kernel_rfl) Try.func11 (by kernel_rfl)
    (of_decide_eq_true (by kernel_rfl)) (by unfold Func.isWrapper; first | (rw [if_pos (by decide +kernel)]; kernel_rfl) | (rw [if_neg (by decide +kernel)]; exact ⟨rfl, rfl⟩))
    (fun os started H enc _ F => lifted os started H enc F)

/-- The statement. -/
theorem proved : Rows.FrameRowUptoSaid :=
  over
#print axioms proved
end Go.Proofs.Ytjhidbadbdhcmaa.frameRow
