/- The law FlowKeeps answers true at every argument; no condition. -/
import Derived.Test.YtjeppgopdodfgaaRows
import Derived.Test.YtjeppgopdodfgaaFlKu
import Derived.WalkKit
import Derived.ProofKit
import Derived.OpenShut
import Derived.Test.YtjeppgopdodfgaaFlBulk
import Derived.JoinedCond
namespace Go.Proofs.Ytjeppgopdodfgaa.flowKeeps
open Go.ChangeShapes Go.WideShapes Go.ChangeAt Go.RowKit Go.Ev
set_option linter.unusedVariables false
set_option maxRecDepth 100000

theorem own : ownKnob Try.prog.godebug = none := by kernel_rfl
theorem laid : laidOutB Try.prog = true := by kernel_rfl
theorem readable : ∀ t ∈ Try.f5.params.toList, Try.prog.readableRec t = true ∧ t < Try.prog.types.size := by
  have h : (Try.f5.params.toList.all fun t => Try.prog.readableRec t && decide (t < Try.prog.types.size)) = true := by kernel_rfl
  intro t ht
  have := List.all_eq_true.1 h t ht
  simpa using this
theorem body5 : Try.f5.body = some (bodyOf Try.prog 5) := by kernel_rfl

theorem run_of {E : Env} {hint : FuncId → Tmp → Option Hint} {k : Nat} {f : FuncId} {args : List Value} (h : Evals E hint k f args) : ∃ v H', E.run k f args AHeap.empty = some (v, H') ∧ v = .bool true :=
  evalK_ok E hint k _ _ _ _ h.h
theorem walkNil (sz : Int) (w : World) : Calls Try.prog 5 #[.int .i64 sz, .slice none 0 0] w fun e w' => e = .returned (.bool true) ∧ Below w.heap.size w w' := by
  obtain ⟨v, H', h1, h2⟩ := run_of (kwalkNil sz)
  exact law_of laT laF laS laM h1 h2 (Rel.empty w) (Own.empty _) (LRel.cons (.int _ _) (LRel.cons .nils (LRel.nil _)))

set_option maxRecDepth 100000 in
theorem lifted (os : Os) (started : os.Started) (H : Type) (enc : TypeId × Value → H) (F : Stop.Interp) :
    ReturnsInHanded {} Try.checked os 5 .any ((Rows.OpenSpec.upto Rows.flowKeepsSpec).pre6 enc Try.prog Try.f5 Rows.flowKeepsUptoRow.domain false) (((Rows.OpenSpec.upto Rows.flowKeepsSpec).at F).post enc Try.prog Try.f5 false true false false) := by
  refine returnsInHanded_of_cond (C := Try.checked) (s := Rows.OpenSpec.upto Rows.flowKeepsSpec) (k := Rows.uptoSmall) rfl own started (by kernel_rfl) Try.func5
    (OpenSpec.witness (enc := enc) (C := Try.checked) (s := Rows.OpenSpec.upto Rows.flowKeepsSpec) (k := Rows.uptoSmall) rfl false ⟨#[], #[.int .i64 0, .slice none 0 0], []⟩ 8 (by kernel_rfl) (by kernel_rfl) (by kernel_rfl)
      (x := ([.lit (.int .i64 0), .nil], [], [])) (by kernel_rfl) rfl (by kernel_rfl)) ?_
  intro W base args ds gs before hval0 hW _ hk _
  have hval : ∀ (j : Nat) t v, Try.f5.params[j]? = some t → args[j]? = some v → Value.okWide Try.prog W .any 0 t v := by
    intro j t v h1 h2
    exact hval0 j t v h1 h2
  have hW' := hW
  obtain ⟨p, q, hA0, hV, rfl, hfz, hnd⟩ := hW
  have hA : DataW.TrodAll enc Try.prog W 0 (fun _ => true) true Try.f5.params.toList args.toList ds p := hA0
  rw [Try.params5] at hA hval
  obtain ⟨v0, vs0, d0, ds0, p0, q0, hargs, rfl, rfl, h0, r0⟩ := trodAll_cons hA
  obtain ⟨v1, vs1, d1, ds1, p1, q1, rfl, rfl, rfl, h1, r1⟩ := trodAll_cons r0
  obtain ⟨rfl, rfl, rfl⟩ := trodAll_nil r1
  obtain rfl : args = #[v0, v1] := by cases args; simp_all
  obtain ⟨a0, rfl, rfl, rfl, w0⟩ := open_int Try.underlying3 (hval 0 3 v0 rfl rfl) h0
  have fin : (Calls Try.prog 5 #[.int .i64 a0, v1] W fun e w' => e = .returned (.bool true) ∧ Below W.heap.size W w') →
      Calls Try.prog 5 #[.int .i64 a0, v1] W fun e W' => ∃ v, e = .returned v ∧ Rows.flowKeepsSpec.post enc Try.prog Try.f5 false true false false W #[.int .i64 a0, v1] v W' := by
    intro h
    refine h.mono fun e W' ⟨he, hg⟩ => ?_
    subst he
    exact ⟨_, rfl, post_law laid readable rfl rfl Try.underlying4 hW' ⟨rfl, rfl, rfl⟩ hg⟩
  refine fin ?_
  rcases flat_slice (sz := 2) Try.underlying34 (by kernel_rfl) (hval 1 34 v1 rfl rfl) h1 with ⟨rfl, _⟩ | ⟨B, o, len, cap, CS, el, fr, ci, es, rest, rfl, rfl, hes, hl, hm, hB, hcap, hel⟩
  · exact walkNil a0 W
  · have hlen' : (len : Int) ≤ 1048576 := by
      have b1 := bulks.bound hk
      have b2 := bulks.slice_le es rest
      have b3 := Nat.le_trans (bulks.part_le (d := DataW.slice es rest) (List.mem_cons_of_mem _ (List.mem_cons_self))) b1
      omega
    have hlen : ∀ L : List Value, L = ((List.range (len * 2)).map fun k => (CS[o + k]?).getD undef) → ScrOk len L ∧ (∀ k, k < L.length → CS[o + k]? = L[k]?) ∧ (∀ v ∈ L, scal v = true) := by
      rintro L rfl
      have key : ∀ i, i < len → ∃ N w : Int, CS[o + (i * 2 + 1)]? = some (.int .i64 N) ∧ CS[o + (i * 2 + 0)]? = some (.int .u8 w) := by
        intro i hi
        obtain ⟨k1, k2, di, n, _, k3⟩ := hel i hi
        obtain ⟨y0, y1, n', rfl, _, t0, t1⟩ := trod_struct2 Try.underlying42 k3
        obtain ⟨w, e0, _, _⟩ := DataW.trod_int Try.underlying5 t0
        obtain ⟨N, e1, _, _⟩ := DataW.trod_int Try.underlying3 t1
        refine ⟨N, w, ?_, ?_⟩
        · rw [k2 1 (by omega)]
          have : (List.drop 1 (ci i)).take 1 = [.int .i64 N] := by
            have hc : Try.prog.cellsOf 3 = 1 := by kernel_rfl
            have e1' := e1
            simp only [hc] at e1'
            exact e1'
          have h2 : ((List.drop 1 (ci i)).take 1)[0]? = some (.int .i64 N) := by rw [this]; rfl
          simpa [List.getElem?_take, List.getElem?_drop] using h2
        · rw [k2 0 (by omega)]
          have : (List.drop 0 (ci i)).take 1 = [.int .u8 w] := by
            have hc : Try.prog.cellsOf 5 = 1 := by kernel_rfl
            have e0' := e0
            simp only [hc] at e0'
            exact e0'
          have h2 : ((List.drop 0 (ci i)).take 1)[0]? = some (.int .u8 w) := by rw [this]; rfl
          simpa [List.getElem?_take, List.getElem?_drop] using h2
      have hall : ∀ k, k < len * 2 → ∃ v, CS[o + k]? = some v ∧ scal v = true := by
        intro k hk
        obtain ⟨N, w, e1, e2⟩ := key (k / 2) (by omega)
        by_cases h2 : k % 2 = 0
        · rw [show k / 2 * 2 + 0 = k by omega] at e2; exact ⟨_, e2, rfl⟩
        · rw [show k / 2 * 2 + 1 = k by omega] at e1; exact ⟨_, e1, rfl⟩
      have hget : ∀ k, k < len * 2 → ((List.range (len * 2)).map fun k => (CS[o + k]?).getD undef)[k]? = CS[o + k]? := by
        intro k hk
        obtain ⟨v, e, _⟩ := hall k hk
        rw [List.getElem?_map, List.getElem?_range hk, Option.map_some, e]
        rfl
      refine ⟨fun i i0 hi => ?_, fun k hk => ?_, fun v hv => ?_⟩
      · obtain ⟨N, w, e1, e2⟩ := key i.toNat (by omega)
        refine ⟨N, w, ?_, ?_⟩
        · rw [hget _ (by omega), ← e1]; congr 1; omega
        · rw [hget _ (by omega), ← e2]; congr 1; omega
      · rw [List.length_map, List.length_range] at hk
        exact (hget k hk).symm
      · obtain ⟨k, hk, rfl⟩ := List.mem_map.1 hv
        obtain ⟨v, e, hs⟩ := hall k (List.mem_range.1 hk)
        rw [e]; exact hs
    obtain ⟨g1, g2, g3⟩ := hlen _ rfl
    refine law_tri (E := flA) laT Try.func5 body5 (args := [.int .i64 a0, .slice (some ⟨0, 0, none⟩) len len]) (lent_rel (sz := 2) hB g2 g3) lent_own
      (LRel.cons (.int _ _) (LRel.cons (lent_slice hl hm fun hc => hcap (by omega) hc) (LRel.nil _))) ?_
    exact ktri hlen' g1

theorem over : Rows.flowKeepsUptoRow.holds Try.pinned (Rows.OpenSpec.upto Rows.flowKeepsSpec) :=
  OpenClaim.holds_of_cond 5 Try.f5 rfl rfl rfl rfl rfl rfl rfl ⟨rfl, rfl, rfl, rfl, rfl⟩ rfl rfl rfl rfl rfl (by kernel_rfl) Try.func5 (by kernel_rfl)
    (of_decide_eq_true (by kernel_rfl)) (by unfold Func.isWrapper; first | (rw [if_pos (by decide +kernel)]; kernel_rfl) | (rw [if_neg (by decide +kernel)]; exact ⟨rfl, rfl⟩))
    (fun os started H enc _ F => lifted os started H enc F)

/-- The statement. -/
theorem proved : Rows.FlowKeepsUptoSaid :=
  over
#print axioms proved
end Go.Proofs.Ytjeppgopdodfgaa.flowKeeps
