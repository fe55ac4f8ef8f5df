/- A law's arguments: what is read of them, as an abstract heap; a law's row, closed. -/
import Derived.Test.YtkomaolfjmgppaaDoorEvW
import Derived.WideKeyArgs
import Derived.ChangeArms
import Derived.OpenShut
import Derived.RowKit
namespace Go.Ev
open Go Go.ChangeShapes Go.WideShapes Go.RowKit
set_option linter.unusedVariables false
set_option linter.unusedSectionVars false
set_option linter.unusedSimpArgs false

theorem trodAll_stays {H : Type} {enc : TypeId × Value → H} {P : Program} (hl : laidOutB P = true) {W W' : World} {sp : Nat → Bool} : ∀ {ts : List TypeId} {vs : List Value} {ds : List (DataW H)} {ps : List MemPlace},
    (∀ t ∈ ts, P.readableRec t = true ∧ t < P.types.size) → DataW.TrodAll enc P W 0 (fun _ => true) true ts vs ds ps → (∀ p ∈ ps, W.sameAt W' p) → (∀ p ∈ ps, sp p.block = true) → DataW.TrodAll enc P W' 0 sp true ts vs ds ps := by
  intro ts
  induction ts with
  | nil =>
    intro vs ds ps _ h _ _
    obtain ⟨rfl, rfl, rfl⟩ := trodAll_nil h
    exact trodAll_mk0
  | cons t ts ih =>
    intro vs ds ps hr h hs hp
    obtain ⟨v, vs', d, ds', p, q, rfl, rfl, rfl, h1, h2⟩ := trodAll_cons h
    refine trodAll_cons_mk (WideElems.Trod_stays hl (hr t (List.mem_cons_self)).1 (hr t (List.mem_cons_self)).2 h1 (fun x hx => hs x (List.mem_append_left _ hx)) fun x hx => hp x (List.mem_append_left _ hx))
      (ih (fun t ht => hr t (List.mem_cons_of_mem _ ht)) h2 (fun x hx => hs x (List.mem_append_right _ hx)) fun x hx => hp x (List.mem_append_right _ hx))

theorem post_law {H : Type} {enc : TypeId × Value → H} {P : Program} {f : Func} {s : ChangeSpec} {apart fresh handsOn again : Bool} {W W' : World} {args : Array Value} {ds gs : List (DataW H)} {before : List MemPlace}
    (hl : laidOutB P = true) (hr : ∀ t ∈ f.params.toList, P.readableRec t = true ∧ t < P.types.size) (hv : s.vars = []) {tb : TypeId} (hres : f.resultTypes = #[tb]) (hub : P.underlying tb = some .bool)
    (hW : DataW.Whole enc P f.params.toList s.vars apart W args.toList ds gs before) (hfn : (s.fn H ds).results = [.lit (.bool true)] ∧ (s.fn H ds).args = ds ∧ (s.fn H ds).vars = []) (hb : Below W.heap.size W W') :
    s.post enc P f apart fresh handsOn again W args (.bool true) W' := by
  obtain ⟨p, q, hA, hV, rfl, hfz, hnd⟩ := hW
  have hV' := hV
  rw [hv] at hV'
  obtain ⟨rfl, rfl⟩ := trodVars_none hV'
  have hW' : DataW.Whole enc P f.params.toList s.vars apart W args.toList ds [] (p ++ []) := ⟨p, [], hA, hV, rfl, hfz, hnd⟩
  have hd : s.fn H (ds ++ []) = s.fn H ds := by rw [List.append_nil]
  refine post_of_below (pa := p) (pv := []) hW' ?_ ?_ ?_ rfl hb ?_
  · intro b sp hd'
    rw [hd, hfn.1, hres]
    exact trodAll_cons_mk (shut_bool hub _) trodAll_mk0
  · intro sp hsp
    rw [hd, hfn.2.1]
    exact trodAll_stays hl hr hA (fun x hx => hb.same (hW'.lt x (List.mem_append_left _ hx))) fun x hx => hsp x (List.mem_append_left _ hx)
  · intro sp _
    rw [hd, hfn.2.2, hv]
    exact rfl
  · exact ok_one hres rfl (okWide_bool_mk hub _)

/-- A slice, read: its cells. -/
theorem flat_slice {H : Type} {enc : TypeId × Value → H} {P : Program} {W : World} {t e : TypeId} {sz : Nat} (ht : P.underlying t = some (.slice e)) (hsz : P.cellsOf e = sz) {v : Value} {d : DataW H} {ps : List MemPlace}
    (hval : Value.okWide P W .any 0 t v) (hd : DataW.Trod enc P W 0 (fun _ => true) true t v d ps) :
    (v = .slice none 0 0 ∧ d = .nil) ∨ ∃ (B o len cap : Nat) (CS : Array Value) (el : TypeId) (fr : Nat × Nat) (ci : Nat → List Value) (ds rest : List (DataW H)), v = .slice (some ⟨B, o, none⟩) len cap ∧ d = .slice ds rest ∧ ds.length = len ∧ len ≤ cap ∧ cap ≤ maxLen ∧ W.heap[B]? = some (.cells CS el fr) ∧
      (0 < sz → cap ≠ 0 → o + cap * sz ≤ CS.size) ∧
      ∀ i, i < len → (ci i).length = sz ∧ (∀ j, j < sz → CS[o + (i * sz + j)]? = (ci i)[j]?) ∧ ∃ di n, ds[i]? = some di.1 ∧ DataW.trod enc P W 0 (fun _ => true) true n e (ci i) = some di := by
  obtain ⟨fuel, hd⟩ := hd
  rcases DataW.trod_slice ht hd with ⟨hcs, hx⟩ | ⟨a, len, cap, elems, rest, n, _, hcs, hx, _, hl, hm, hlen, hel, hsp, _⟩
  · left
    injection hx with hx1 hx2
    refine ⟨?_, hx1⟩
    cases v <;> simp [Value.cells] at hcs
    · obtain ⟨rfl, rfl, rfl⟩ := hcs; rfl
    · rename_i cs
      exact absurd hval (by simp [Value.okWide, ht, Cell.okWide, Cell.ok])
  · right
    have hvs : v = .slice (some a) len cap := by
      cases v <;> simp [Value.cells] at hcs
      · obtain ⟨rfl, rfl, rfl⟩ := hcs; rfl
      · rename_i cs
        exact absurd hval (by simp [Value.okWide, ht, Cell.okWide, Cell.ok])
    subst hvs
    injection hx with hx1 hx2
    have hok : W.has P .any 0 a e cap := by
      have : Cell.okWide P W .any 0 t (.slice (some a) len cap) := by simpa [Value.okWide, ht] using hval
      unfold Cell.okWide at this
      rw [ht] at this
      unfold Cell.ok at this
      rw [ht] at this
      exact this.2.2
    obtain ⟨_, hspot, row, cells, hsh, _⟩ := hok
    obtain ⟨B, o, sp⟩ := a
    simp only at hspot
    subst hspot
    have hblk : ∃ CS el fr, W.heap[B]? = some (.cells CS el fr) := by
      unfold World.shape? at hsh
      split at hsh
      · exact ⟨_, _, _, by assumption⟩
      · cases hsh
    obtain ⟨CS, el, fr, hB⟩ := hblk
    have hread : ∀ (i : Nat) (ci : List Value), W.cells? 0 ((Addr.mk B o none).add (i * sz)) sz = some ci → ci.length = sz ∧ ∀ j, j < sz → CS[o + (i * sz + j)]? = ci[j]? := by
      intro i ci hci
      unfold World.cells? at hci
      rw [if_pos (Nat.zero_le _)] at hci
      have hlen := mapM_some_length hci
      rw [List.length_range] at hlen
      refine ⟨hlen, fun j hj => ?_⟩
      have hg := mapM_some_get hci j j (by rw [List.getElem?_range hj])
      rw [← hg]
      have ha : ((Addr.mk B o none).add (i * sz)).add j = ⟨B, o + (i * sz + j), none⟩ := by
        unfold Addr.add
        by_cases h1 : i * sz = 0
        · rw [if_pos h1]
          by_cases h2 : j = 0
          · rw [if_pos h2, h1, h2]; rfl
          · rw [if_neg h2, h1, Nat.zero_add]
        · rw [if_neg h1]
          by_cases h2 : j = 0
          · rw [if_pos h2, h2]; rfl
          · rw [if_neg h2]; simp [Nat.add_assoc]
      rw [ha]
      unfold World.cell?
      simp only [hB]
      simp
    rw [hsz] at hel hsp
    have hex : ∀ i, ∃ ci : List Value, i < len → W.cells? 0 ((Addr.mk B o none).add (i * sz)) sz = some ci ∧ ∃ di, elems[i]? = some di ∧ DataW.trod enc P W 0 (fun _ => true) true n e ci = some di := by
      intro i
      by_cases hi : i < len
      · have := hel i hi
        have hi' : i < elems.length := by omega
        rw [List.getElem?_eq_getElem hi', Option.bind_eq_some_iff] at this
        obtain ⟨ci, h1, h2⟩ := this
        exact ⟨ci, fun _ => ⟨h1, _, List.getElem?_eq_getElem hi', h2⟩⟩
      · exact ⟨[], fun h => absurd h hi⟩
    obtain ⟨ci, hci⟩ := Classical.axiomOfChoice hex
    refine ⟨B, o, len, cap, CS, el, fr, ci, elems.map (·.1), rest.map (·.1), rfl, hx1, by simpa using hlen, hl, hm, hB, fun hp hc => ?_, fun i hi => ?_⟩
    · have hlast : ∃ c, W.cells? 0 ((Addr.mk B o none).add ((cap - 1) * sz)) sz = some c := by
        by_cases hk : cap - 1 < len
        · exact ⟨_, (hci (cap - 1) hk).1⟩
        · obtain ⟨hr1, hr2⟩ := hsp rfl
          have := hr2 (cap - 1 - len) (by omega)
          rw [show len + (cap - 1 - len) = cap - 1 by omega] at this
          have hi' : cap - 1 - len < rest.length := by omega
          rw [List.getElem?_eq_getElem hi', Option.bind_eq_some_iff] at this
          obtain ⟨c, h1, _⟩ := this
          exact ⟨c, h1⟩
      obtain ⟨c, hc1⟩ := hlast
      obtain ⟨k1, k2⟩ := hread _ _ hc1
      have := k2 (sz - 1) (by omega)
      rw [List.getElem?_eq_getElem (by omega : sz - 1 < c.length)] at this
      have hlt := (Array.getElem?_eq_some_iff.1 this).1
      have e1 : (cap - 1) * sz + (sz - 1) = cap * sz - 1 := by
        obtain ⟨k, rfl⟩ : ∃ k, cap = k + 1 := ⟨cap - 1, by omega⟩
        rw [Nat.add_sub_cancel, Nat.succ_mul]; omega
      have e2 : 0 < cap * sz := Nat.mul_pos (by omega) hp
      omega
    · obtain ⟨h1, di, h2, h3⟩ := hci i hi
      obtain ⟨k1, k2⟩ := hread _ _ h1
      exact ⟨k1, k2, di, n, by rw [List.getElem?_map, h2]; rfl, h3⟩

/-! ### One list of plain cells, lent -/
def scal : Value → Bool
  | .bool _ | .int _ _ | .string _ => true
  | _ => false
theorem scal_rel {v : Value} (h : scal v = true) (ρ : Ren) : VRel ρ v v ∧ one v = true := by
  cases v <;> simp [scal] at h
  · exact ⟨.bool _, rfl⟩
  · exact ⟨.int _ _, rfl⟩
  · exact ⟨.string _, rfl⟩
def lent (B o N sz : Nat) : Ren := fun b => if b = 0 then some ⟨B, o, N, sz⟩ else none
theorem lent_rel {W : World} {B o sz : Nat} {CS : Array Value} {el : TypeId} {fr : Nat × Nat} {L : List Value} (hB : W.heap[B]? = some (.cells CS el fr))
    (hL : ∀ k, k < L.length → CS[o + k]? = L[k]?) (hs : ∀ v ∈ L, scal v = true) : Rel (lent B o CS.size sz) (AHeap.empty.push (.cells L ⟨sz, none, false⟩ .ro [])) W := by
  have h0 : ∀ b l, lent B o CS.size sz b = some l → b = 0 ∧ l = ⟨B, o, CS.size, sz⟩ := by
    intro b l h
    unfold lent at h
    split at h
    · rename_i hb; injection h with h; exact ⟨hb, h.symm⟩
    · cases h
  have hg : (AHeap.empty.push (.cells L ⟨sz, none, false⟩ .ro [])).get 0 = some (.cells L ⟨sz, none, false⟩ .ro []) := by rw [AHeap.get_push]; rfl
  refine ⟨fun b l h => ?_, fun b l x h k => ?_, fun b l x anc b' l' x' h k hown h' _ _ hne _ => ?_⟩
  · obtain ⟨rfl, rfl⟩ := h0 b l h
    exact ⟨Nat.zero_lt_one, (Array.getElem?_eq_some_iff.1 hB).1⟩
  · obtain ⟨rfl, rfl⟩ := h0 b l h
    rw [hg] at k
    injection k with k
    subst k
    refine ⟨CS, el, fr, hB, rfl, ⟨rfl, fun _ h => (by cases h), fun h => (by cases h)⟩, fun i v hv => ?_, fun hc => absurd rfl hc⟩
    have hm := hs v (List.mem_of_getElem? hv)
    exact ⟨v, by rw [hL i (List.getElem?_eq_some_iff.1 hv).1, hv], (scal_rel hm (fun _ => none)).2, (scal_rel hm _).1⟩
  · obtain ⟨rfl, rfl⟩ := h0 b l h
    obtain ⟨rfl, rfl⟩ := h0 b' l' h'
    exact absurd rfl hne
theorem lent_own {B o N sz : Nat} {L : List Value} (X : Nat) : ¬ Own (lent B o N sz) (AHeap.empty.push (.cells L ⟨sz, none, false⟩ .ro [])) X := by
  rintro ⟨b, l, x, h, _, k, hown⟩
  unfold lent at h
  split at h
  · rename_i hb
    subst hb
    rw [AHeap.get_push] at k
    injection (show some _ = some _ from k) with k
    subst k
    cases hown
  · cases h
theorem lent_slice {B o sz len cap : Nat} {N : Nat} (hl : len ≤ cap) (hm : cap ≤ maxLen) (hN : cap ≠ 0 → o + cap * sz ≤ N) : VRel (lent B o N sz) (.slice (some ⟨0, 0, none⟩) len len) (.slice (some ⟨B, o, none⟩) len cap) :=
  .slice 0 0 len len ⟨B, o, N, sz⟩ cap ⟨B, o, none⟩ rfl (Nat.le_refl _) ⟨hl, by unfold maxLen at hm; omega⟩ hN fun _ => rfl
end Go.Ev
