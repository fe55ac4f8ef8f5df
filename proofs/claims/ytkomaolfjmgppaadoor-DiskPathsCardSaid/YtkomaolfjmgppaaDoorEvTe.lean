/- New rows by the shelf's contracts: strings.Split at a separator of one byte. -/
import Derived.Test.YtkomaolfjmgppaaDoorEvTd
import Derived.Shelf.Strings.Split
namespace Go.Ev
open Go Go.Proofs Go.Shelf Go.RowKit Go.Lib
set_option linter.unusedVariables false
set_option linter.unusedSimpArgs false

/-- A new row, as a contract hands it back. -/
theorem post_row {ρ : Ren} {H : AHeap} {w : World} (hR : Rel ρ H w) {cs : List Value} {CS : Array Value} {e : TypeId} {t : ET} {n c : Nat} (ht : ∀ e', t.el = some e' → e = e') (hc : LRel ρ cs CS.toList)
    (h1 : ∀ v ∈ CS.toList, one v = true) (hn : n ≤ c) (hc63 : c ≤ 9223372036854775807) (hlen : c * t.sz ≤ CS.size) :
    Post ρ H w (.slice (some ⟨H.size, 0, none⟩) n c) (H.push (.cells cs t .live [])) (.returned (.slice (some ⟨w.heap.size, 0, none⟩) n c)) (w.alloc (.cells CS e)) := by
  have ho : ORel (ρ.upd H.size ⟨w.heap.size, 0, CS.size, t.sz⟩) (w.alloc (.cells CS e)) ⟨w.heap.size, 0, CS.size, t.sz⟩ (.cells cs t .live []) := by
    refine ⟨CS, e, (0, 0), heap_alloc_new _ _, rfl, ⟨rfl, ht, fun _ => rfl⟩, ?_, fun i _ _ => by omega⟩
    intro i y hy
    have hlt : i < CS.toList.length := by rw [← hc.1]; exact (List.getElem?_eq_some_iff.1 hy).1
    refine ⟨CS.toList[i], ?_, h1 _ (List.getElem_mem hlt), (hc.2 i y _ hy (List.getElem?_eq_getElem hlt)).mono (Ren.upd_le hR.fresh)⟩
    rw [← List.getElem?_eq_getElem hlt, Array.getElem?_toList, Nat.zero_add]
  obtain ⟨r1, r2⟩ := hR.alloc (.cells CS e) (.cells cs t .live []) ⟨w.heap.size, 0, CS.size, t.sz⟩ rfl ho
  refine ⟨_, _, rfl, r1, r2, .slice H.size 0 n c _ c _ (Ren.upd_eq _ _ _) hn ⟨Nat.le_refl _, hc63⟩ (fun _ => ?_) (fun _ => rfl)⟩
  show 0 + 0 + c * t.sz ≤ CS.size
  omega
theorem strs_rel {ρ : Ren} (l : List ByteArray) : LRel ρ (l.map Value.string) (l.map Value.string) := by
  refine ⟨rfl, fun i x y hx hy => ?_⟩
  rw [hx] at hy
  cases hy
  rw [List.getElem?_map] at hx
  cases h : l[i]? with
  | none => rw [h] at hx; cases hx
  | some s => rw [h] at hx; cases hx; exact .string s
set_option maxHeartbeats 1000000 in
theorem split_one {P : Program} {ρ : Go.Shelf.Ren} (L : Lays.n146 P ρ) (hi9 : (P.info? (ρ.t 9)).map (fun i => (i.zero, i.size, i.bytes)) = some (some (.string ByteArray.empty), 1, 16)) (s : ByteArray) (c : UInt8) (w : World) (hs : s.size < 4294967281) :
    Calls P (ρ.f 146) #[.string s, .string ⟨#[c]⟩] w fun e w' =>
      e = .returned (.slice (some ⟨w.heap.size, 0, none⟩) (Lib.countB s ⟨#[c]⟩ + 1) (Lib.countB s ⟨#[c]⟩ + 1)) ∧ w' = w.alloc (.cells ((Lib.splitB ⟨#[c]⟩ 0 (Lib.countB s ⟨#[c]⟩) s).map Value.string).toArray (ρ.t 9)) := by
  have h1 : 1 ≤ (⟨#[c]⟩ : ByteArray).size := Nat.le_refl 1
  have hle := Lib.countB_le ⟨#[c]⟩ h1 s.size s (Nat.le_refl _)
  have hlen := Lib.splitB_all ⟨#[c]⟩ h1 0 _ s rfl
  have hI : ∀ (x : ByteArray) (cc : Array Value), x.size ≤ s.size → Calls P (ρ.f 143) #[.string x, .string ⟨#[c]⟩] (w.alloc (.cells cc (ρ.t 9))) fun e w' => e = .returned (.int .i64 (Lib.indexB x ⟨#[c]⟩)) ∧ w' = w.alloc (.cells cc (ρ.t 9)) := by
    intro x cc _
    refine (Any.strings_Index_one { L with } x c _).mono fun e w' ⟨he, hw⟩ => ⟨?_, hw⟩
    rw [he]
    show _ = Ending.returned (Value.int .i64 (Lib.index x.data.toList [c]))
    rw [Lib.index_one]
  have hC : Calls P (ρ.f 138) #[.string s, .string ⟨#[c]⟩] w fun e w' => e = .returned (.int .i64 (Lib.countB s ⟨#[c]⟩)) ∧ w' = w := by
    refine (Any.strings_Count_one { L with } s c w).mono fun e w' ⟨he, hw⟩ => ⟨?_, hw⟩
    rw [he]
    show _ = Ending.returned (Value.int .i64 ((Lib.count s.data.toList [c] : Nat) : Int))
    rw [Lib.count_one]
    rfl
  have cc := Any.strings_genSplit_core { L with } hi9 s ⟨#[c]⟩ 0 (-1) (Lib.countB s ⟨#[c]⟩ + 1) w hs h1 (Nat.zero_le _) hI hC (by decide) (by decide) (by rw [if_pos (by decide)]; omega)
  rw [Nat.add_sub_cancel, hlen] at cc
  have e2 : Lib.cellsOf (Lib.splitB ⟨#[c]⟩ 0 (Lib.countB s ⟨#[c]⟩) s) (Lib.countB s ⟨#[c]⟩ + 1) = ((Lib.splitB ⟨#[c]⟩ 0 (Lib.countB s ⟨#[c]⟩) s).map Value.string).toArray := by rw [← hlen]; exact Lib.cellsOf_full _
  rw [e2] at cc
  have t3 := L.t3; have t9 := L.t9; have t31 := L.t31
  have a3 := L.a3; have a9 := L.a9; have a31 := L.a31
  have z3 := L.z3; have v3 := L.v3; have z9 := L.z9; have v9 := L.v9; have z31 := L.z31; have v31 := L.v31
  have e221 : ∀ args w, (callFunc (ρ.f 221) args).run P w = .ok (.enter (ρ.f 221) args) w := enters_of L.f221 (by kernel_rfl) rfl
  go_enter L.f146, Body.n146_ntmps ρ
  go_wp2_with (go_at_fn (ρ.f 221); refine cc.mono ?_; rintro e w' ⟨rfl, hw⟩; rw [hw])
  go_ret
  exact ⟨rfl, rfl⟩
/-- The pieces of a text. -/
def pieces (s : ByteArray) (c : UInt8) : List ByteArray := Lib.splitB ⟨#[c]⟩ 0 (Lib.countB s ⟨#[c]⟩) s
theorem pieces_len (s : ByteArray) (c : UInt8) : (pieces s c).length = Lib.countB s ⟨#[c]⟩ + 1 := Lib.splitB_all ⟨#[c]⟩ (Nat.le_refl 1) 0 _ s rfl
theorem pieces_le (s : ByteArray) (c : UInt8) : (pieces s c).length ≤ s.size + 1 := by
  have := Lib.countB_le ⟨#[c]⟩ (Nat.le_refl 1) s.size s (Nat.le_refl _)
  rw [pieces_len]; omega
def spSpec (t : TypeId) : List Value → SpR
  | [.string s, .string ⟨⟨[c]⟩⟩] => .ret (decide (s.size < 4294967281)) (.slice (some ⟨0, 0, none⟩) (pieces s c).length (pieces s c).length) [.cells ((pieces s c).map Value.string) ⟨1, some t, true⟩ .live []]
  | _ => .fail
theorem split_ok {P : Program} {ρ : Go.Shelf.Ren} {F : Func} (L : Lays.n146 P ρ) (hi9 : (P.info? (ρ.t 9)).map (fun i => (i.zero, i.size, i.bytes)) = some (some (.string ByteArray.empty), 1, 16)) (hF : P.funcs[ρ.f 146]? = some F) (hb : F.body.isSome = true) (hn : F.name ≠ "runtime.NumGoroutine") :
    BSumOk P (ρ.f 146) (newS (spSpec (ρ.t 9))) := by
  refine sumOk_new hF hb hn fun args v os hs w cargs ha => ?_
  unfold spSpec at hs
  split at hs
  case h_2 => cases hs
  rename_i s c
  simp only [SpR.get, Option.some.injEq, Prod.mk.injEq, decide_eq_true_eq] at hs
  obtain ⟨hs, rfl, rfl⟩ := hs
  obtain ⟨S, T1, e1, hS, r1⟩ := ha.cons_left
  obtain ⟨C, T2, e2, hC, r2⟩ := r1.cons_left
  obtain rfl := r2.nil_left
  subst e2
  obtain rfl := hS.string_inv
  obtain rfl := hC.string_inv
  have : cargs = #[.string s, .string ⟨#[c]⟩] := by apply Array.ext'; simpa using e1
  subst this
  refine (split_one L hi9 s c w hs).mono ?_
  rintro e w' ⟨rfl, rfl⟩
  have hp := pieces_len s c
  have hle := pieces_le s c
  rw [← hp]
  exact post_row (Rel.empty w) (fun _ h => Option.some.inj h) (strs_rel (pieces s c)) (by simp [one]) (Nat.le_refl _) (by omega) (by show _ * 1 ≤ _; simp [pieces])
end Go.Ev
