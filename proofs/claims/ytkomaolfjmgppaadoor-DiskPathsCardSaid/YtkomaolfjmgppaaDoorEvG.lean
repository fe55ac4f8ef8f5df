/- The abstract operations are sound: append. -/
import Derived.Test.YtkomaolfjmgppaaDoorEvF
import Derived.IntWalk
namespace Go.Ev
open Go
set_option linter.unusedVariables false
set_option linter.unusedSimpArgs false

theorem length_azeros (z : List Value) (n : Nat) : (azeros z n).length = n * z.length := by
  induction n with
  | zero => simp [azeros]
  | succ n ih => simp [azeros, ih, Nat.add_mul]; omega
theorem get_azeros (z : List Value) : ∀ (n i : Nat), i < n * z.length → (azeros z n)[i]? = z[i % z.length]? := by
  intro n
  induction n with
  | zero => intro i h; omega
  | succ n ih =>
    intro i h
    simp only [azeros]
    by_cases hi : i < z.length
    · rw [List.getElem?_append_left hi, Nat.mod_eq_of_lt hi]
    · rw [List.getElem?_append_right (by omega), ih _ (by rw [Nat.add_mul] at h; omega), ← Nat.mod_eq_sub_mod (by omega)]

theorem acells_self {z : Value} {zc : List Value} (h : acells z = some zc) : zc = z.cells.toList := by
  unfold acells at h
  split at h
  · split at h
    · injection h with h; exact h.symm
    · cases h
  · rename_i hna
    split at h
    · injection h with h
      subst h
      cases z <;> first | rfl | exact absurd rfl (hna _)
    · cases h

/-- Zeros, as an append or a make lays them. -/
theorem zeros_rel {ρ : Ren} {z : Value} {zc : List Value} (hz : acells z = some zc) (hp : plain z = true) (n : Nat) :
    LRel ρ (azeros zc n) ((Array.range (n * z.cells.size)).map fun i => z.cells[i % z.cells.size]!).toList ∧
      ∀ v ∈ ((Array.range (n * z.cells.size)).map fun i => z.cells[i % z.cells.size]!).toList, one v = true := by
  have hv : VRel ρ z z := .plain hp
  obtain ⟨h1, h2, h3⟩ := acells_rel hz hv
  have hzc := acells_self hz
  have hlen : zc.length = z.cells.size := by rw [hzc]; simp
  constructor
  · refine ⟨by rw [length_azeros, hlen]; simp, fun i x y hx hy => ?_⟩
    have hi : i < n * z.cells.size := by
      have := (List.getElem?_eq_some_iff.1 hx).1; rw [length_azeros, hlen] at this; exact this
    rw [get_azeros _ _ _ (by rw [hlen]; exact hi), hlen] at hx
    have hpos : 0 < z.cells.size := by rcases Nat.eq_zero_or_pos z.cells.size with e | e; · rw [e] at hi; omega
                                       · exact e
    have hm : i % z.cells.size < z.cells.size := Nat.mod_lt _ hpos
    rw [Array.getElem?_toList, Array.getElem?_map, Array.getElem?_range, if_pos hi, Option.map_some] at hy
    injection hy with hy
    rw [getElem!_pos z.cells _ hm] at hy
    refine h1.2 (i % z.cells.size) x y hx ?_
    rw [Array.getElem?_toList, Array.getElem?_eq_getElem hm, hy]
  · intro v hv
    obtain ⟨i, hi⟩ := List.mem_iff_getElem?.1 hv
    rw [Array.getElem?_toList, Array.getElem?_map, Array.getElem?_range] at hi
    split at hi
    · rename_i hlt
      rw [Option.map_some] at hi
      injection hi with hi
      have hpos : 0 < z.cells.size := by rcases Nat.eq_zero_or_pos z.cells.size with e | e; · rw [e] at hlt; omega
                                         · exact e
      have hm : i % z.cells.size < z.cells.size := Nat.mod_lt _ hpos
      rw [getElem!_pos z.cells _ hm] at hi
      exact h2 v (by rw [← hi]; exact Array.mem_toList_iff.2 (Array.getElem_mem hm))
    · cases hi

theorem bytes_rel (ρ : Ren) (s : ByteArray) : LRel ρ (bytesOf s) (s.data.map fun b => (.int .u8 b.toNat : Value)).toList ∧
    ∀ v ∈ (s.data.map fun b => (.int .u8 b.toNat : Value)).toList, one v = true := by
  constructor
  · rw [Array.toList_map]; exact LRel.map _ fun a _ => .int _ _
  · intro v hv; rw [Array.toList_map, List.mem_map] at hv; obtain ⟨b, _, rfl⟩ := hv; rfl

/-- A source's elements. -/
theorem asrc_ok {P : Program} {ρ : Ren} {H : AHeap} {w : World} (hR : Rel ρ H w) {sz : Nat} {x X : Value} {m : Nat} {new : List Value} (hx : VRel ρ x X)
    (h : asrc sz x H = some (m, new)) : (Builtin.lenOf X).run P w = .ok m w ∧ (∃ New : Array Value, (∀ w' : World, w'.heap = w.heap → (Builtin.firstCells sz m X).run P w' = .ok New w') ∧ LRel ρ new New.toList ∧
      ∀ v ∈ New.toList, one v = true) ∧ new.length = m * sz := by
  unfold asrc at h
  split at h
  · obtain ⟨rfl, _, _⟩ := hx.slice_nil_inv
    simp only [Option.some.injEq, Prod.mk.injEq] at h
    obtain ⟨rfl, rfl⟩ := h
    exact ⟨rfl, ⟨#[], fun _ _ => rfl, .nil ρ, by simp⟩, by simp⟩
  · rename_i b o n c
    obtain ⟨l, C, A, hb, hn, hc, hN, hA, rfl⟩ := hx.slice_inv
    split at h
    · rename_i hz
      simp only [Option.some.injEq, Prod.mk.injEq] at h
      obtain ⟨rfl, rfl⟩ := h
      subst hz
      refine ⟨rfl, ⟨#[], fun _ _ => ?_, .nil ρ, by simp⟩, by simp⟩
      simp [Builtin.firstCells, loadCells, loadCellsFrom]
    · rename_i hz
      split at h
      · rename_i cs hr
        simp only [Option.some.injEq, Prod.mk.injEq] at h
        obtain ⟨rfl, rfl⟩ := h
        obtain ⟨Vs, r1, r2, r3, r4⟩ := rd_rel hR hb hr
        have hA' := hA (by omega)
        subst hA'
        refine ⟨rfl, ⟨⟨Vs⟩, fun w' hw' => ?_, r1, r3⟩, r2⟩
        have := run_loadCells_list (P := P) (w := w') ⟨l.B, l.s + o, none⟩ Vs (fun j V hj => by rw [← r4 j V hj]; simp only [World.cell?, hw'])
        have hlen : Vs.length = n * sz := by rw [← r1.1]; exact r2
        rw [hlen] at this
        exact this
      · cases h
  · rename_i s
    obtain rfl := hx.string_inv
    split at h
    · rename_i hs
      simp only [Option.some.injEq, Prod.mk.injEq] at h
      obtain ⟨rfl, rfl⟩ := h
      subst hs
      obtain ⟨b1, b2⟩ := bytes_rel ρ s
      refine ⟨rfl, ⟨s.data.map fun b => (.int .u8 b.toNat : Value), fun _ _ => ?_, b1, b2⟩, by simp [bytesOf]⟩
      have : s.extract 0 s.size = s := by simp
      simp [Builtin.firstCells, this]
    · cases h
  · cases h

theorem nextslicecap_le (need c : Nat) (h : c < need) : Builtin.nextslicecap need c ≤ 2 * need := by
  have grow : ∀ r c, c < 2 * need → 256 ≤ c → Builtin.growBy need r c ≤ 2 * need := by
    intro r
    induction r with
    | zero => intro c h _; simp only [Builtin.growBy]; omega
    | succ r ih =>
      intro c h h2
      simp only [Builtin.growBy]
      split
      · omega
      · rename_i hlt
        refine ih _ ?_ ?_ <;> omega
  unfold Builtin.nextslicecap
  split
  · omega
  · split
    · omega
    · exact grow 4 c (by omega) (by omega)

theorem run_choose_cap (P : Program) (w : World) (need old : Nat) (e : TypeId) (h : need < 4611686018427387904) :
    ∃ c, (need ≤ c ∧ c ≤ 9223372036854775807) ∧ (choose (.appendCap need old e)).run P w = .ok c w.drew := by
  have hmod := Nat.mod_lt (w.tape w.drawn (.appendCap need old e)) (y := 2 ^ 63 - need) (by omega)
  refine ⟨need + w.tape w.drawn (.appendCap need old e) % (2 ^ 63 - need), ⟨by omega, by omega⟩, ?_⟩
  rw [run_choose]
  simp [Question.forced, Question.cut]
theorem wrap_i64 {l : Int} (h0 : 0 ≤ l) (h1 : l < 9223372036854775808) : IntKind.i64.wrap l = l := IntWalk.i64_in _ (by omega)

/-- What an append finds when it looks what to append. -/
def Src (E : Env) (ρ : Ren) (xt : TypeId) (ei : TyI) (z X : Value) (m : Nat) (new : List Value) (w : World) : Prop :=
  new.length = m * ei.size ∧ ∃ xi New, E.ty xt = some xi ∧ LRel ρ new New.toList ∧ (∀ v ∈ New.toList, one v = true) ∧
    (((∃ e', xi.desc = .slice e' ∨ xi.desc = .string) ∧ (Builtin.lenOf X).run E.P w = .ok m w ∧ (∀ w' : World, w'.heap = w.heap → (Builtin.firstCells ei.size m X).run E.P w' = .ok New w')) ∨
     ((∃ k, xi.desc = .int k) ∧ (∃ k, X = .int k m) ∧ m * ei.bytes ≤ 140737488355328 ∧ m < 4611686018427387904 ∧ New = Builtin.zeroCells z.cells m))

theorem aadd_ok {E : Env} {ρ : Ren} {H : AHeap} {w : World} (hR : Rel ρ H w) {xt : TypeId} {ei : TyI} {z x X : Value} {m : Nat} {new : List Value}
    (hp : plain z = true) (hzs : z.cells.size = ei.size) (hx : VRel ρ x X) (h : aadd E xt ei z x H = some (m, new)) : Src E ρ xt ei z X m new w := by
  unfold aadd at h
  split at h
  · cases h
  · rename_i xi hxi
    split at h
    · rename_i k hd
      split at h
      · rename_i k' l
        obtain rfl := hx.int_inv
        split at h
        · rename_i hl
          split at h
          · rename_i zc hz
            simp only [Option.some.injEq, Prod.mk.injEq] at h
            obtain ⟨rfl, rfl⟩ := h
            obtain ⟨r1, r2⟩ := zeros_rel (ρ := ρ) hz hp l.toNat
            have hzc := acells_self hz
            refine ⟨by rw [length_azeros, hzc]; simp [hzs], xi, _, hxi, r1, r2, .inr ⟨⟨k, hd⟩, ⟨k', by congr 1; omega⟩, ?_, by omega, rfl⟩⟩
            have h3 : ((l.toNat * ei.bytes : Nat) : Int) ≤ 140737488355328 := by rw [Int.natCast_mul, Int.toNat_of_nonneg hl.1]; exact hl.2.1
            omega
          · cases h
        · cases h
      · cases h
    · rename_i e' hd
      obtain ⟨a1, ⟨New, a2, a3, a4⟩, a5⟩ := asrc_ok (P := E.P) hR hx h
      exact ⟨a5, xi, New, hxi, a3, a4, .inl ⟨⟨e', .inl hd⟩, a1, a2⟩⟩
    · rename_i hd
      obtain ⟨a1, ⟨New, a2, a3, a4⟩, a5⟩ := asrc_ok (P := E.P) hR hx h
      exact ⟨a5, xi, New, hxi, a3, a4, .inl ⟨⟨0, .inr hd⟩, a1, a2⟩⟩
    · cases h
def appSt (base : Option Addr) (sz n m C : Nat) (New : Array Value) : Sem Value := do
  if let some a := base then storeCells (a.add (n * sz)) New.toList
  pure (.slice base (n + m) C)

theorem zeroCells_none {z : Value} {m : Nat} (h : m * z.cells.size = 0) : Builtin.zeroCells z.cells m = #[] := by
  unfold Builtin.zeroCells; rw [h]; simp

theorem app_room {E : Env} (hT : E.TOk) {ρ : Ren} {w : World} {st xt e : TypeId} {i ei : TyI} {z X : Value} {m : Nat} {new : List Value}
    (hi : E.ty st = some i) (hd : i.desc = .slice e) (hei : E.ty e = some ei) (hz : ei.zero = some z)
    (hsrc : Src E ρ xt ei z X m new w)
    {base : Option Addr} {n C : Nat} {ats : Array TypeId} {args : Array Value} {ty : TypeId} (h0 : ats[0]? = some st) (h1 : ats[1]? = some xt)
    (a0 : args[0]? = some (.slice base n C)) (a1 : args[1]? = some X) (hm : n + m ≤ C) :
    ∃ New : Array Value, LRel ρ new New.toList ∧ (∀ v ∈ New.toList, one v = true) ∧ (Builtin.append_ ats ty args).run E.P w = (appSt base ei.size n m C New).run E.P w := by
  obtain ⟨f, hf, hf1, hf2⟩ := run_info hT hei w
  obtain ⟨_, xi, New, hxi, r1, r2, h⟩ := hsrc
  refine ⟨New, r1, r2, ?_⟩
  have hzs := (hT.ty e ei hei).zsize z hz
  rcases h with ⟨⟨e', he'⟩, hl, hc⟩ | ⟨⟨k, hk⟩, ⟨k', rfl⟩, hb1, hb2, hN⟩
  · have hc' := hc w rfl
    rcases he' with he' | he'
    all_goals
      simp only [Builtin.append_, appSt, h0, h1, a0, a1, Sem.run_bind, run_und hT hi, hd, Result.andThen_ok, run_size hT hei, run_und hT hxi, Sem.run_pure, Sem.run_ite, he',
        Bool.false_eq_true, if_false, hl, hm, if_true, Bool.not_false, hc']
      cases base <;> simp only [Sem.run_bind, Sem.run_pure, Result.andThen_ok]
  · have hw : IntKind.i64.wrap (m : Int) = m := wrap_i64 (by omega) (by omega)
    have hb3 : ¬ ((m : Int) * f.bytes > 2 ^ 48) := by
      rw [hf2]
      have : ((m * ei.bytes : Nat) : Int) ≤ ((140737488355328 : Nat) : Int) := Int.ofNat_le.2 hb1
      rw [Int.natCast_mul] at this
      omega
    have hz0 : ¬ ((m : Int) < 0) := by omega
    simp only [Builtin.append_, appSt, h0, h1, a0, a1, Sem.run_bind, run_und hT hi, hd, Result.andThen_ok, run_size hT hei, run_und hT hxi, Sem.run_pure, Sem.run_ite, hk,
      if_true, asInt, asIntOf, hw, hz0, if_false, hf, hb3, Int.toNat_natCast, hm, Bool.not_true, Bool.false_eq_true]
    by_cases hn : m * ei.size = 0
    · have : New = #[] := by rw [hN]; exact zeroCells_none (by rw [hzs]; exact hn)
      subst this
      rw [if_pos hn]
      simp only [Result.andThen_ok]
      cases base <;> simp only [Sem.run_bind, Sem.run_pure, Result.andThen_ok]
    · rw [if_neg hn]
      simp only [run_zero hT hei hz, Result.andThen_ok, ← hN]
      cases base <;> simp only [Sem.run_bind, Sem.run_pure, Result.andThen_ok]

theorem app_grow {E : Env} (hT : E.TOk) {ρ : Ren} {w : World} {st xt e : TypeId} {i ei : TyI} {z X : Value} {m : Nat} {new : List Value}
    (hi : E.ty st = some i) (hd : i.desc = .slice e) (hei : E.ty e = some ei) (hz : ei.zero = some z)
    (hsrc : Src E ρ xt ei z X m new w)
    {base : Option Addr} {n C : Nat} {ats : Array TypeId} {args : Array Value} {ty : TypeId} (h0 : ats[0]? = some st) (h1 : ats[1]? = some xt)
    (a0 : args[0]? = some (.slice base n C)) (a1 : args[1]? = some X) (hm : C < n + m) (hb : (n + m) * ei.bytes ≤ 140737488355328) (hs : n + m < 4611686018427387904)
    {Old : Array Value} (hold : (Builtin.firstCells ei.size n (.slice base n C)).run E.P w.drew = .ok Old w.drew) :
    ∃ New : Array Value, LRel ρ new New.toList ∧ (∀ v ∈ New.toList, one v = true) ∧ ∃ c, (n + m ≤ c ∧ c ≤ 9223372036854775807) ∧
      (Builtin.append_ ats ty args).run E.P w = .ok (.slice (some ⟨w.heap.size, 0, none⟩) (n + m) c) (w.drew.alloc (.cells (Old ++ New ++ Builtin.zeroCells z.cells (c - (n + m))) e)) := by
  obtain ⟨f, hf, hf1, hf2⟩ := run_info hT hei w
  obtain ⟨f', hf', _, _⟩ := run_info hT hei w.drew
  obtain ⟨_, xi, New, hxi, r1, r2, h⟩ := hsrc
  obtain ⟨c, hc1, hc2⟩ := run_choose_cap E.P w (n + m) C e hs
  refine ⟨New, r1, r2, c, hc1, ?_⟩
  have hzs := (hT.ty e ei hei).zsize z hz
  have hmm : ¬ (n + m ≤ C) := by omega
  have hmax : ∀ p : Prop, ¬ (((n + m : Nat) : Int) > IntKind.i64.max ∧ p) := by
    intro p hp
    have := hp.1
    simp only [IntKind.max, IntKind.signed, IntKind.bits, if_true] at this
    omega
  have hcap : ¬ (Builtin.nextslicecap (n + m) C * f.bytes > 2 ^ 48) := by
    rw [hf2]
    have h1 := nextslicecap_le (n + m) C hm
    have h2 : Builtin.nextslicecap (n + m) C * ei.bytes ≤ 2 * (n + m) * ei.bytes := Nat.mul_le_mul_right _ h1
    have h3 : 2 * (n + m) * ei.bytes = 2 * ((n + m) * ei.bytes) := Nat.mul_assoc _ _ _
    omega
  rcases h with ⟨⟨e', he'⟩, hl, hc⟩ | ⟨⟨k, hk⟩, ⟨k', rfl⟩, hb1, hb2, hN⟩
  · have hc' := hc w.drew rfl
    rcases he' with he' | he'
    all_goals
      simp only [Builtin.append_, h0, h1, a0, a1, Sem.run_bind, run_und hT hi, hd, Result.andThen_ok, run_size hT hei, run_und hT hxi, Sem.run_pure, Sem.run_ite, he',
        Bool.false_eq_true, if_false, hl, hmm, hf, hmax, hcap, hc2, hf', run_askRoom, hold, hc', Bool.not_false, if_true, run_zero hT hei hz, newRow, run_newObj]
      rfl
  · have hw : IntKind.i64.wrap (m : Int) = m := wrap_i64 (by omega) (by omega)
    have hb3 : ¬ ((m : Int) * f.bytes > 2 ^ 48) := by
      rw [hf2]
      have : ((m * ei.bytes : Nat) : Int) ≤ ((140737488355328 : Nat) : Int) := Int.ofNat_le.2 hb1
      rw [Int.natCast_mul] at this
      omega
    have hz0 : ¬ ((m : Int) < 0) := by omega
    simp only [Builtin.append_, h0, h1, a0, a1, Sem.run_bind, run_und hT hi, hd, Result.andThen_ok, run_size hT hei, run_und hT hxi, Sem.run_pure, Sem.run_ite, hk,
      if_true, asInt, asIntOf, hw, hz0, if_false, hf, hb3, Int.toNat_natCast, hmm, Bool.not_true, Bool.false_eq_true, hmax, hcap, hc2, hf', run_askRoom, hold]
    by_cases hn : m * ei.size = 0
    · have : New = #[] := by rw [hN]; exact zeroCells_none (by rw [hzs]; exact hn)
      subst this
      rw [if_pos hn]
      simp only [Result.andThen_ok, run_zero hT hei hz, newRow, run_newObj, Sem.run_bind, Sem.run_pure]
      rfl
    · rw [if_neg hn]
      simp only [run_zero hT hei hz, Result.andThen_ok, ← hN, newRow, run_newObj, Sem.run_bind, Sem.run_pure]
      rfl
end Go.Ev
