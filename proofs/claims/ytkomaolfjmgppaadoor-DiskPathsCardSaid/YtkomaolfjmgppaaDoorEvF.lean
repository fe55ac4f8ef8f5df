/- The abstract operations are sound: conversions, slices, fields, indexes, made values. -/
import Derived.Test.YtkomaolfjmgppaaDoorEvE
namespace Go.Ev
open Go
set_option linter.unusedVariables false
set_option linter.unusedSimpArgs false

theorem aun_ok {P : Program} {ρ : Ren} {op : UnOp} {x X v : Value} (hx : VRel ρ x X) (h : aun op x = some v) (w : World) :
    (Op.unary op X).run P w = .ok v w ∧ VRel ρ v v := by
  unfold aun at h
  split at h
  · obtain rfl := hx.int_inv; injection h with h; subst h
    exact ⟨by simp [Op.unary, Op.intArith], .int _ _⟩
  · rename_i k n
    obtain rfl := hx.int_inv
    simp only [aint] at h
    injection h with h; subst h
    exact ⟨by simp [Op.unary, Op.intBits], .int _ _⟩
  · obtain rfl := hx.bool_inv; injection h with h; subst h
    exact ⟨by simp [Op.unary], .bool _⟩
  · cases h

def ORel' (ρ : Ren) (x X : Option Value) : Prop := (∀ v, x = some v → ∃ V, X = some V ∧ VRel ρ v V) ∧ (x = none → X = none)

def cbound (d y : Nat) (code : BoundsCode) : Option Value → Sem Nat
  | some v => Instr.sliceBound v y code
  | none => pure d

theorem bound_ok {P : Program} {ρ : Ren} {lo Lo : Option Value} {d n y : Nat} {code : BoundsCode} (hr : ORel' ρ lo Lo)
    (h : abound d lo = some n) (hy : lo ≠ none → n ≤ y) (w : World) : (cbound d y code Lo).run P w = .ok n w := by
  cases lo with
  | none =>
    simp only [abound] at h
    injection h with h; subst h
    rw [hr.2 rfl]; rfl
  | some v =>
    obtain ⟨V, rfl, hv⟩ := hr.1 v rfl
    have hle := hy (by simp)
    unfold abound at h
    split at h
    · rename_i e; cases e
    · rename_i k m e
      cases e
      obtain rfl := hv.int_inv
      split at h
      · rename_i hm
        injection h with h; subst h
        have : m ≤ y := by omega
        simp [cbound, Instr.sliceBound, asIntOf, hm, this]
      · cases h
    · cases h

theorem sliceBounds_ok {P : Program} {ρ : Ren} {isSlice : Bool} {lo hi Lo Hi : Option Value} {len cap l h : Nat} (hl : ORel' ρ lo Lo) (hh : ORel' ρ hi Hi)
    (el : abound 0 lo = some l) (eh : abound len hi = some h) (h1 : l ≤ h) (h2 : h ≤ cap) (w : World) :
    (Instr.sliceBounds isSlice len cap Lo Hi none).run P w = .ok (l, h, cap) w := by
  have a := fun code => bound_ok (P := P) (code := code) (y := cap) hh eh (fun _ => h2) w
  have b := bound_ok (P := P) (code := .sliceB) (y := h) hl el (fun _ => h1) w
  cases Hi with
  | none =>
    have a1 : (Pure.pure len : Sem Nat).run P w = .ok h w := a .sliceAcap
    rw [Sem.run_pure] at a1
    injection a1 with a1
    subst a1
    cases Lo with
    | none =>
      have b1 : (Pure.pure 0 : Sem Nat).run P w = .ok l w := b
      rw [Sem.run_pure] at b1
      injection b1 with b1
      subst b1
      rfl
    | some u =>
      have b1 : (Instr.sliceBound u len .sliceB).run P w = .ok l w := b
      show ((do let l ← Instr.sliceBound u len .sliceB; pure (l, len, cap)) : Sem _).run P w = _
      rw [Sem.run_bind, b1]; rfl
  | some v =>
    have a1 : (Instr.sliceBound v cap (if isSlice then .sliceAcap else .sliceAlen)).run P w = .ok h w := a _
    cases Lo with
    | none =>
      have b1 : (Pure.pure 0 : Sem Nat).run P w = .ok l w := b
      rw [Sem.run_pure] at b1
      injection b1 with b1
      subst b1
      show ((do let h ← Instr.sliceBound v cap (if isSlice then .sliceAcap else .sliceAlen); pure (0, h, cap)) : Sem _).run P w = _
      rw [Sem.run_bind, a1]; rfl
    | some u =>
      have b1 : (Instr.sliceBound u h .sliceB).run P w = .ok l w := b
      show ((do let h ← Instr.sliceBound v cap (if isSlice then .sliceAcap else .sliceAlen); let l ← Instr.sliceBound u h .sliceB; pure (l, h, cap)) : Sem _).run P w = _
      rw [Sem.run_bind, a1, Result.andThen_ok, Sem.run_bind, b1]; rfl

theorem VRel.slice_nil_inv {ρ : Ren} {n c : Nat} {V : Value} (h : VRel ρ (.slice none n c) V) : V = .slice none 0 0 ∧ n = 0 ∧ c = 0 := by cases h; exact ⟨rfl, rfl, rfl⟩
theorem VRel.slice_inv {ρ : Ren} {b o n c : Nat} {V : Value} (h : VRel ρ (.slice (some ⟨b, o, none⟩) n c) V) :
    ∃ l C A, ρ b = some l ∧ n ≤ c ∧ (c ≤ C ∧ C ≤ 9223372036854775807) ∧ (C ≠ 0 → l.s + o + C * l.t ≤ l.N) ∧ (C ≠ 0 → A = ⟨l.B, l.s + o, none⟩) ∧ V = .slice (some A) n C := by
  cases h with
  | slice _ _ _ _ l C A h hn hc hN hA => exact ⟨l, C, A, h, hn, hc, hN, hA, rfl⟩
theorem VRel.ptr_inv {ρ : Ren} {b o : Nat} {V : Value} (h : VRel ρ (.pointer (some ⟨b, o, none⟩)) V) : ∃ l, ρ b = some l ∧ V = .pointer (some ⟨l.B, l.s + o, none⟩) := by
  cases h with
  | ptr _ _ l h => exact ⟨l, h, rfl⟩

theorem asize_some {E : Env} {t : TypeId} {n : Nat} (h : asize E t = some n) : ∃ i, E.ty t = some i ∧ i.size = n := by
  unfold asize at h
  split at h
  · rename_i i hi; injection h with h; exact ⟨i, hi, h⟩
  · cases h

theorem strided_ok {ρ : Ren} {H : AHeap} {w : World} (h : Rel ρ H w) {b sz : Nat} {l : Loc} (hb : ρ b = some l) (hs : strided H b sz = true) : l.t = sz := by
  unfold strided at hs
  split at hs
  · rename_i cs t st anc hg
    obtain ⟨CS, el, fr, e0, e1, e2, e3, e4⟩ := h.obj b l _ hb hg
    rw [e2.1]; simpa using hs
  · cases hs

theorem aslice_ok {E : Env} (hT : E.TOk) {ρ : Ren} {H : AHeap} {w : World} (hR : Rel ρ H w) {t : TypeId} {x X v : Value} {lo hi Lo Hi : Option Value} (hx : VRel ρ x X) (hl : ORel' ρ lo Lo) (hh : ORel' ρ hi Hi)
    (h : aslice E t x lo hi H = some v) : ∃ V, (Instr.sliceAt t X Lo Hi none).run E.P w = .ok V w ∧ VRel ρ v V := by
  unfold aslice at h
  split at h
  · cases h
  · rename_i i hi'
    split at h
    · rename_i s hd
      obtain rfl := hx.string_inv
      split at h
      · rename_i l h' el eh
        split at h
        · rename_i hc
          injection h with h; subst h
          refine ⟨_, ?_, .string _⟩
          simp only [Instr.sliceAt, Instr.slice, Sem.run_bind, run_und hT hi', hd, Result.andThen_ok, Option.isSome_none, Bool.false_eq_true, if_false,
            sliceBounds_ok hl hh el eh hc.1 hc.2]
          rfl
        · cases h
      · cases h
    · rename_i e n c hd
      obtain ⟨rfl, rfl, rfl⟩ := hx.slice_nil_inv
      split at h
      · rename_i ei l h' he el eh
        injection h with h; subst h
        refine ⟨.slice none 0 0, ?_, .nils⟩
        simp only [Instr.sliceAt, Instr.slice, Sem.run_bind, run_und hT hi', hd, Result.andThen_ok, run_size hT he,
          sliceBounds_ok hl hh el eh (Nat.le_refl 0) (Nat.le_refl 0)]
        rfl
      · cases h
    · rename_i e b o n c hd
      obtain ⟨l, C, A, hb, hn, hc, hN, hA, rfl⟩ := hx.slice_inv
      split at h
      · rename_i sz lo' h' he el eh
        split at h
        · rename_i hcc
          injection h with h; subst h
          obtain ⟨ei, hei, hsz⟩ := asize_some he
          have hst := strided_ok hR hb hcc.2.2
          simp only [Instr.sliceAt, Instr.slice, Sem.run_bind, run_und hT hi', hd, Result.andThen_ok, run_size hT hei,
            sliceBounds_ok hl hh el eh hcc.1 (Nat.le_trans hcc.2.1 hc.1), Sem.run_pure]
          refine ⟨_, rfl, ?_⟩
          by_cases hz : C = lo'
          · subst hz
            rw [if_pos rfl]
            have h1 : h' - C = 0 := by omega
            have h2 : c - C = 0 := by omega
            rw [h1, h2, Nat.sub_self]
            exact .slice b _ 0 0 l 0 A hb (Nat.le_refl _) ⟨Nat.le_refl _, by omega⟩ (fun h => absurd rfl h) (fun h => absurd rfl h)
          · rw [if_neg hz]
            have hC : C ≠ 0 := by omega
            have hA' := hA hC
            subst hA'
            rw [Option.map_some, addr_add, hsz]
            refine .slice b (o + lo' * sz) (h' - lo') (c - lo') l (C - lo') _ hb (by omega) (by omega) (fun _ => ?_) (fun _ => by rw [Nat.add_assoc])
            have := hN hC
            rw [hst] at this ⊢
            have e1 : lo' * sz + (C - lo') * sz = C * sz := by rw [← Nat.add_mul]; congr 1; omega
            omega
        · cases h
      · cases h
    · cases h

theorem fieldPlace_ok {E : Env} (hT : E.TOk) {f : Field} {n : Nat} (h : asize E f.type = some (n + 1)) (B s : Nat) (w : World) :
    (fieldPlace ⟨B, s, none⟩ f).run E.P w = .ok ⟨B, s + f.offset, none⟩ w := by
  obtain ⟨i, hi, hs⟩ := asize_some h
  simp only [fieldPlace, Sem.run_bind, run_size hT hi, Result.andThen_ok, hs, Nat.succ_ne_zero, if_false, Sem.run_ite, Sem.run_pure, addr_add, Nat.add_one_ne_zero]

theorem afieldAddr_ok {E : Env} (hT : E.TOk) {ρ : Ren} {t : TypeId} {x X v : Value} {f : Nat} (hx : VRel ρ x X) (h : afieldAddr E t x f = some v) (w : World) :
    ∃ V, (Instr.fieldAt t X f).run E.P w = .ok V w ∧ VRel ρ v V := by
  unfold afieldAddr at h
  split at h
  · rename_i i b o hi
    obtain ⟨l, hb, rfl⟩ := hx.ptr_inv
    split at h
    · rename_i fs hd
      split at h
      · rename_i fd hf
        split at h
        · rename_i n hn
          injection h with h; subst h
          refine ⟨_, ?_, .ptr b (o + fd.offset) l hb⟩
          simp only [Instr.fieldAt, Sem.run_bind, run_und hT hi, hd, Result.andThen_ok, hf, Instr.sureAddr, Sem.run_pure, fieldPlace_ok hT hn, Nat.add_assoc]
        · cases h
      · cases h
    · cases h
  · cases h

theorem afield_ok {E : Env} (hT : E.TOk) {ρ : Ren} {t : TypeId} {x X v : Value} {f : Nat} (hx : VRel ρ x X) (h : afield E t x f = some v) (w : World) :
    ∃ V, (Instr.field t X f).run E.P w = .ok V w ∧ VRel ρ v V := by
  unfold afield at h
  split at h
  · rename_i i cs hi
    obtain ⟨ys, rfl, hr⟩ := hx.agg_inv
    split at h
    · rename_i fs hd
      split at h
      · rename_i fd hf
        obtain ⟨y, h1, h2⟩ := apart_ok hT hr h w
        refine ⟨y, ?_, h2⟩
        simp only [Instr.field, Sem.run_bind, run_und hT hi, hd, Result.andThen_ok, hf, asAgg, Sem.run_pure, h1]
      · cases h
    · cases h
  · cases h

theorem aindexAddr_ok {E : Env} (hT : E.TOk) {ρ : Ren} {t : TypeId} {x X ix IX v : Value} (hx : VRel ρ x X) (hix : VRel ρ ix IX) (h : aindexAddr E t x ix = some v) (w : World) :
    ∃ V, (Instr.indexAt t X IX).run E.P w = .ok V w ∧ VRel ρ v V := by
  unfold aindexAddr at h
  split at h
  · rename_i i k n hi
    obtain rfl := hix.int_inv
    split at h
    · rename_i e b o len c hd
      obtain ⟨l, C, A, hb, hn, hc, hN, hA, rfl⟩ := hx.slice_inv
      split at h
      · rename_i sz hs
        obtain ⟨ei, hei, hsz⟩ := asize_some hs
        split at h
        · rename_i hin
          injection h with h; subst h
          have hC : C ≠ 0 := by omega
          have hA' := hA hC
          subst hA'
          refine ⟨_, ?_, .ptr b (o + n.toNat * sz) l hb⟩
          simp only [Instr.indexAt, asIntOf, Sem.run_bind, Sem.run_pure, run_und hT hi, hd, Result.andThen_ok, Sem.run_ite, hin, and_self, if_true, run_size hT hei, addr_add, hsz, Nat.add_assoc]
        · cases h
      · cases h
    · rename_i len e b o hd
      obtain ⟨l, hb, rfl⟩ := hx.ptr_inv
      split at h
      · rename_i sz hs
        obtain ⟨ei, hei, hsz⟩ := asize_some hs
        split at h
        · rename_i hin
          injection h with h; subst h
          refine ⟨_, ?_, .ptr b (o + n.toNat * sz) l hb⟩
          simp only [Instr.indexAt, asIntOf, Instr.sureAddr, Sem.run_bind, Sem.run_pure, run_und hT hi, hd, Result.andThen_ok, Sem.run_ite, hin, and_self, if_true, run_size hT hei, addr_add, hsz, Nat.add_assoc]
        · cases h
      · cases h
    · cases h
  · cases h

theorem aindex_ok {E : Env} (hT : E.TOk) {ρ : Ren} {t : TypeId} {x X ix IX v : Value} (hx : VRel ρ x X) (hix : VRel ρ ix IX) (h : aindex E t x ix = some v) (w : World) :
    ∃ V, (Instr.index t X IX).run E.P w = .ok V w ∧ VRel ρ v V := by
  unfold aindex at h
  split at h
  · rename_i i k n hi
    obtain rfl := hix.int_inv
    split at h
    · rename_i s hd
      obtain rfl := hx.string_inv
      split at h
      · rename_i hn
        split at h
        · rename_i b hb
          injection h with h; subst h
          refine ⟨_, ?_, .int _ _⟩
          have : s[n.toNat]? = some b := by
            rw [Array.getElem?_toList] at hb
            obtain ⟨hlt, hb⟩ := Array.getElem?_eq_some_iff.1 hb
            have hs : n.toNat < s.size := hlt
            rw [getElem?_pos s n.toNat hs]
            exact congrArg some hb
          simp only [Instr.index, asIntOf, Sem.run_bind, Sem.run_pure, run_und hT hi, hd, Result.andThen_ok, hn, if_true, this]
        · cases h
      · cases h
    · rename_i len e cs hd
      obtain ⟨ys, rfl, hr⟩ := hx.agg_inv
      split at h
      · rename_i sz hs
        obtain ⟨ei, hei, hsz⟩ := asize_some hs
        split at h
        · rename_i hin
          obtain ⟨y, h1, h2⟩ := apart_ok hT hr h w
          refine ⟨y, ?_, h2⟩
          simp only [Instr.index, asIntOf, Sem.run_bind, Sem.run_pure, run_und hT hi, hd, Result.andThen_ok, Sem.run_ite, hin, and_self, if_true, run_size hT hei, hsz, h1]
        · cases h
      · cases h
    · cases h
  · cases h
end Go.Ev
