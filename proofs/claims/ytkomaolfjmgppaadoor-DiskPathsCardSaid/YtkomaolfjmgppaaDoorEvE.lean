/- The abstract operations are sound: loads, stores, numbers, texts, equality, conversions. -/
import Derived.Test.YtkomaolfjmgppaaDoorEvD
import Derived.Laws.StructEq
import Derived.Laws.Cells
import Derived.Laws.Strings
namespace Go.Ev
open Go
set_option linter.unusedVariables false
set_option linter.unusedSimpArgs false

structure TyOk (P : Program) (t : TypeId) (i : TyI) : Prop where
  und : P.underlying t = some i.desc
  info : ∃ f, P.info? t = some f ∧ f.size = i.size ∧ f.bytes = i.bytes ∧ ∀ z, i.zero = some z → f.zero = some z
  zok : ∀ z, i.zero = some z → plain z = true
  zsize : ∀ z, i.zero = some z → z.cells.size = i.size
  fields : ∀ fs, i.desc = .struct fs → ∀ f ∈ fs.toList, ∃ g, P.info? f.type = some g
  eqok : i.eqok = true → P.eqGuardType P.depth t = false ∧ P.stoodInHeld t = false

def Ext.row : Ext → Array TypeId → Array TypeId → Array Value → Sem Value
  | .noEscape, _, _ => Extern.AbiNoEscape.same
  | .indexByte, _, _ => Extern.BytealgIndexByte.indexByte
  | .count, _, _ => Extern.BytealgCount.count
  | .compare, _, _ => Extern.BytealgCompare.compare
  | .mapsClone, _, _ => Extern.MapsClone.clone
def extOk (P : Program) (f : FuncId) (k : Ext) : Prop := ∃ F, P.funcs[f]? = some F ∧ F.body.isNone = true ∧ (F.name == "runtime.NumGoroutine") = false ∧
  Extern.findNext F = none ∧ Extern.find F = some (k.row F.params F.resultTypes)
structure Env.TOk (E : Env) : Prop where
  ty : ∀ t i, E.ty t = some i → TyOk E.P t i
  ext : ∀ f k, E.ext f = some k → extOk E.P f k

theorem VRel.plain1 {ρ : Ren} {v : Value} (h : plain1 v = true) : VRel ρ v v := by
  unfold Ev.plain1 at h
  split at h
  · exact .bool _
  · exact .int _ _
  · exact .string _
  · exact .nilp
  · exact .nilm
  · exact .nilf
  · exact .nili
  · exact .nils
  · cases h
theorem VRel.plain {ρ : Ren} {v : Value} (h : plain v = true) : VRel ρ v v := by
  unfold Ev.plain at h
  split at h
  · rename_i cs
    refine .agg cs cs rfl fun i x y hx hy => ?_
    rw [hx] at hy
    injection hy with hy
    subst hy
    rw [List.all_eq_true] at h
    exact .plain1 (h x (Array.mem_toList_iff.2 (Array.mem_of_getElem? hx)))
  · exact .iface _ _ _ (.plain1 h)
  · rename_i f fs cs
    simp at h
    obtain ⟨rfl, rfl⟩ := h
    exact .func _ _ _ _ _ rfl rfl (fun i x y hx => by simp at hx) (fun i x y hx => by simp at hx)
  · exact .plain1 h
theorem VRel.canon {ρ : Ren} (v : Value) : VRel ρ (Ev.canon v) v := by
  unfold Ev.canon
  split
  · rename_i h; exact .plain h
  · exact .top v

theorem okc_ne_top {v : Value} (h : okc v = true) : v ≠ top := by
  intro e; subst e; simp [okc, top] at h
theorem okc_one {v : Value} (h : okc v = true) : one v = true := by
  cases v <;> first | rfl | simp [okc] at h
theorem acells_rel {ρ : Ren} {v V : Value} {cs : List Value} (h : acells v = some cs) (r : VRel ρ v V) :
    LRel ρ cs V.cells.toList ∧ (∀ x ∈ V.cells.toList, one x = true) ∧ v ≠ top := by
  have ht : v ≠ top := by rintro rfl; simp [acells, top, okc] at h
  have hc := r.cells ht
  have hcs : cs = v.cells.toList ∧ ∀ x ∈ cs, okc x = true := by
    unfold acells at h
    split at h
    · split at h
      · rename_i ha; injection h with h; subst h; rw [List.all_eq_true] at ha; exact ⟨rfl, ha⟩
      · cases h
    · rename_i hna
      split at h
      · rename_i ha
        injection h with h
        subst h
        refine ⟨?_, by simpa using ha⟩
        cases v <;> first | rfl | exact absurd rfl (hna _)
      · cases h
  obtain ⟨rfl, hok⟩ := hcs
  refine ⟨hc, ?_, ht⟩
  intro x hx
  obtain ⟨i, hi⟩ := List.mem_iff_getElem?.1 hx
  have hlt : i < v.cells.toList.length := by rw [hc.1]; exact (List.getElem?_eq_some_iff.1 hi).1
  have hv := hc.2 i _ x (List.getElem?_eq_getElem hlt) hi
  have hk := hok _ (List.getElem_mem hlt)
  exact hv.one (okc_one hk) (okc_ne_top hk)

section
variable {E : Env} (hT : E.TOk) {t : TypeId} {i : TyI}
include hT
theorem run_und (h : E.ty t = some i) (w : World) : (underlying t).run E.P w = .ok i.desc w := by
  simp [underlying, (hT.ty t i h).und]
theorem run_size (h : E.ty t = some i) (w : World) : (sizeOf t).run E.P w = .ok i.size w := by
  obtain ⟨f, h1, h2, _⟩ := (hT.ty t i h).info
  simp [sizeOf, typeInfo, h1, h2]
theorem run_info (h : E.ty t = some i) (w : World) : ∃ f, (typeInfo t).run E.P w = .ok f w ∧ f.size = i.size ∧ f.bytes = i.bytes := by
  obtain ⟨f, h1, h2, h3, _⟩ := (hT.ty t i h).info
  exact ⟨f, by simp [typeInfo, h1], h2, h3⟩
theorem run_agg (h : E.ty t = some i) (w : World) : (isAgg t).run E.P w = .ok (isAggD i.desc) w := by
  simp only [isAgg, Sem.run_bind, run_und hT h, Result.andThen_ok]
  cases i.desc <;> rfl
theorem run_zero (h : E.ty t = some i) {z : Value} (hz : i.zero = some z) (w : World) : (zeroValue t).run E.P w = .ok z w := by
  obtain ⟨f, h1, _, _, h4⟩ := (hT.ty t i h).info
  simp [zeroValue, typeInfo, h1, h4 z hz]
end

theorem addr_add (B s n : Nat) : (⟨B, s, none⟩ : Addr).add n = ⟨B, s + n, none⟩ := by
  unfold Addr.add
  split
  · rename_i h; subst h; rfl
  · rfl

/-- Known cells, read one behind the other. -/
theorem rd_rel {ρ : Ren} {H : AHeap} {w : World} (h : Rel ρ H w) {b o n : Nat} {l : Loc} {cs : List Value} (hb : ρ b = some l) (hr : rd H b o n = some cs) :
    ∃ Vs : List Value, LRel ρ cs Vs ∧ cs.length = n ∧ (∀ v ∈ Vs, one v = true) ∧ ∀ j V, Vs[j]? = some V → w.cell? ((⟨l.B, l.s + o, none⟩ : Addr).add j) = some V := by
  unfold rd at hr
  split at hr
  · rename_i cs0 t st anc hg
    split at hr
    · rename_i hle
      injection hr with hr
      subst hr
      obtain ⟨CS, el, fr, e0, e1, e2, e3, e4⟩ := h.obj b l _ hb hg
      have hall : ∀ j, j < n → ∃ V, CS[l.s + (o + j)]? = some V ∧ one V = true ∧ VRel ρ (cs0.getD (o + j) top) V := by
        intro j hj
        obtain ⟨V, a, b, c⟩ := e3 (o + j) (cs0.getD (o + j) top) (by rw [List.getD_eq_getElem?_getD, List.getElem?_eq_getElem (by omega)]; rfl)
        exact ⟨V, a, b, c⟩
      have hle2 : ∀ j, j < n → l.s + o + j < CS.size := by
        intro j hj
        obtain ⟨V, a, _⟩ := hall j hj
        have := (Array.getElem?_eq_some_iff.1 a).1
        omega
      have hlen : ((cs0.drop o).take n).length = n := by simp; omega
      refine ⟨(CS.toList.drop (l.s + o)).take n, ⟨?_, ?_⟩, hlen, ?_, ?_⟩
      · rw [hlen]
        by_cases hn : n = 0
        · subst hn; simp
        · have := hle2 (n - 1) (by omega)
          simp; omega
      · intro j x y hx hy
        rw [List.getElem?_take] at hx hy
        split at hx
        · rename_i hj
          rw [if_pos hj, List.getElem?_drop] at hy
          rw [List.getElem?_drop] at hx
          obtain ⟨V, a, _, c⟩ := hall j hj
          rw [List.getD_eq_getElem?_getD, hx] at c
          have : y = V := by
            have h2 : CS.toList[l.s + o + j]? = some V := by rw [Array.getElem?_toList, ← a]; congr 1; omega
            rw [h2] at hy; exact (Option.some.inj hy).symm
          subst this
          exact c
        · cases hx
      · intro v hv
        obtain ⟨j, hj⟩ := List.mem_iff_getElem?.1 hv
        rw [List.getElem?_take] at hj
        split at hj
        · rename_i hlt
          obtain ⟨V, a, b, _⟩ := hall j hlt
          rw [List.getElem?_drop, Array.getElem?_toList] at hj
          have : l.s + o + j = l.s + (o + j) := by omega
          rw [this, a] at hj
          injection hj with hj
          subst hj
          exact b
        · cases hj
      · intro j V hj
        rw [List.getElem?_take] at hj
        split at hj
        · rw [List.getElem?_drop, Array.getElem?_toList] at hj
          rw [addr_add]
          simp [World.cell?, e0, hj]
        · cases hj
    · cases hr
  · cases hr

theorem rd1_rel {ρ : Ren} {H : AHeap} {w : World} (h : Rel ρ H w) {b o : Nat} {l : Loc} {x : Value} (hb : ρ b = some l) (hr : rd1 H b o = some x) :
    ∃ V, VRel ρ x V ∧ one V = true ∧ w.cell? ⟨l.B, l.s + o, none⟩ = some V := by
  unfold rd1 at hr
  split at hr
  · rename_i cs0 t st anc hg
    obtain ⟨CS, el, fr, e0, e1, e2, e3, e4⟩ := h.obj b l _ hb hg
    obtain ⟨V, a, b, c⟩ := e3 o x hr
    exact ⟨V, c, b, by simp [World.cell?, e0, a]⟩
  · cases hr

theorem aload_ok {E : Env} (hT : E.TOk) {ρ : Ren} {H : AHeap} {w : World} (h : Rel ρ H w) {t : TypeId} {v V x : Value} (hv : VRel ρ v V)
    (hl : aload E t v H = some x) : ∃ X, (Instr.loadAt t V).run E.P w = .ok X w ∧ VRel ρ x X := by
  unfold aload at hl
  split at hl
  · rename_i b o
    cases hv with
    | ptr _ _ l hb =>
      split at hl
      · rename_i i hi
        simp only [Instr.loadAt, Instr.sureAddr, Sem.run_bind, Sem.run_pure, Result.andThen_ok, loadVar, run_agg hT hi]
        split at hl
        · rename_i hag
          simp only [hag, if_true, run_size hT hi, Sem.run_bind, Result.andThen_ok]
          cases hr : rd H b o i.size with
          | none => simp [hr] at hl
          | some cs =>
            simp [hr] at hl
            subst hl
            obtain ⟨Vs, r1, r2, r3, r4⟩ := rd_rel h hb hr
            have := run_loadCells_list (P := E.P) (w := w) ⟨l.B, l.s + o, none⟩ Vs r4
            have hlen : Vs.length = i.size := by rw [← r1.1]; exact r2
            rw [hlen] at this
            refine ⟨.agg ⟨Vs⟩, ?_, .agg' r1⟩
            simp only [this, Result.andThen_ok, Sem.run_pure]
        · rename_i hag
          simp only [hag, if_false, Bool.false_eq_true]
          obtain ⟨V, r1, _, r3⟩ := rd1_rel h hb hl
          refine ⟨V, ?_, r1⟩
          simp [load, Sem.run, r3]
      · cases hl
  · cases hl

theorem wr_ok {P : Program} {ρ : Ren} {H H' : AHeap} {w : World} (h : Rel ρ H w) {b o : Nat} {l : Loc} {cs Cs : List Value} (hb : ρ b = some l)
    (hr : LRel ρ cs Cs) (h1 : ∀ v ∈ Cs, one v = true) (hw : wr H b o cs = some H') :
    ∃ w', (storeCells ⟨l.B, l.s + o, none⟩ Cs).run P w = .ok () w' ∧ Rel ρ H' w' ∧ Step ρ H w ρ H' w' := by
  unfold wr at hw
  split at hw
  · rename_i cs0 t anc hg
    split at hw
    · rename_i hle
      injection hw with hw
      subst hw
      obtain ⟨CS, el, fr, e0, e1, e2, e3, e4⟩ := h.obj b l _ hb hg
      have hlen := hr.1
      by_cases hn : Cs = []
      · subst hn
        have hw0 : Wrote w l.B CS el fr (l.s + o) [] w := ⟨rfl, rfl, rfl, rfl, fun _ _ => rfl, CS, e0, rfl, fun j => by simp; omega⟩
        have := h.write hb hg e0 hr h1 hle hw0
        exact ⟨w, rfl, this.1, this.2⟩
      · have hpos : 0 < Cs.length := List.length_pos_iff.2 hn
        have hsz : l.s + o + Cs.length ≤ CS.size := by
          obtain ⟨V, a, _⟩ := e3 (o + cs.length - 1) (cs0[o + cs.length - 1]'(by omega)) (List.getElem?_eq_getElem _)
          have := (Array.getElem?_eq_some_iff.1 a).1
          omega
        obtain ⟨w', r1, r2⟩ := run_storeCells P l.B el fr Cs w (l.s + o) 0 CS e0 (by omega) (fun j h1 h2 => e4 (by simp) j (by omega) (by omega)) h1
        have := h.write hb hg e0 hr h1 hle r2
        exact ⟨w', r1, this.1, this.2⟩
    · cases hw
  · cases hw
theorem astore_ok {E : Env} (hT : E.TOk) {ρ : Ren} {H H' : AHeap} {w : World} (h : Rel ρ H w) {t : TypeId} {a A v V : Value} (ha : VRel ρ a A) (hv : VRel ρ v V)
    (hs : astore E t a v H = some H') : ∃ w', (Instr.storeAt t A V).run E.P w = .ok () w' ∧ Rel ρ H' w' ∧ Step ρ H w ρ H' w' := by
  unfold astore at hs
  split at hs
  · rename_i b o
    cases ha with
    | ptr _ _ l hb =>
      split at hs
      · rename_i i hi
        split at hs
        · rename_i cs hcs
          split at hs
          · rename_i hn
            obtain ⟨c1, c2, c3⟩ := acells_rel hcs hv
            obtain ⟨w', r1, r2, r3⟩ := wr_ok (P := E.P) h hb c1 c2 hs
            refine ⟨w', ?_, r2, r3⟩
            have hsz : V.cells.size = i.size := by have := c1.1; simp at this; omega
            simp only [Instr.storeAt, Instr.sureAddr, Sem.run_bind, Sem.run_pure, Result.andThen_ok, storeVar, run_size hT hi, hsz]
            simpa using r1
          · cases hs
        · cases hs
      · cases hs
  · cases hs

theorem anew_ok {P : Program} {ρ : Ren} {H H' : AHeap} {w : World} (h : Rel ρ H w) {t : TypeId} {v V x : Value} (hv : VRel ρ v V)
    (hs : anew v H = some (x, H')) : ∃ A w' ρ', (newVar t V).run P w = .ok A w' ∧ Rel ρ' H' w' ∧ Step ρ H w ρ' H' w' ∧ VRel ρ' x (.pointer (some A)) := by
  unfold anew at hs
  split at hs
  · rename_i cs hcs
    simp only [Option.some.injEq, Prod.mk.injEq] at hs
    obtain ⟨rfl, rfl⟩ := hs
    obtain ⟨c1, c2, c3⟩ := acells_rel hcs hv
    have ho : ORel (ρ.upd H.size ⟨w.heap.size, 0, V.cells.size, 0⟩) (w.alloc (.cells V.cells t)) ⟨w.heap.size, 0, V.cells.size, 0⟩ (.cells cs ⟨0, none, true⟩ .live []) := by
      refine ⟨V.cells, t, (0, 0), heap_alloc_new _ _, rfl, ⟨rfl, fun _ h => (by cases h), fun _ => rfl⟩, ?_, fun i _ _ => by omega⟩
      intro i y hy
      have hlt : i < V.cells.toList.length := by rw [← c1.1]; exact (List.getElem?_eq_some_iff.1 hy).1
      refine ⟨V.cells.toList[i], ?_, c2 _ (List.getElem_mem hlt), (c1.2 i y _ hy (List.getElem?_eq_getElem hlt)).mono (Ren.upd_le h.fresh)⟩
      rw [← List.getElem?_eq_getElem hlt, Array.getElem?_toList, Nat.zero_add]
    obtain ⟨r1, r2⟩ := h.alloc (.cells V.cells t) (.cells cs ⟨0, none, true⟩ .live []) ⟨w.heap.size, 0, V.cells.size, 0⟩ rfl ho
    refine ⟨⟨w.heap.size, 0, none⟩, _, _, ?_, r1, r2, ?_⟩
    · simp [newVar, newRow]
    · exact .ptr H.size 0 ⟨w.heap.size, 0, V.cells.size, 0⟩ (Ren.upd_eq _ _ _)
  · cases hs

/-! ### Numbers and texts -/
theorem int_beq (a b : Int) : (a == b) = decide (a = b) := by by_cases h : a = b <;> simp [h]
theorem aint_ok {P : Program} {op : BinOp} {k : IntKind} {a b : Int} {x : Value} (hs : op ≠ .shl) (hs' : op ≠ .shr) (h : aint op k a b = some x) (t : TypeId) (w : World) (ρ : Ren) :
    (Go.binOp op t (.int k a) (.int k b)).run P w = .ok x w ∧ VRel ρ x x := by
  cases op <;> simp only [aint] at h <;> first
    | exact absurd rfl hs
    | exact absurd rfl hs'
    | (cases h; done)
    | (split at h
       · cases h
       · rename_i hz
         injection h with h; subst h
         exact ⟨by simp [Go.binOp, Op.intDiv, hz], .int _ _⟩)
    | (injection h with h; subst h
       first
         | exact ⟨by simp [Go.binOp, Op.intArith, Op.intBits, Op.intCmp, bne], .int _ _⟩
         | exact ⟨by simp [Go.binOp, Op.intArith, Op.intBits, Op.intCmp, bne, int_beq], .bool _⟩)

theorem ashift_ok {P : Program} {op : BinOp} {k k' : IntKind} {a b : Int} {x : Value} (hs : op = .shl ∨ op = .shr) (h : ashift op k a b = some x) (t : TypeId) (w : World) (ρ : Ren) :
    (Go.binOp op t (.int k a) (.int k' b)).run P w = .ok x w ∧ VRel ρ x x := by
  unfold ashift at h
  split at h
  · cases h
  · rename_i hb
    rcases hs with rfl | rfl
    · injection h with h; subst h
      exact ⟨by simp [Go.binOp, Op.shift, hb], .int _ _⟩
    · injection h with h; subst h
      exact ⟨by simp [Go.binOp, Op.shift, hb], .int _ _⟩

theorem seq_eq (x y : ByteArray) : seq x y = (x.toList == y.toList) := by simp [seq, ByteArray.toList_eq]

theorem astr_ok {P : Program} {op : BinOp} {a b : ByteArray} {x : Value} (h : astr op a b = some x) (t : TypeId) (w : World) (ρ : Ren) :
    (Go.binOp op t (.string a) (.string b)).run P w = .ok x w ∧ VRel ρ x x := by
  cases op <;> simp only [astr] at h <;> first
    | (cases h; done)
    | (split at h
       · rename_i hz
         injection h with h; subst h
         refine ⟨?_, .string _⟩
         simp only [Go.binOp, Op.stringOp]
         rw [if_neg]
         · rfl
         · simp [IntKind.max, IntKind.signed, IntKind.bits]; omega
       · cases h)
    | (injection h with h; subst h
       exact ⟨by simp [Go.binOp, Op.stringOp, seq_eq, ByteArray.toList_eq], .bool _⟩)
/-! ### Equality -/
theorem apart_ok {E : Env} (hT : E.TOk) {ρ : Ren} {t : TypeId} {xs : List Value} {ys : Array Value} {o : Nat} {x : Value} (hr : LRel ρ xs ys.toList)
    (h : apart E t xs o = some x) (w : World) : ∃ y, (part t ys o).run E.P w = .ok y w ∧ VRel ρ x y := by
  unfold apart at h
  split at h
  · rename_i i hi
    simp only [part, Sem.run_bind, run_agg hT hi, Result.andThen_ok]
    split at h
    · rename_i hag
      injection h with h; subst h
      simp only [hag, if_true, Sem.run_bind, run_size hT hi, Result.andThen_ok, Sem.run_pure]
      refine ⟨_, rfl, ?_⟩
      have := (hr.drop o).take i.size
      have e : (ys.extract o (o + i.size)) = ⟨(ys.toList.drop o).take i.size⟩ := by
        apply Array.ext'
        simp [Array.toList_extract, List.extract_eq_take_drop]
      rw [e]
      exact .agg' this
    · rename_i hag
      simp only [hag, Bool.false_eq_true, if_false]
      have hlt : o < ys.toList.length := by rw [← hr.1]; exact (List.getElem?_eq_some_iff.1 h).1
      refine ⟨ys.toList[o], ?_, hr.2 o x _ h (List.getElem?_eq_getElem hlt)⟩
      have : ys[o]? = some ys.toList[o] := by rw [← Array.getElem?_toList, List.getElem?_eq_getElem hlt]
      rw [this]
      rfl
  · cases h

theorem aeqs_ok {E : Env} (hT : E.TOk) {ρ : Ren} {eq : TypeId → Value → Value → Option Bool} {d : Nat}
    (heq : ∀ t x y X Y b w, VRel ρ x X → VRel ρ y Y → eq t x y = some b → (Op.equalIn d t X Y).run E.P w = .ok b w) :
    ∀ (fs : List Field) (xs ys : List Value) (Xs Ys : Array Value) (b : Bool) (w : World), LRel ρ xs Xs.toList → LRel ρ ys Ys.toList → aeqs E eq fs xs ys = some b →
      (Op.eqFields d Xs Ys fs).run E.P w = .ok b w := by
  intro fs
  induction fs with
  | nil => intro xs ys Xs Ys b w _ _ h; simp only [aeqs] at h; injection h with h; subst h; rfl
  | cons f fs ih =>
    intro xs ys Xs Ys b w hx hy h
    simp only [aeqs] at h
    simp only [Op.eqFields, Sem.run_ite]
    split at h
    · rename_i hn
      rw [if_neg (by simp [hn])]
      exact ih _ _ _ _ _ _ hx hy h
    · rename_i hn
      rw [if_pos (by simpa using hn)]
      split at h
      · rename_i a b' ha hb
        obtain ⟨A, a1, a2⟩ := apart_ok hT hx ha w
        obtain ⟨B, b1, b2⟩ := apart_ok hT hy hb w
        simp only [Sem.run_bind, a1, b1, Result.andThen_ok]
        split at h
        · rename_i he
          rw [heq _ _ _ _ _ _ _ a2 b2 he]
          simp only [Result.andThen_ok, Sem.run_ite, Bool.not_true, Bool.false_eq_true, if_false]
          exact ih _ _ _ _ _ _ hx hy h
        · rename_i he
          injection h with h; subst h
          rw [heq _ _ _ _ _ _ _ a2 b2 he]
          simp
        · cases h
      · cases h

theorem aeq_ok {E : Env} (hT : E.TOk) {ρ : Ren} : ∀ (d : Nat) (t : TypeId) (x y X Y : Value) (b : Bool) (w : World), VRel ρ x X → VRel ρ y Y → aeq E d t x y = some b →
    ∀ n, d ≤ n → (Op.equalIn n t X Y).run E.P w = .ok b w := by
  intro d
  induction d with
  | zero => intro t x y X Y b w _ _ h; simp [aeq] at h
  | succ d ih =>
    intro t x y X Y b w hx hy h n hn
    obtain ⟨n, rfl⟩ : ∃ m, n = m + 1 := ⟨n - 1, by omega⟩
    simp only [aeq] at h
    split at h
    · cases h
    · rename_i i hi
      have hu := run_und hT hi w
      split at h
      all_goals first
        | (cases h; done)
        | (rename_i hd; cases hx; cases hy; simp only [Op.equalIn, Sem.run_bind, hu, hd, Result.andThen_ok]; simp at h; simp [h]; done)
        | (rename_i hd; cases hx; cases hy; simp only [Op.equalIn, Sem.run_bind, hu, hd, Result.andThen_ok]; split at h <;> simp_all; done)
        | skip
      · rename_i k1 k a k' b' hd
        cases hx; cases hy
        split at h
        · rename_i hk
          subst hk
          injection h with h; subst h
          simp only [Op.equalIn, Sem.run_bind, hu, hd, Result.andThen_ok]
          simp [int_beq]
        · cases h
      · rename_i a b' hd
        cases hx; cases hy
        injection h with h; subst h
        simp only [Op.equalIn, Sem.run_bind, hu, hd, Result.andThen_ok]
        simp [seq_eq, beq_toListBytes]
      · rename_i fs xs ys hd
        split at h
        · rename_i hk
          obtain ⟨XS, rfl, hX⟩ := hx.agg_inv
          obtain ⟨YS, rfl, hY⟩ := hy.agg_inv
          obtain ⟨_, hst⟩ := (hT.ty t i hi).eqok hk
          have hf : E.P.fieldsOf t = fs := by simp [Program.fieldsOf, (hT.ty t i hi).und, hd]
          rw [run_equalIn_struct w n t XS YS (by rw [hf, (hT.ty t i hi).und, hd]) hst, hf]
          exact aeqs_ok hT (fun t x y X Y b w hx hy h => ih t x y X Y b w hx hy h n (by omega)) _ _ _ _ _ _ _ hX hY h
        · cases h
theorem VRel.nili_inv {ρ : Ren} {a : Value} (h : VRel ρ a .nilIface) : a = .nilIface ∨ a = Ev.top := by
  cases h
  · exact .inr rfl
  · exact .inl rfl
theorem VRel.agg_back {ρ : Ren} {a : Value} {ys : Array Value} (h : VRel ρ a (.agg ys)) : (∃ xs, a = .agg xs) ∨ a = Ev.top := by
  cases h
  · exact .inr rfl
  · exact .inl ⟨_, rfl⟩
theorem aeq_some {E : Env} {d : Nat} {t : TypeId} {a b : Value} {r : Bool} (h : aeq E (d + 1) t a b = some r) :
    (a = .nilIface → b = .nilIface → False) ∧ (∀ xs ys, a = .agg xs → b = .agg ys → ∃ i, E.ty t = some i ∧ i.eqok = true) ∧ a ≠ top ∧ b ≠ top := by
  simp only [aeq] at h
  split at h
  · cases h
  · rename_i i hi
    split at h <;> first
      | (cases h; done)
      | (refine ⟨?_, ?_, ?_, ?_⟩ <;> (intros; simp_all [top]); done)
theorem eqGuard_other (P : Program) (op : BinOp) (t : TypeId) (x y : Operand) (A B : Value) (hn : ¬ (A = .nilIface ∧ B = .nilIface))
    (hg : ¬ ((∃ xs, A = .agg xs) ∧ (∃ ys, B = .agg ys))) (w : World) : (Go.eqGuard op t x y A B).run P w = .ok () w := by
  unfold Go.eqGuard
  cases op <;> first
    | rfl
    | (simp only [Bool.not_true, Bool.false_eq_true, if_false]
       split
       · exact absurd ⟨rfl, rfl⟩ hn
       · exact absurd ⟨⟨_, rfl⟩, ⟨_, rfl⟩⟩ hg
       · rfl)
theorem run_pure_unit (P : Program) (w : World) : (Pure.pure () : Sem Unit).run P w = .ok () w := rfl
theorem eqGuard_ok {E : Env} (hT : E.TOk) {ρ : Ren} {op : BinOp} {t : TypeId} {x y : Operand} {a b A B : Value} {r : Bool} (ha : VRel ρ a A) (hb : VRel ρ b B)
    (h : aeq E 20 t a b = some r) (w : World) : (Go.eqGuard op t x y A B).run E.P w = .ok () w := by
  obtain ⟨h1, h2, h3, h4⟩ := aeq_some h
  by_cases hn : A = .nilIface ∧ B = .nilIface
  · obtain ⟨rfl, rfl⟩ := hn
    exact (h1 (ha.nili_inv.resolve_right h3) (hb.nili_inv.resolve_right h4)).elim
  · by_cases hg : (∃ xs, A = .agg xs) ∧ (∃ ys, B = .agg ys)
    · obtain ⟨⟨xs, rfl⟩, ⟨ys, rfl⟩⟩ := hg
      obtain ⟨xs', rfl⟩ := ha.agg_back.resolve_right h3
      obtain ⟨ys', rfl⟩ := hb.agg_back.resolve_right h4
      obtain ⟨i, hi, hk⟩ := h2 _ _ rfl rfl
      exact run_eqGuard_agg w op t x y _ _ ((hT.ty t i hi).eqok hk).1
    · exact eqGuard_other E.P op t x y A B hn hg w

theorem VRel.int_inv {ρ : Ren} {k : IntKind} {n : Int} {V : Value} (h : VRel ρ (.int k n) V) : V = .int k n := by cases h; rfl
theorem VRel.bool_inv {ρ : Ren} {n : Bool} {V : Value} (h : VRel ρ (.bool n) V) : V = .bool n := by cases h; rfl
theorem VRel.string_inv {ρ : Ren} {n : ByteArray} {V : Value} (h : VRel ρ (.string n) V) : V = .string n := by cases h; rfl
theorem VRel.nilIface_inv {ρ : Ren} {V : Value} (h : VRel ρ .nilIface V) : V = .nilIface := by cases h; rfl

/-- Operands that the model holds against each other by 'equal' alone. -/
theorem binOp_eql {ρ : Ren} {t : TypeId} {a b A B : Value} (ha : VRel ρ a A) (hb : VRel ρ b B) (h3 : a ≠ Ev.top) (h4 : b ≠ Ev.top)
    (hi : ∀ k n k' m, ¬ (a = .int k n ∧ b = .int k' m)) (hs : ∀ n m, ¬ (a = .string n ∧ b = .string m)) :
    Go.binOp .eql t A B = (do pure (.bool (← Op.equal t A B))) ∧ Go.binOp .neq t A B = (do pure (.bool (!(← Op.equal t A B)))) := by
  cases ha <;> first
    | exact absurd rfl h3
    | (cases hb <;> first
        | exact absurd rfl h4
        | exact absurd ⟨rfl, rfl⟩ (hi _ _ _ _)
        | exact absurd ⟨rfl, rfl⟩ (hs _ _)
        | exact ⟨rfl, rfl⟩)

theorem abin_ok {E : Env} (hT : E.TOk) {ρ : Ren} {op : BinOp} {t : TypeId} {cx : Bool} {x y : Operand} {a b A B v : Value} (ha : VRel ρ a A) (hb : VRel ρ b B)
    (hcx : cx = true → ((x matches .const _) || (y matches .const _)) = true) (h : abin E op t cx a b = some v) (w : World) :
    ((do Go.eqGuard op t x y A B; Go.binOp op t A B) : Sem Value).run E.P w = .ok v w ∧ VRel ρ v v := by
  unfold abin at h
  split at h
  · rename_i k n k' m
    obtain rfl := ha.int_inv
    obtain rfl := hb.int_inv
    have hg : (Go.eqGuard op t x y (.int k n) (.int k' m)).run E.P w = .ok () w :=
      eqGuard_other E.P op t x y _ _ (by simp) (by simp) w
    rw [Sem.run_bind, hg, Result.andThen_ok]
    split at h
    · exact ashift_ok (.inl rfl) h t w ρ
    · exact ashift_ok (.inr rfl) h t w ρ
    · rename_i h1 h2
      split at h
      · rename_i hk; subst hk; exact aint_ok h1 h2 h t w ρ
      · cases h
  · rename_i n m
    obtain rfl := ha.string_inv
    obtain rfl := hb.string_inv
    have hg : (Go.eqGuard op t x y (.string n) (.string m)).run E.P w = .ok () w :=
      eqGuard_other E.P op t x y _ _ (by simp) (by simp) w
    rw [Sem.run_bind, hg, Result.andThen_ok]
    exact astr_ok h t w ρ
  · obtain rfl := ha.nilIface_inv
    obtain rfl := hb.nilIface_inv
    split at h
    · rename_i hc
      rw [Bool.and_eq_true] at hc
      have hg : (Go.eqGuard op t x y .nilIface .nilIface).run E.P w = .ok () w := by
        unfold Go.eqGuard
        have := hcx hc.1
        cases op <;> first
          | rfl
          | (simp only [Bool.not_true, Bool.false_eq_true, if_false]; exact congrArg (fun s => Sem.run E.P s w) (if_pos this))
      rw [Sem.run_bind, hg, Result.andThen_ok]
      have hd : ∃ i ms, E.ty t = some i ∧ i.desc = .interface ms := by
        have := hc.2
        unfold aiface at this
        split at this
        · rename_i i hi
          split at this
          · rename_i ms hm; exact ⟨i, ms, hi, hm⟩
          · cases this
        · cases this
      obtain ⟨i, ms, hi, hm⟩ := hd
      have he : (Op.equal t .nilIface .nilIface).run E.P w = .ok true w := by
        have : ∀ n, (Op.equalIn (n + 1) t .nilIface .nilIface).run E.P w = .ok true w := by
          intro n
          simp only [Op.equalIn, Sem.run_bind, run_und hT hi, hm, Result.andThen_ok]
          rfl
        exact this 9999
      split at h
      · injection h with h; subst h
        exact ⟨by simp only [Go.binOp, Sem.run_bind, he, Result.andThen_ok, Sem.run_pure], .bool _⟩
      · injection h with h; subst h
        exact ⟨by simp only [Go.binOp, Sem.run_bind, he, Result.andThen_ok, Sem.run_pure, Bool.not_true], .bool _⟩
      · cases h
    · cases h
  · rename_i h1 h2 h3
    have key : ∀ r, aeq E 20 t a b = some r → (Go.eqGuard op t x y A B).run E.P w = .ok () w ∧ (Op.equal t A B).run E.P w = .ok r w ∧
        Go.binOp .eql t A B = (do pure (.bool (← Op.equal t A B))) ∧ Go.binOp .neq t A B = (do pure (.bool (!(← Op.equal t A B)))) := by
      intro r hr
      obtain ⟨_, _, h5, h6⟩ := aeq_some hr
      exact ⟨eqGuard_ok hT ha hb hr w, aeq_ok hT 20 t a b A B r w ha hb hr 10000 (by omega),
        binOp_eql ha hb h5 h6 (fun k n k' m e => h1 _ _ _ _ e.1 e.2) (fun n m e => h2 _ _ e.1 e.2)⟩
    split at h
    · cases hr : aeq E 20 t a b with
      | none => simp [hr] at h
      | some r =>
        simp [hr] at h
        subst h
        obtain ⟨k1, k2, k3, _⟩ := key r hr
        rw [Sem.run_bind, k1, Result.andThen_ok, k3, Sem.run_bind, k2]
        exact ⟨rfl, .bool _⟩
    · cases hr : aeq E 20 t a b with
      | none => simp [hr] at h
      | some r =>
        simp [hr] at h
        subst h
        obtain ⟨k1, k2, _, k3⟩ := key r hr
        rw [Sem.run_bind, k1, Result.andThen_ok, k3, Sem.run_bind, k2]
        exact ⟨rfl, .bool _⟩
    · cases h
end Go.Ev
