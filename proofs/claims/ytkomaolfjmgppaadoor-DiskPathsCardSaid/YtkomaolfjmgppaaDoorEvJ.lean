/- The abstract operations are sound: make, conversions, maps, function values, what is taken out of a tuple. -/
import Derived.Test.YtkomaolfjmgppaaDoorEvI
import Derived.Lib.ConvBytes
import Derived.Laws.BytesString
import Derived.Laws.Build
namespace Go.Ev
open Go
set_option linter.unusedVariables false
set_option linter.unusedSimpArgs false

theorem amakeSlice_ok {E : Env} (hT : E.TOk) {ρ : Ren} {H H' : AHeap} {w : World} (hR : Rel ρ H w) {t : TypeId} {l L c C v : Value} (hl : VRel ρ l L) (hc : VRel ρ c C)
    (h : amakeSlice E t l c H = some (v, H')) : ∃ V w' ρ', (Instr.makeSlice t L C).run E.P w = .ok V w' ∧ Rel ρ' H' w' ∧ Step ρ H w ρ' H' w' ∧ VRel ρ' v V := by
  unfold amakeSlice at h
  split at h
  · rename_i i k l k' c hi
    obtain rfl := hl.int_inv
    obtain rfl := hc.int_inv
    split at h
    · rename_i e hd
      split at h
      · cases h
      · rename_i ei hei
        split at h
        · cases h
        · rename_i z hz
          have hzs := (hT.ty e ei hei).zsize z hz
          have hzp := (hT.ty e ei hei).zok z hz
          split at h
          · cases h
          · rename_i zc hzc
            split at h
            · rename_i hb
              simp only [Option.some.injEq, Prod.mk.injEq] at h
              obtain ⟨rfl, rfl⟩ := h
              obtain ⟨b1, b2, b3, b4, b5⟩ := hb
              obtain ⟨f, hf, hf1, hf2⟩ := run_info hT hei w
              have hwl : IntKind.i64.wrap l = l := wrap_i64 b2 (by omega)
              have hwc : IntKind.i64.wrap c = c := wrap_i64 (by omega) b5
              obtain ⟨r1, r2⟩ := zeros_rel (ρ := ρ) hzc hzp c.toNat
              have hsz : c.toNat * ei.size ≤ (Array.map (fun i => z.cells[i % z.cells.size]!) (Array.range (c.toNat * z.cells.size))).size := by
                simp [hzs]
              obtain ⟨w', ρ', q1, q2, q3, q4⟩ := newRow_ok (P := E.P) (e := e) (n := l.toNat) (c := c.toNat) (t := ⟨ei.size, some e, true⟩) hR (fun _ h => Option.some.inj h) r1 r2 (by omega) (by omega) hsz
              refine ⟨_, w', ρ', ?_, q2, q3, q4⟩
              have hlarge : ((decide (c < 0) || decide ((f.bytes : Int) * c > 2 ^ 48)) || decide (l < 0) || decide (l > c)) = false := by
                rw [hf2]
                have : (ei.bytes : Int) * c = c * ei.bytes := Int.mul_comm _ _
                simp only [Bool.or_eq_false_iff, decide_eq_false_iff_not]
                refine ⟨⟨⟨by omega, by rw [this]; omega⟩, by omega⟩, by omega⟩
              simp only [Instr.makeSlice, Sem.run_bind, run_und hT hi, hd, Result.andThen_ok, asInt, asIntOf, Sem.run_pure, hf, hwl, hwc, Sem.run_ite, run_askRoom, run_size hT hei, hlarge,
                Bool.false_eq_true, if_false]
              by_cases hn : c.toNat * ei.size = 0
              · rw [if_pos hn]
                have e0 : (Array.map (fun x => (#[] : Array Value)[x % (#[] : Array Value).size]!) (Array.range (c.toNat * ei.size))) =
                    (Array.range (c.toNat * ei.size)).map fun i => z.cells[i % ei.size]! := by rw [hn]; simp
                simp only [Result.andThen_ok, e0]
                rw [hzs] at q1
                rw [q1]
                rfl
              · rw [if_neg hn]
                simp only [run_zero hT hei hz, Result.andThen_ok, hzs]
                rw [hzs] at q1
                rw [q1]
                rfl
            · cases h
    · cases h
  · cases h

theorem unbytes_ok : ∀ {cs : List Value} {l : List UInt8}, unbytes cs = some l → ∃ ns : List Int, cs = ns.map (Value.int .u8) ∧ l = ns.map fun n => UInt8.ofNat n.toNat := by
  intro cs
  induction cs with
  | nil => intro l h; simp only [unbytes] at h; injection h with h; exact ⟨[], rfl, h.symm⟩
  | cons v cs ih =>
    intro l h
    unfold unbytes at h
    split at h
    · rename_i e; cases e
    · rename_i n vs e
      cases e
      split at h
      · rename_i l' hl'
        injection h with h; subst h
        obtain ⟨ns, rfl, rfl⟩ := ih hl'
        exact ⟨n :: ns, rfl, rfl⟩
      · cases h
    · cases h
theorem fold_push : ∀ (ns : List Int) (s : ByteArray), ns.foldl (fun (r : ByteArray) n => r.push (UInt8.ofNat n.toNat)) s = ⟨s.data ++ (ns.map fun n => UInt8.ofNat n.toNat).toArray⟩ := by
  intro ns
  induction ns with
  | nil => intro s; simp
  | cons n ns ih =>
    intro s
    rw [List.foldl_cons, ih]
    congr 1
    apply Array.ext'
    simp [ByteArray.push]
theorem LRel.ints {ρ : Ren} {ns : List Int} {k : IntKind} {Vs : List Value} (h : LRel ρ (ns.map (Value.int k)) Vs) : Vs = ns.map (Value.int k) := by
  induction ns generalizing Vs with
  | nil => exact h.nil_left
  | cons n ns ih =>
    obtain ⟨y, t, rfl, h1, h2⟩ := h.cons_left
    rw [ih h2, h1.int_inv]; rfl

theorem aconv_ok {E : Env} (hT : E.TOk) {ρ : Ren} {H H' : AHeap} {w : World} (hR : Rel ρ H w) {s d : TypeId} {x X v : Value} (hx : VRel ρ x X)
    (h : aconv E s d x H = some (v, H')) : ∃ V w' ρ', (Go.convert s d X).run E.P w = .ok V w' ∧ Rel ρ' H' w' ∧ Step ρ H w ρ' H' w' ∧ VRel ρ' v V := by
  unfold aconv at h
  split at h
  · rename_i i j hi hj
    have ui := (hT.ty s i hi).und
    have uj := (hT.ty d j hj).und
    split at h
    · rename_i di k k' n hdj
      obtain rfl := hx.int_inv
      simp only [Option.some.injEq, Prod.mk.injEq] at h
      obtain ⟨rfl, rfl⟩ := h
      refine ⟨_, w, ρ, ?_, hR, .refl _ _ _, .int _ _⟩
      simp only [Go.convert, Sem.run_bind, run_und hT hi, run_und hT hj, hdj, Result.andThen_ok, Conv.intToInt, Sem.run_pure]
    · rename_i di t hdj
      obtain rfl := hx.string_inv
      simp only [Option.some.injEq, Prod.mk.injEq] at h
      obtain ⟨rfl, rfl⟩ := h
      refine ⟨_, w, ρ, ?_, hR, .refl _ _ _, .string _⟩
      simp only [Go.convert, Sem.run_bind, run_und hT hi, run_und hT hj, hdj, Result.andThen_ok, Sem.run_pure]
    · rename_i di e t hdj
      obtain rfl := hx.string_inv
      split at h
      · rename_i ei hei
        split at h
        · rename_i hde
          split at h
          · rename_i hsz
            simp only [Option.some.injEq, Prod.mk.injEq] at h
            obtain ⟨rfl, rfl⟩ := h
            have he := (hT.ty e ei hei).und
            rw [hde] at he
            rw [hdj] at uj
            have hrun := Lib.run_convert_string_bytes w s d e t ui uj he
            have hcap : t.size ≤ grownCap w t.size 0 e := Nat.le_add_right _ _
            have hcap2 : grownCap w t.size 0 e ≤ 9223372036854775807 := grownCap_le_maxLen w t.size 0 e hsz.2
            have hN : (Lib.bytesCells w e t).size = grownCap w t.size 0 e := by
              unfold Lib.bytesCells
              rw [Array.size_append, Array.size_map, Array.size_replicate]
              have : t.data.size = t.size := rfl
              omega
            let l : Loc := ⟨w.heap.size, 0, (Lib.bytesCells w e t).size, 1⟩
            have ho : ORel (ρ.upd H.size l) (Lib.bytesWorld w e t) l (.cells (bytesOf t) ⟨1, some e, false⟩ .live []) := by
              refine ⟨Lib.bytesCells w e t, e, _, Lib.bytesWorld_at_new w e t, rfl, ⟨rfl, fun _ h => Option.some.inj h, fun h => by cases h⟩, ?_, ?_⟩
              · intro q y hy
                have hlt : q < t.data.size := by
                  have := (List.getElem?_eq_some_iff.1 hy).1; simpa [bytesOf] using this
                unfold bytesOf at hy
                rw [List.getElem?_map, Array.getElem?_toList, Array.getElem?_eq_getElem hlt, Option.map_some] at hy
                injection hy with hy
                subst hy
                refine ⟨.int .u8 (t.data[q]).toNat, ?_, rfl, .int _ _⟩
                show (Lib.bytesCells w e t)[0 + q]? = _
                unfold Lib.bytesCells
                rw [Nat.zero_add, Array.getElem?_append_left (by simpa using hlt), Array.getElem?_map, Array.getElem?_eq_getElem hlt]
                rfl
              · intro _ q _ hq
                have : q < (Lib.bytesCells w e t).size := hq
                omega
            obtain ⟨r1, r2⟩ := hR.allocG (Lib.bytesWorld_size w e t) (fun k hk => Lib.bytesWorld_at_old w e t k hk) rfl rfl rfl (.cells (bytesOf t) ⟨1, some e, false⟩ .live []) l rfl ho
            refine ⟨_, _, _, hrun, r1, r2, ?_⟩
            refine .slice H.size 0 t.size t.size l _ _ (Ren.upd_eq _ _ _) (Nat.le_refl _) ⟨hcap, hcap2⟩ (fun _ => ?_) (fun _ => rfl)
            show 0 + 0 + grownCap w t.size 0 e * 1 ≤ (Lib.bytesCells w e t).size
            omega
          · cases h
        · cases h
      · cases h
    · rename_i e n c hdi hdj
      obtain ⟨rfl, _, _⟩ := hx.slice_nil_inv
      split at h
      · rename_i ei hei
        split at h
        · rename_i hde
          simp only [Option.some.injEq, Prod.mk.injEq] at h
          obtain ⟨rfl, rfl⟩ := h
          refine ⟨.string .empty, w, ρ, ?_, hR, .refl _ _ _, .string _⟩
          simp only [Go.convert, Sem.run_bind, run_und hT hi, run_und hT hj, hdi, hdj, Result.andThen_ok, run_und hT hei, hde, Conv.bytesToString, Sem.run_pure]
        · cases h
      · cases h
    · rename_i e b o n c hdi hdj
      obtain ⟨l, C, A, hb, hn, hc, hN, hA, rfl⟩ := hx.slice_inv
      split at h
      · rename_i ei hei
        split at h
        · rename_i hde
          split at h
          · rename_i cs hcs
            split at h
            · rename_i bs hbs
              simp only [Option.some.injEq, Prod.mk.injEq] at h
              obtain ⟨rfl, rfl⟩ := h
              obtain ⟨ns, rfl, rfl⟩ := unbytes_ok hbs
              have hload : (loadCells A n).run E.P w = .ok (ns.map (Value.int .u8)).toArray w := by
                split at hcs
                · rename_i hz
                  injection hcs with hcs
                  have : ns = [] := List.map_eq_nil_iff.1 hcs.symm
                  subst this
                  subst hz
                  simp [loadCells, loadCellsFrom]
                · rename_i hz
                  obtain ⟨Vs, x1, x2, x3, x4⟩ := rd_rel hR hb hcs
                  have := x1.ints
                  subst this
                  have hA' := hA (by omega)
                  subst hA'
                  have h1 := run_loadCells_list (P := E.P) (w := w) ⟨l.B, l.s + o, none⟩ _ x4
                  rw [x2] at h1
                  exact h1
              have he := (hT.ty e ei hei).und
              rw [hde] at he
              rw [hdi] at ui
              rw [hdj] at uj
              refine ⟨_, w, ρ, ?_, hR, .refl _ _ _, .string _⟩
              rw [run_convert_bytes_string w s d e (some A) n C ui he uj, run_bytesToString w A n C ns hload, fold_push]
              congr 3
              apply Array.ext'
              simp
            · cases h
          · cases h
        · cases h
      · cases h
    · cases h
  · cases h

/-! ### Maps -/
theorem akeyeq_ok {ρ : Ren} {d : TypeDesc} {x y X Y : Value} {b : Bool} (hx : VRel ρ x X) (hy : VRel ρ y Y) (h : akeyeq d x y = some b) : Instr.sameNow d X Y = some b := by
  unfold akeyeq at h
  split at h
  · obtain rfl := hx.int_inv
    obtain rfl := hy.int_inv
    split at h
    · rename_i hk
      injection h with h; subst h; subst hk
      simp [Instr.sameNow, int_beq]
    · cases h
  · obtain rfl := hx.string_inv
    obtain rfl := hy.string_inv
    injection h with h; subst h
    simp only [Instr.sameNow]
    rw [beq_toListBytes, seq_eq]
  · obtain rfl := hx.bool_inv
    obtain rfl := hy.bool_inv
    injection h with h; subst h
    rfl
  · cases h

theorem afind_ok {ρ : Ren} {d : TypeDesc} {k K : Value} (hk : VRel ρ k K) : ∀ (es : List (Value × Value)) (ES : List MapEntry) (i : Nat) (r : Option (Nat × Value)),
    LRel ρ (es.map (·.1)) (ES.map (·.key)) → LRel ρ (es.map (·.2)) (ES.map (·.val)) → afind d k es i = some r →
    match r with
    | some (j, v) => ∃ V E', i ≤ j ∧ ES[j - i]? = some E' ∧ E'.val = V ∧ Instr.findNow d K ES i = some (some (j, V)) ∧ VRel ρ v V ∧ (∃ k', es[j - i]? = some (k', v) ∧ akeyeq d k k' = some true)
    | none => Instr.findNow d K ES i = some none := by
  intro es
  induction es with
  | nil =>
    intro ES i r h1 h2 h
    simp only [afind] at h
    injection h with h; subst h
    have : ES = [] := by have := h1.1; simp at this; exact List.length_eq_zero_iff.1 this.symm
    subst this
    rfl
  | cons e es ih =>
    intro ES i r h1 h2 h
    obtain ⟨k', v⟩ := e
    cases ES with
    | nil => have := h1.1; simp at this
    | cons E' ES =>
      simp only [List.map_cons] at h1 h2
      have hk1 := h1.head
      have hv1 := h2.head
      simp only [afind] at h
      split at h
      · rename_i he
        injection h with h; subst h
        refine ⟨E'.val, E', Nat.le_refl _, by simp, rfl, ?_, hv1, k', by simp, he⟩
        simp only [Instr.findNow, akeyeq_ok hk hk1 he]
      · rename_i he
        have := ih ES (i + 1) r h1.tail h2.tail h
        cases r with
        | none => simp only [Instr.findNow, akeyeq_ok hk hk1 he]; exact this
        | some p =>
          obtain ⟨j, u⟩ := p
          obtain ⟨V, E'', a1, a2, a3, a4, a5, k'', a6, a7⟩ := this
          refine ⟨V, E'', by omega, ?_, a3, by simp only [Instr.findNow, akeyeq_ok hk hk1 he]; exact a4, a5, k'', ?_, a7⟩
          · have : j - i = (j - (i + 1)) + 1 := by omega
            rw [this, List.getElem?_cons_succ]; exact a2
          · have : j - i = (j - (i + 1)) + 1 := by omega
            rw [this, List.getElem?_cons_succ]; exact a6
      · cases h

theorem akey_ok {E : Env} (hT : E.TOk) {ρ : Ren} {kt : TypeId} {ki : TyI} (hk : E.ty kt = some ki) {k K : Value} (hkv : VRel ρ k K) (h : akey ki.desc k = true) (empty : Bool) (n : Nat) (w : World) :
    (Instr.checkKey empty (n + 1) kt K).run E.P w = .ok () w := by
  unfold akey at h
  split at h
  · rename_i hd
    obtain rfl := hkv.int_inv
    simp only [Instr.checkKey, Sem.run_bind, run_und hT hk, hd, Result.andThen_ok]
    rfl
  · rename_i hd
    obtain rfl := hkv.string_inv
    simp only [Instr.checkKey, Sem.run_bind, run_und hT hk, hd, Result.andThen_ok]
    rfl
  · rename_i hd
    obtain rfl := hkv.bool_inv
    simp only [Instr.checkKey, Sem.run_bind, run_und hT hk, hd, Result.andThen_ok]
    rfl
  · cases h
theorem checkKey_ok {E : Env} (hT : E.TOk) {ρ : Ren} {kt : TypeId} {ki : TyI} (hk : E.ty kt = some ki) {k K : Value} (hkv : VRel ρ k K) (h : akey ki.desc k = true) (empty : Bool) (w : World) :
    (Instr.checkKey empty 10000 kt K).run E.P w = .ok () w := akey_ok hT hk hkv h empty 9999 w

theorem run_getMap {P : Program} {w : World} {r : Nat} {ES : Array MapEntry} {clk : Nat} (h : w.heap[r]? = some (.map ES clk)) : (getObj r).run P w = .ok (.map ES clk) w := by
  simp [getObj, Sem.run, h]
theorem run_setMap {P : Program} {w : World} {r : Nat} {ES ES' : Array MapEntry} {clk clk' : Nat} (h : w.heap[r]? = some (.map ES clk)) :
    (setObj r (.map ES' clk')).run P w = .ok () { w with heap := w.heap.setIfInBounds r (.map ES' clk') } := by
  simp [setObj, Sem.run, h]

theorem VRel.map_inv {ρ : Ren} {b : Nat} {V : Value} (h : VRel ρ (.map (some b)) V) : ∃ l, ρ b = some l ∧ V = .map (some l.B) := by
  cases h with | map _ l hb => exact ⟨l, hb, rfl⟩
theorem VRel.nilm_inv {ρ : Ren} {V : Value} (h : VRel ρ (.map none) V) : V = .map none := by cases h; rfl

theorem azero_ok {E : Env} (hT : E.TOk) {t : TypeId} {z : Value} (h : azero E t = some z) (w : World) : (zeroValue t).run E.P w = .ok z w ∧ plain z = true := by
  unfold azero at h
  split at h
  · rename_i i hi
    exact ⟨run_zero hT hi h w, (hT.ty t i hi).zok z h⟩
  · cases h

theorem alookup_ok {E : Env} (hT : E.TOk) {ρ : Ren} {H : AHeap} {w : World} (hR : Rel ρ H w) {t : TypeId} {x X k K v : Value} {ok : Bool} (hx : VRel ρ x X) (hk : VRel ρ k K)
    (h : alookup E t x k ok H = some v) : ∃ V, (Instr.lookup t X K ok).run E.P w = .ok V w ∧ VRel ρ v V := by
  unfold alookup at h
  split at h
  · cases h
  · rename_i i hi
    split at h
    · rename_i kt et hd
      split at h
      · rename_i ki z hki hz
        split at h
        · cases h
        · rename_i es hes
          split at h
          · rename_i hkk
            obtain ⟨z1, z2⟩ := azero_ok hT hz w
            -- the entries
            have hent : ∃ ES : Array MapEntry, LRel ρ (es.map (·.1)) (ES.toList.map (·.key)) ∧ LRel ρ (es.map (·.2)) (ES.toList.map (·.val)) ∧
                ((X = .map none ∧ ES = #[]) ∨ ∃ B clk, X = .map (some B) ∧ w.heap[B]? = some (.map ES clk)) := by
              split at hes
              · injection hes with hes; subst hes
                obtain rfl := hx.nilm_inv
                exact ⟨#[], .nil ρ, .nil ρ, .inl ⟨rfl, rfl⟩⟩
              · rename_i b
                obtain ⟨l, hb, rfl⟩ := hx.map_inv
                split at hes
                · rename_i es' bs st hg
                  injection hes with hes; subst hes
                  obtain ⟨ES, o1, o2, o3, _⟩ := hR.obj b l _ hb hg
                  exact ⟨ES, o2, o3, .inr ⟨_, _, rfl, o1⟩⟩
                · cases hes
              · cases hes
            obtain ⟨ES, e1, e2, e3⟩ := hent
            have hck := checkKey_ok hT hki hk hkk ES.isEmpty w
            have hrun : ∀ r V o, Instr.findNow ki.desc K ES.toList 0 = some r →
                ((match r with | some (_, v) => pure (v, true) | none => do pure (← zeroValue et, false) : Sem (Value × Bool)).run E.P w = .ok (V, o) w) →
                (Instr.lookup t X K ok).run E.P w = .ok (if ok then .tuple #[V, .bool o] else V) w := by
              intro r V o h1 h2
              have hfk : (Instr.findKey kt K ES.toList).run E.P w = .ok r w := by
                simp only [Instr.findKey, Sem.run_bind, run_und hT hki, Result.andThen_ok, h1, Sem.run_pure]
              rcases e3 with ⟨rfl, rfl⟩ | ⟨B, clk, rfl, hB⟩
              · simp only [Instr.lookup, Sem.run_bind, run_und hT hi, hd, Result.andThen_ok, Sem.run_pure, hck, hfk]
                cases r with
                | none => simp only [Sem.run_bind, z1, Result.andThen_ok, Sem.run_pure] at h2 ⊢; injection h2 with h2; injection h2 with h2 h3; subst h2 h3; rfl
                | some p => simp only [Sem.run_pure] at h2 ⊢; injection h2 with h2; injection h2 with h2 h3; subst h2 h3; rfl
              · simp only [Instr.lookup, Sem.run_bind, run_und hT hi, hd, Result.andThen_ok, Sem.run_pure, run_getMap hB, hck, hfk]
                cases r with
                | none => simp only [Sem.run_bind, z1, Result.andThen_ok, Sem.run_pure] at h2 ⊢; injection h2 with h2; injection h2 with h2 h3; subst h2 h3; rfl
                | some p => simp only [Sem.run_pure] at h2 ⊢; injection h2 with h2; injection h2 with h2 h3; subst h2 h3; rfl
            split at h
            · rename_i j u hfi
              obtain ⟨V, E', a1, a2, a3, a4, a5, _⟩ := afind_ok hk es ES.toList 0 _ e1 e2 hfi
              injection h with h; subst h
              refine ⟨_, hrun _ _ _ a4 rfl, ?_⟩
              split
              · exact .tuple' (xs := [u, .bool true]) (ys := [V, .bool true]) (.cons a5 (.cons (.bool _) (.nil ρ)))
              · exact a5
            · rename_i hfi
              have a4 := afind_ok hk es ES.toList 0 _ e1 e2 hfi
              injection h with h; subst h
              refine ⟨_, hrun _ z false a4 (by simp only [Sem.run_bind, z1, Result.andThen_ok, Sem.run_pure]), ?_⟩
              split
              · exact .tuple' (xs := [z, .bool false]) (ys := [z, .bool false]) (.cons (.plain z2) (.cons (.bool _) (.nil ρ)))
              · exact .plain z2
            · cases h
          · cases h
      · cases h
    · cases h
/-- Memory but for one map. -/
theorem setMap_rel {ρ : Ren} {H : AHeap} {w : World} (hR : Rel ρ H w) {b : Nat} {l : Loc} {es es' : List (Value × Value)} {bs bs' : List Nat × Nat} (hb : ρ b = some l) (hg : H.get b = some (.map es bs .live))
    {ES' : Array MapEntry} {clk' : Nat} (h1 : LRel ρ (es'.map (·.1)) (ES'.toList.map (·.key))) (h2 : LRel ρ (es'.map (·.2)) (ES'.toList.map (·.val))) (h3 : ES'.toList.map (·.born) = bs'.1) (h4 : clk' = bs'.2) :
    Rel ρ (H.set b (.map es' bs' .live)) { w with heap := w.heap.setIfInBounds l.B (.map ES' clk') } ∧
      Step ρ H w ρ (H.set b (.map es' bs' .live)) { w with heap := w.heap.setIfInBounds l.B (.map ES' clk') } := by
  have hlt := (hR.bd b l hb).2
  have hothers : ∀ k, k ≠ l.B → (w.heap.setIfInBounds l.B (.map ES' clk'))[k]? = w.heap[k]? := fun k hk => Array.getElem?_setIfInBounds_ne (Ne.symm hk)
  have hself : (w.heap.setIfInBounds l.B (.map ES' clk'))[l.B]? = some (.map ES' clk') := by rw [Array.getElem?_setIfInBounds, if_pos rfl, if_pos hlt]
  have key : ∀ c k o', c ≠ b → ρ c = some k → H.get c = some o' → o'.alive = true → k.B ≠ l.B := by
    intro c k o' hne hk hgc hal hB
    have := (hR.excl b l _ [] c k o' hb hg rfl hk hgc hal hne hB).1
    simp at this
  refine ⟨{ bd := ?_, obj := ?_, excl := ?_ }, { le := .refl ρ, keep := fun _ _ => rfl, hs := Nat.le_refl _, os := rfl, tape := rfl, output := rfl, size := by simp, own := ?_, same := ?_ }⟩
  · intro c k hk
    have := hR.bd c k hk
    simpa using this
  · intro c k o' hk hgc
    by_cases e : c = b
    · subst e
      rw [hb] at hk; cases hk
      rw [AHeap.get_set_eq] at hgc
      injection hgc with hgc
      subst hgc
      exact ⟨ES', by rw [← h4]; exact hself, h1, h2, h3⟩
    · rw [AHeap.get_set_ne _ _ _ _ e] at hgc
      cases hal : o'.alive with
      | false => cases o' <;> simp [AObj.alive] at hal; trivial
      | true => exact (hR.obj c k o' hk hgc).congr (hothers _ (key c k o' e hk hgc hal))
  · intro c k o1 anc1 c' k' o2 hk hgc how hk' hgc' hal hne hB
    by_cases e : c = b
    · subst e
      rw [hb] at hk; cases hk
      rw [AHeap.get_set_ne _ _ _ _ hne] at hgc'
      exact absurd hB (key c' k' o2 hne hk' hgc' hal)
    · rw [AHeap.get_set_ne _ _ _ _ e] at hgc
      by_cases e' : c' = b
      · subst e'
        rw [hb] at hk'; cases hk'
        exact absurd hB.symm (key c k o1 e hk hgc (alive_of_owns how))
      · rw [AHeap.get_set_ne _ _ _ _ e'] at hgc'
        exact hR.excl c k o1 anc1 c' k' o2 hk hgc how hk' hgc' hal hne hB
  · rintro B hB ⟨c, k, o1, hk, rfl, hgc, how⟩
    by_cases e : c = b
    · subst e
      rw [hb] at hk; cases hk
      exact ⟨c, l, _, hb, rfl, hg, rfl⟩
    · rw [AHeap.get_set_ne _ _ _ _ e] at hgc
      exact ⟨c, k, o1, hk, rfl, hgc, how⟩
  · intro B hB hn
    refine hothers _ fun e => hn ?_
    subst e
    exact ⟨b, l, _, hb, rfl, hg, rfl⟩

theorem sameBits_ok {ρ : Ren} {d : TypeDesc} {k k' K K' : Value} {n : Nat} (h1 : VRel ρ k K) (h2 : VRel ρ k' K') (h : akeyeq d k k' = some true) : Instr.sameBits n K' K = true := by
  unfold akeyeq at h
  split at h
  · obtain rfl := h1.int_inv
    obtain rfl := h2.int_inv
    split at h
    · rename_i hk
      injection h with h
      simp at h
      subst h; subst hk
      cases n <;> simp [Instr.sameBits]
    · cases h
  · obtain rfl := h1.string_inv
    obtain rfl := h2.string_inv
    injection h with h
    rename_i a b
    have : a = b := by
      simp [seq] at h
      obtain ⟨⟨x⟩⟩ := a
      obtain ⟨⟨y⟩⟩ := b
      simp at h
      rw [h]
    subst this
    have hself : (a == a) = true := by rw [beq_toListBytes]; simp
    cases n <;> simp only [Instr.sameBits, hself]
  · obtain rfl := h1.bool_inv
    obtain rfl := h2.bool_inv
    injection h with h
    rename_i a b
    have : a = b := by simpa using h
    subst this
    cases n <;> simp [Instr.sameBits]
  · cases h

theorem aupdate_ok {E : Env} (hT : E.TOk) {ρ : Ren} {H H' : AHeap} {w : World} (hR : Rel ρ H w) {t : TypeId} {x X k K v V : Value} (hx : VRel ρ x X) (hk : VRel ρ k K) (hv : VRel ρ v V)
    (h : aupdate E t x k v H = some H') : ∃ w', (Instr.mapUpdate t X K V).run E.P w = .ok () w' ∧ Rel ρ H' w' ∧ Step ρ H w ρ H' w' := by
  unfold aupdate at h
  split at h
  · rename_i i b hi
    obtain ⟨l, hb, rfl⟩ := hx.map_inv
    split at h
    · rename_i kt et hd
      split at h
      · rename_i ki es bs hki hg
        split at h
        · rename_i hkk
          obtain ⟨ES, o1, o2, o3, o4⟩ := hR.obj b l _ hb hg
          have hck := checkKey_ok hT hki hk hkk false w
          have hfk : ∀ r, Instr.findNow ki.desc K ES.toList 0 = some r → (Instr.findKey kt K ES.toList).run E.P w = .ok r w := by
            intro r hr
            simp only [Instr.findKey, Sem.run_bind, run_und hT hki, Result.andThen_ok, hr, Sem.run_pure]
          split at h
          · rename_i j u hfi
            injection h with h; subst h
            obtain ⟨W, E', a1, a2, a3, a4, a5, k', a6, a7⟩ := afind_ok hk es ES.toList 0 _ o2 o3 hfi
            rw [Nat.sub_zero] at a2 a6
            have hkey' : VRel ρ k' E'.key := o2.2 j k' E'.key (by rw [List.getElem?_map, a6]; rfl) (by rw [List.getElem?_map, a2]; rfl)
            have hst : (Instr.keyThatStays (((ES[j]?).map (·.key)).getD K) K).run E.P w = .ok K w := by
              have : ES[j]? = some E' := by rw [← Array.getElem?_toList]; exact a2
              rw [this]
              simp only [Option.map_some, Option.getD_some, Instr.keyThatStays]
              rw [Sem.run_ite, if_pos (sameBits_ok hk hkey' a7)]
              rfl
            have hmod : (ES.modify j fun e => { e with key := K, val := V }).toList = ES.toList.set j { E' with key := K, val := V } := by
              apply List.ext_getElem?
              intro q
              rw [Array.getElem?_toList, Array.getElem?_modify, List.getElem?_set]
              by_cases e : j = q
              · subst e
                have hlt : j < ES.toList.length := (List.getElem?_eq_some_iff.1 a2).1
                rw [if_pos rfl, if_pos rfl, if_pos hlt, ← Array.getElem?_toList, a2]; rfl
              · rw [if_neg e, if_neg e, Array.getElem?_toList]
            have hborn : (ES.toList.set j { E' with key := K, val := V }).map (·.born) = bs.1 := by
              rw [List.map_set, ← o4]
              apply List.ext_getElem?
              intro q
              rw [List.getElem?_set]
              by_cases e : j = q
              · subst e; rw [if_pos rfl]; split
                · rw [List.getElem?_map, a2]; rfl
                · rename_i hn; simp at hn; rw [List.getElem?_eq_none (by simp; exact hn)]
              · rw [if_neg e]
            have := setMap_rel hR hb hg (es' := es.set j (k, v)) (bs' := bs) (ES' := ES.modify j fun e => { e with key := K, val := V }) (clk' := bs.2)
              (by rw [hmod, List.map_set, List.map_set]; exact o2.set j hk) (by rw [hmod, List.map_set, List.map_set]; exact o3.set j hv) (by rw [hmod]; exact hborn) rfl
            refine ⟨_, ?_, this.1, this.2⟩
            simp only [Instr.mapUpdate, Sem.run_bind, run_und hT hi, hd, Result.andThen_ok, run_getMap o1, hck, hfk _ a4, hst, run_setMap o1]
          · rename_i hfi
            injection h with h; subst h
            have a4 := afind_ok hk es ES.toList 0 _ o2 o3 hfi
            have := setMap_rel hR hb hg (es' := es ++ [(k, v)]) (bs' := (bs.1 ++ [bs.2], bs.2 + 1)) (ES' := ES.push { key := K, val := V, born := bs.2 }) (clk' := bs.2 + 1)
              (by simp only [Array.toList_push, List.map_append, List.map_cons, List.map_nil]; exact o2.append (.cons hk (.nil ρ)))
              (by simp only [Array.toList_push, List.map_append, List.map_cons, List.map_nil]; exact o3.append (.cons hv (.nil ρ)))
              (by simp only [Array.toList_push, List.map_append, List.map_cons, List.map_nil, o4]) rfl
            refine ⟨_, ?_, this.1, this.2⟩
            simp only [Instr.mapUpdate, Sem.run_bind, run_und hT hi, hd, Result.andThen_ok, run_getMap o1, hck, hfk _ a4, run_setMap o1]
          · cases h
        · cases h
      · cases h
    · cases h
  · cases h

theorem adelete_ok {E : Env} (hT : E.TOk) {ρ : Ren} {H H' : AHeap} {w : World} (hR : Rel ρ H w) {t : TypeId} {x X k K : Value} (hx : VRel ρ x X) (hk : VRel ρ k K)
    (h : adelete E t x k H = some H') {ats : Array TypeId} {args : Array Value} {ty : TypeId} (h0 : ats[0]? = some t) (a0 : args[0]? = some X) (a1 : args[1]? = some K) :
    ∃ w', (Builtin.delete_ ats ty args).run E.P w = .ok (.tuple #[]) w' ∧ Rel ρ H' w' ∧ Step ρ H w ρ H' w' := by
  unfold adelete at h
  split at h
  · cases h
  · rename_i i hi
    split at h
    · rename_i kt et hd
      split at h
      · cases h
      · rename_i ki hki
        split at h
        · rename_i hkk
          have hck := fun e => checkKey_ok hT hki hk hkk e w
          split at h
          · injection h with h; subst h
            obtain rfl := hx.nilm_inv
            refine ⟨w, ?_, hR, .refl _ _ _⟩
            simp only [Builtin.delete_, h0, a0, a1, Sem.run_bind, run_und hT hi, hd, Result.andThen_ok, hck, Sem.run_pure]
          · rename_i b
            obtain ⟨l, hb, rfl⟩ := hx.map_inv
            split at h
            · rename_i es bs hg
              obtain ⟨ES, o1, o2, o3, o4⟩ := hR.obj b l _ hb hg
              have hfk : ∀ r, Instr.findNow ki.desc K ES.toList 0 = some r → (Instr.findKey kt K ES.toList).run E.P w = .ok r w := by
                intro r hr
                simp only [Instr.findKey, Sem.run_bind, run_und hT hki, Result.andThen_ok, hr, Sem.run_pure]
              split at h
              · rename_i j u hfi
                injection h with h; subst h
                obtain ⟨W, E', a1', a2, a3, a4, a5, k', a6, a7⟩ := afind_ok hk es ES.toList 0 _ o2 o3 hfi
                have her : (ES.eraseIdxIfInBounds j).toList = ES.toList.eraseIdx j := by simp
                have hmm : ∀ (α β : Type) (f : α → β) (q : List α), (q.eraseIdx j).map f = (q.map f).eraseIdx j := fun α β f q => by rw [List.eraseIdx_eq_take_drop_succ, List.eraseIdx_eq_take_drop_succ, List.map_append, List.map_take, List.map_drop]
                have hle : ∀ {p q : List Value}, LRel ρ p q → LRel ρ (p.eraseIdx j) (q.eraseIdx j) := by
                  intro p q hpq
                  rw [List.eraseIdx_eq_take_drop_succ, List.eraseIdx_eq_take_drop_succ]
                  exact (hpq.take j).append (hpq.drop (j + 1))
                have := setMap_rel hR hb hg (es' := es.eraseIdx j) (bs' := (bs.1.eraseIdx j, bs.2)) (ES' := ES.eraseIdxIfInBounds j) (clk' := bs.2)
                  (by rw [her, hmm, hmm]; exact hle o2) (by rw [her, hmm, hmm]; exact hle o3) (by rw [her, hmm, o4]) rfl
                refine ⟨_, ?_, this.1, this.2⟩
                simp only [Builtin.delete_, h0, a0, a1, Sem.run_bind, run_und hT hi, hd, Result.andThen_ok, run_getMap o1, hck, hfk _ a4, run_setMap o1, Sem.run_pure]
              · rename_i hfi
                injection h with h; subst h
                have a4 := afind_ok hk es ES.toList 0 _ o2 o3 hfi
                have hsame : w.heap.setIfInBounds l.B (.map ES bs.2) = w.heap := by
                  apply Array.ext_getElem?
                  intro q
                  rw [Array.getElem?_setIfInBounds]
                  by_cases e : l.B = q
                  · subst e; rw [if_pos rfl, if_pos (hR.bd b l hb).2, o1]
                  · rw [if_neg e]
                refine ⟨{ w with heap := w.heap.setIfInBounds l.B (.map ES bs.2) }, ?_, ?_, ?_⟩
                · simp only [Builtin.delete_, h0, a0, a1, Sem.run_bind, run_und hT hi, hd, Result.andThen_ok, run_getMap o1, hck, hfk _ a4, run_setMap o1, Sem.run_pure]
                · rw [hsame]; exact hR
                · rw [hsame]; exact .refl _ _ _
              · cases h
            · cases h
          · cases h
        · cases h
    · cases h
end Go.Ev
