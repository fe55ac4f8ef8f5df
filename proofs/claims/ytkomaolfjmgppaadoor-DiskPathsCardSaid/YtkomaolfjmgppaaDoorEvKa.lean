/- More operations, told as effects; the library's own entries. -/
import Derived.Test.YtkomaolfjmgppaaDoorEvK
import Derived.Lib.Bytealg
import Derived.Laws.Externs
import Derived.Laws.RangeAny
import Derived.Laws.IdiomRangeMap
namespace Go.Ev
open Go
set_option linter.unusedVariables false
set_option linter.unusedSimpArgs false

/-! ### The library's own entries -/
def extRun (E : Env) (k : Ext) (f : FuncId) (args : List Value) (H : AHeap) : Option (Value × AHeap) :=
  match k, args with
  | .noEscape, [x] => some (x, H)
  | .indexByte, [.string s, .int .u8 c] => some (.int .i64 (Lib.indexByte s.data.toList c.toNat.toUInt8), H)
  | .count, [.string s, .int .u8 c] => some (.int .i64 (Lib.countByte s.data.toList c.toNat.toUInt8 : Nat), H)
  | .compare, [.string a, .string b] => some (.int .i64 (Lib.compareBytes a.data.toList b.data.toList), H)
  | .mapsClone, [.iface t (.map (some b))] =>
    match H.get b with
    | some (.map es bs _) => some (.iface t (.map (some H.size)), H.push (.map es bs .live))
    | _ => none
  | _, _ => none

theorem Rel.drew {ρ : Ren} {H : AHeap} {w : World} (h : Rel ρ H w) : Rel ρ H w.drew := h.heap rfl

theorem extRun_ok {E : Env} (hT : E.TOk) {k : Ext} {f : FuncId} (hk : E.ext f = some k) {ρ : Ren} {H H' : AHeap} {w : World} (hR : Rel ρ H w) {args : List Value} {cargs : Array Value} (ha : LRel ρ args cargs.toList)
    {v : Value} (h : extRun E k f args H = some (v, H')) : ∃ V w' ρ', (callFunc f cargs).run E.P w = .ok (.value V) w' ∧ Rel ρ' H' w' ∧ Step ρ H w ρ' H' w' ∧ VRel ρ' v V := by
  obtain ⟨F, hF1, hF2, hF3, hF4, hF5⟩ := hT.ext f k hk
  have hrow : (callFunc f cargs).run E.P w = ((k.row F.params F.resultTypes cargs).run E.P w).andThen fun v w' => .ok (.value v) w' :=
    run_callFunc_extern hF1 hF3 hF2 hF4 hF5 cargs w
  have two : ∀ a b : Value, args = [a, b] → ∃ A B, cargs = #[A, B] ∧ VRel ρ a A ∧ VRel ρ b B := by
    intro a b e
    subst e
    obtain ⟨A, T, e1, h1, h2⟩ := ha.cons_left
    obtain ⟨B, T2, e2, h3, h4⟩ := h2.cons_left
    obtain rfl := h4.nil_left
    subst e2
    refine ⟨A, B, ?_, h1, h3⟩
    apply Array.ext'; simpa using e1
  have oneA : ∀ a : Value, args = [a] → ∃ A, cargs = #[A] ∧ VRel ρ a A := by
    intro a e
    subst e
    obtain ⟨A, T, e1, h1, h2⟩ := ha.cons_left
    obtain rfl := h2.nil_left
    refine ⟨A, ?_, h1⟩
    apply Array.ext'; simpa using e1
  rw [hrow]
  unfold extRun at h
  split at h
  · obtain ⟨A, rfl, hA⟩ := oneA _ rfl
    simp only [Option.some.injEq, Prod.mk.injEq] at h
    obtain ⟨rfl, rfl⟩ := h
    exact ⟨A, w, ρ, rfl, hR, .refl _ _ _, hA⟩
  · obtain ⟨A, B, rfl, hA, hB⟩ := two _ _ rfl
    obtain rfl := hA.string_inv
    obtain rfl := hB.int_inv
    simp only [Option.some.injEq, Prod.mk.injEq] at h
    obtain ⟨rfl, rfl⟩ := h
    refine ⟨_, w, ρ, ?_, hR, .refl _ _ _, .int _ _⟩
    simp only [Ext.row, Lib.run_indexByteString, Result.andThen_ok]
  · obtain ⟨A, B, rfl, hA, hB⟩ := two _ _ rfl
    obtain rfl := hA.string_inv
    obtain rfl := hB.int_inv
    simp only [Option.some.injEq, Prod.mk.injEq] at h
    obtain ⟨rfl, rfl⟩ := h
    refine ⟨_, w, ρ, ?_, hR, .refl _ _ _, .int _ _⟩
    simp only [Ext.row, Lib.run_countString, Result.andThen_ok]
  · obtain ⟨A, B, rfl, hA, hB⟩ := two _ _ rfl
    obtain rfl := hA.string_inv
    obtain rfl := hB.string_inv
    simp only [Option.some.injEq, Prod.mk.injEq] at h
    obtain ⟨rfl, rfl⟩ := h
    refine ⟨_, w, ρ, ?_, hR, .refl _ _ _, .int _ _⟩
    simp only [Ext.row, Lib.run_compareString, Result.andThen_ok]
  · obtain ⟨A, rfl, hA⟩ := oneA _ rfl
    rename_i t b
    cases hA with
    | iface _ _ y hx =>
      obtain ⟨l, hb, rfl⟩ := hx.map_inv
      split at h
      · rename_i es bs st hg
        simp only [Option.some.injEq, Prod.mk.injEq] at h
        obtain ⟨rfl, rfl⟩ := h
        obtain ⟨ES, o1, o2, o3, o4⟩ := hR.obj _ l _ hb hg
        have hle := Ren.upd_le (l := (⟨w.heap.size, 0, 0, 0⟩ : Loc)) hR.fresh
        have ho : ORel (ρ.upd H.size ⟨w.heap.size, 0, 0, 0⟩) (w.alloc (.map ES bs.2)) ⟨w.heap.size, 0, 0, 0⟩ (.map es bs .live) :=
          ⟨ES, heap_alloc_new _ _, o2.mono hle, o3.mono hle, o4⟩
        obtain ⟨r1, r2⟩ := hR.alloc (.map ES bs.2) (.map es bs .live) ⟨w.heap.size, 0, 0, 0⟩ rfl ho
        refine ⟨.iface t (.map (some w.heap.size)), _, _, ?_, r1, r2, .iface _ _ _ (.map H.size ⟨w.heap.size, 0, 0, 0⟩ (Ren.upd_eq _ _ _))⟩
        have hd : Extern.MapsClone.clone #[.iface t (.map (some l.B))] = (do
          let .map entries clock ← getObj l.B | stuck "maps.clone: a map expected"
          pure (.iface t (.map (some (← newObj (.map entries clock)))))) := rfl
        simp [Ext.row, hd, run_getMap o1]
      · cases h
  · cases h

theorem wr_size0 {H H' : AHeap} {b o : Nat} {vs : List Value} (h : wr H b o vs = some H') : H'.size = H.size := by
  unfold wr at h
  split at h
  · split at h
    · injection h with h; subst h; simp
    · cases h
  · cases h

/-! ### Method tables -/
def isIfaceD : TypeDesc → Bool
  | .interface _ => true
  | _ => false
def isPtrD : TypeDesc → Bool
  | .pointer _ => true
  | _ => false
/-- The function that a method of a value in an interface is, where the value itself is the receiver. -/
def ameth (E : Env) (t : TypeId) (name : String) : Option FuncId :=
  match E.P.types[t]?, E.ty t with
  | some f, some i =>
    match f.methods.find? (·.name == name) with
    | some m =>
      if m.path.isEmpty then
        match m.func with
        | some (g, pr) => if pr == isPtrD i.desc then some g else none
        | none => none
      else none
    | none => none
  | _, _ => none

theorem ameth_ok {E : Env} (hT : E.TOk) {t : TypeId} {name : String} {g : FuncId} (h : ameth E t name = some g) (V : Value) (w : World) :
    (method (E.P.types.size + Made.depth) t V name).run E.P w = .ok (g, V) w := by
  unfold ameth at h
  split at h
  · rename_i f i hf hi
    split at h
    · rename_i m hm
      split at h
      · rename_i hp
        split at h
        · rename_i g' pr hfn
          split at h
          · rename_i hpr
            injection h with h; subst h
            have hlt : t < E.P.types.size := (Array.getElem?_eq_some_iff.1 hf).1
            have hinfo : E.P.info? t = some f := by
              show (if t < E.P.types.size then E.P.types[t]? else _) = _
              rw [if_pos hlt, hf]
            obtain ⟨k, hk⟩ : ∃ k, E.P.types.size + Made.depth = k + 1 := ⟨E.P.types.size + Made.depth - 1, by unfold Made.depth; omega⟩
            rw [hk]
            have hpl : m.path.toList = [] := by simpa using hp
            have hu := run_und hT hi w
            have hpr' : pr = isPtrD i.desc := by simpa using hpr
            have hrec : (receiverAt t (.val V) pr (if m.path.isEmpty then some ((name.splitOn ".").getLastD name) else none)).run E.P w = .ok V w := by
              simp only [receiverAt, Sem.run_bind, hu, Result.andThen_ok]
              subst hpr'
              cases hd : i.desc <;> simp [isPtrD, Place.get, Sem.run_pure]
            simp only [method, Sem.run_bind, typeInfo, run_program, Result.andThen_ok, hinfo, Sem.run_pure, hm, hpl, follow, hfn, hrec]
          · cases h
        · cases h
      · cases h
    · cases h
  · cases h

/-! ### The other operations -/
def zipped (ρ : Ren) (zs : List (Nat × (Value × Value))) (ES : List MapEntry) : Prop :=
  zs.length = ES.length ∧ ∀ (i : Nat) z e, zs[i]? = some z → ES[i]? = some e → e.born = z.1 ∧ VRel ρ z.2.1 e.key ∧ VRel ρ z.2.2 e.val
theorem zipped.tail {ρ : Ren} {z : Nat × (Value × Value)} {e : MapEntry} {zs : List (Nat × (Value × Value))} {ES : List MapEntry} (h : zipped ρ (z :: zs) (e :: ES)) : zipped ρ zs ES :=
  ⟨by have := h.1; simpa using this, fun i a b ha hb => h.2 (i + 1) a b (by simpa using ha) (by simpa using hb)⟩
theorem zipped.head {ρ : Ren} {z : Nat × (Value × Value)} {e : MapEntry} {zs : List (Nat × (Value × Value))} {ES : List MapEntry} (h : zipped ρ (z :: zs) (e :: ES)) : e.born = z.1 ∧ VRel ρ z.2.1 e.key ∧ VRel ρ z.2.2 e.val :=
  h.2 0 z e rfl rfl
theorem zipped.cons {ρ : Ren} {z : Nat × (Value × Value)} {e : MapEntry} {zs : List (Nat × (Value × Value))} {ES : List MapEntry} (h : e.born = z.1 ∧ VRel ρ z.2.1 e.key ∧ VRel ρ z.2.2 e.val) (k : zipped ρ zs ES) : zipped ρ (z :: zs) (e :: ES) := by
  refine ⟨by simp [k.1], fun i a b ha hb => ?_⟩
  cases i with
  | zero => simp at ha hb; subst ha hb; exact h
  | succ i => simp at ha hb; exact k.2 i a b ha hb
theorem zipped.filter {ρ : Ren} (p : Nat → Bool) : ∀ {zs : List (Nat × (Value × Value))} {ES : List MapEntry}, zipped ρ zs ES → zipped ρ (zs.filter fun z => p z.1) (ES.filter fun e => p e.born) := by
  intro zs
  induction zs with
  | nil => intro ES h; have := h.1; cases ES <;> simp_all
  | cons z zs ih =>
    intro ES h
    cases ES with
    | nil => have := h.1; simp at this
    | cons e ES =>
      obtain ⟨h1, h2⟩ := h.head
      rw [List.filter_cons, List.filter_cons, h1]
      split
      · exact .cons ⟨h1, h2⟩ (ih h.tail)
      · exact ih h.tail
theorem zipped.append {ρ : Ren} : ∀ {zs ys : List (Nat × (Value × Value))} {ES FS : List MapEntry}, zipped ρ zs ES → zipped ρ ys FS → zipped ρ (zs ++ ys) (ES ++ FS) := by
  intro zs
  induction zs with
  | nil => intro ys ES FS h k; have := h.1; cases ES <;> simp_all
  | cons z zs ih =>
    intro ys ES FS h k
    cases ES with
    | nil => have := h.1; simp at this
    | cons e ES => exact .cons h.head (ih h.tail k)
theorem zipped.of {ρ : Ren} : ∀ {es : List (Value × Value)} {bs : List Nat} {ES : List MapEntry}, LRel ρ (es.map (·.1)) (ES.map (·.key)) → LRel ρ (es.map (·.2)) (ES.map (·.val)) → ES.map (·.born) = bs → zipped ρ (bs.zip es) ES := by
  intro es
  induction es with
  | nil => intro bs ES h1 _ h3; have := h1.1; cases ES <;> simp at this ⊢; exact ⟨rfl, fun i z e h => by simp at h⟩
  | cons e es ih =>
    intro bs ES h1 h2 h3
    cases ES with
    | nil => have := h1.1; simp at this
    | cons E ES =>
      subst h3
      rw [List.map_cons, List.zip_cons_cons]
      exact .cons ⟨rfl, h1.head, h2.head⟩ (ih h1.tail h2.tail rfl)

theorem zipped.find {ρ : Ren} {st : Nat} : ∀ {zs : List (Nat × (Value × Value))} {ES : List MapEntry} {z : Nat × (Value × Value)}, zipped ρ zs ES → zs.find? (fun z => z.1 == st) = some z →
    ∃ e, ES.find? (fun x => x.born == st) = some e ∧ VRel ρ z.2.1 e.key ∧ VRel ρ z.2.2 e.val := by
  intro zs
  induction zs with
  | nil => intro ES z h hf; cases hf
  | cons a zs ih =>
    intro ES z h hf
    cases ES with
    | nil => have := h.1; simp at this
    | cons e ES =>
      obtain ⟨h1, h2⟩ := h.head
      rw [List.find?_cons] at hf ⊢
      rw [h1]
      split at hf
      · rename_i hc; injection hf with hf; subst hf; exact ⟨e, rfl, h2⟩
      · exact ih h.tail hf
/-- The entries that may come next. -/
def cands (zs : List (Nat × (Value × Value))) (since : Nat) (seen : List Nat) : List (Option (Nat × (Value × Value))) :=
  let left := zs.filter fun z => !seen.contains z.1
  let old := left.filter fun z => decide (z.1 < since)
  let new := left.filter fun z => decide (z.1 ≥ since)
  (if old.isEmpty then [none] else []) ++ (old ++ new).map some

theorem cands_rel {ρ : Ren} {zs : List (Nat × (Value × Value))} {ES : List MapEntry} (hz : zipped ρ zs ES) (since : Nat) (seen : List Nat) :
    (cands zs since seen = [none] → (let l := ES.filter fun e => !seen.contains e.born
                 let o := l.filter fun e => decide (e.born < since)
                 let n := l.filter fun e => decide (e.born ≥ since)
                 (if o.isEmpty then [none] else []) ++ (o ++ n).map some) = [none]) ∧
    (∀ z, cands zs since seen = [some z] → ∃ e, (let l := ES.filter fun e => !seen.contains e.born
                 let o := l.filter fun e => decide (e.born < since)
                 let n := l.filter fun e => decide (e.born ≥ since)
                 (if o.isEmpty then [none] else []) ++ (o ++ n).map some) = [some e] ∧ e.born = z.1 ∧ VRel ρ z.2.1 e.key ∧ VRel ρ z.2.2 e.val) := by
  have hleft := hz.filter fun n => !seen.contains n
  have hold := hleft.filter fun n => decide (n < since)
  have hnew := hleft.filter fun n => decide (n ≥ since)
  unfold cands
  simp only
  generalize (zs.filter fun z => !seen.contains z.1).filter (fun z => decide (z.1 < since)) = zo at *
  generalize (zs.filter fun z => !seen.contains z.1).filter (fun z => decide (z.1 ≥ since)) = zn at *
  generalize (ES.filter fun e => !seen.contains e.born).filter (fun e => decide (e.born < since)) = eo at *
  generalize (ES.filter fun e => !seen.contains e.born).filter (fun e => decide (e.born ≥ since)) = en at *
  constructor
  · intro h
    cases zo with
    | nil =>
      have := hold.1
      cases eo with
      | nil =>
        simp at h
        subst h
        have := hnew.1
        cases en with
        | nil => rfl
        | cons a b => simp at this
      | cons a b => simp at this
    | cons a b => simp at h
  · intro z h
    cases zo with
    | nil => simp at h
    | cons a b =>
      simp at h
      obtain ⟨rfl, rfl, rfl⟩ := h
      have h1 := hold.1
      have h2 := hnew.1
      cases eo with
      | nil => simp at h1
      | cons e r =>
        cases r with
        | nil =>
          cases en with
          | nil => exact ⟨e, rfl, hold.head⟩
          | cons x y => simp at h2
        | cons x y => simp at h1
def aslice3 (E : Env) (t : TypeId) (x : Value) (lo hi : Option Value) (mx : Value) (H : AHeap) : Option Value :=
  match E.ty t with
  | some i =>
    match i.desc, x with
    | .slice e, .slice (some ⟨b, o, none⟩) n c =>
      match asize E e, abound 0 lo, hi, mx with
      | some sz, some l, some (.int _ h), .int _ m =>
        if 0 ≤ h ∧ h ≤ m ∧ m ≤ c ∧ l ≤ h ∧ strided H b sz = true then some (.slice (some ⟨b, o + l * sz, none⟩) (h.toNat - l) (m.toNat - l)) else none
      | _, _, _, _ => none
    | .slice e, .slice none 0 0 =>
      match asize E e, abound 0 lo, hi, mx with
      | some _, some l, some (.int _ h), .int _ m => if l = 0 ∧ h = 0 ∧ m = 0 then some (.slice none 0 0) else none
      | _, _, _, _ => none
    | _, _ => none
  | none => none
def axop (E : Env) (ev : Operand → Value) (op : Op) (H : AHeap) : Option (Value × AHeap) :=
  match op with
  | .range t x =>
    match E.ty t with
    | some i =>
      match i.desc, ev x with
      | .string, .string s => some (.pointer (some ⟨H.size, 0, none⟩), H.push (.siter s 0))
      | .map _ _, .map none => some (.pointer (some ⟨H.size, 0, none⟩), H.push (.miter (some none) 0 [] 0))
      | .map _ _, .map (some b) =>
        match H.get b with
        | some (.map _ bs _) => some (.pointer (some ⟨H.size, 0, none⟩), H.push (.miter (some (some b)) bs.2 [] bs.2))
        | _ => none
      | _, _ => none
    | none => none
  | .next it s =>
    match ev it with
    | .pointer (some ⟨b, 0, none⟩) =>
      match H.get b, s with
      | some (.siter s pos), true =>
        if pos < s.size then some (.tuple #[.bool true, .int .i64 pos, .int .i32 (Utf8.decode s pos).1], H.set b (.siter s (pos + (Utf8.decode s pos).2)))
        else some (.tuple #[.bool false], H)
      | some (.miter (some none) _ _ _), false => some (.tuple #[.bool false], H)
      | some (.miter (some (some m)) since seen last), false =>
        match H.get m with
        | some (.map es bs _) =>
          if !seen.isEmpty && !es.isEmpty && bs.1.all (fun x => decide (x ≥ last)) then none else
          match cands (bs.1.zip es) since seen with
          | [some z] => some (.tuple #[.bool true, z.2.1, z.2.2], H.set b (.miter (some (some m)) since (seen ++ [z.1]) bs.2))
          | [none] => some (.tuple #[.bool false], H)
          | _ => none
        | _ => none
      | _, _ => none
    | _ => none
  | .entry it =>
    match ev it with
    | .pointer (some ⟨b, 0, none⟩) =>
      match H.get b with
      | some (.miter (some (some m)) _ seen last) =>
        match H.get m, seen.getLast? with
        | some (.map es bs _), some st =>
          if bs.2 = last then
            match (bs.1.zip es).find? (fun z => z.1 == st) with
            | some z => some (.tuple #[z.2.1, z.2.2], H)
            | none => none
          else none
        | _, _ => none
      | _ => none
    | _ => none
  | .typeAssert x _ t ok =>
    match E.ty t with
    | some i =>
      if isIfaceD i.desc then none else
      match ev x with
      | .iface u v =>
        if u = t then some (if ok then .tuple #[v, .bool true] else v, H)
        else if ok then (match i.zero with | some z => some (.tuple #[z, .bool false], H) | none => none)
        else none
      | .nilIface => if ok then (match i.zero with | some z => some (.tuple #[z, .bool false], H) | none => none) else none
      | _ => none
    | none => none
  | .slice t x lo hi (some mx) =>
    match aslice3 E t (ev x) (lo.map ev) (hi.map ev) (ev mx) H with
    | some v => some (v, H)
    | none => none
  | .call ⟨.builtin .cap, args, ts⟩ =>
    match args[0]?, ts[0]? with
    | some x, some t =>
      match E.ty t with
      | some i => (match i.desc, ev x with | .slice _, .slice none 0 0 => some (.int .i64 0, H) | _, _ => none)
      | none => none
    | _, _ => none
  | .call ⟨.builtin .clear, args, ts⟩ =>
    match args[0]?, ts[0]? with
    | some x, some t =>
      match E.ty t with
      | some i =>
        match i.desc, ev x with
        | .slice _, .slice none 0 0 => some (.tuple #[], H)
        | .slice e, .slice (some ⟨b, o, none⟩) n _ =>
          if n = 0 then some (.tuple #[], H) else
          match E.ty e with
          | some ei =>
            match ei.zero with
            | some z =>
              match acells z with
              | some zc =>
                match wr H b o (azeros zc n) with
                | some H' => some (.tuple #[], H')
                | none => none
              | none => none
            | none => none
          | none => none
        | _, _ => none
      | none => none
    | _, _ => none
  | _ => none
theorem extRun_size {E : Env} {k : Ext} {f : FuncId} {args : List Value} {v : Value} {H H' : AHeap} (h : extRun E k f args H = some (v, H')) : H.size ≤ H'.size := by
  unfold extRun at h
  split at h
  all_goals first
    | (simp only [Option.some.injEq, Prod.mk.injEq] at h; obtain ⟨_, rfl⟩ := h; exact Nat.le_refl _)
    | (split at h
       · simp only [Option.some.injEq, Prod.mk.injEq] at h; obtain ⟨_, rfl⟩ := h; simp
       · cases h)
    | cases h
theorem axop_size {E : Env} {ev : Operand → Value} {op : Op} {v : Value} {H H' : AHeap} (h : axop E ev op H = some (v, H')) : H.size ≤ H'.size := by
  unfold axop at h
  repeat' split at h
  all_goals first
    | (cases h; done)
    | (simp only [Option.some.injEq, Prod.mk.injEq] at h; obtain ⟨_, rfl⟩ := h; first | exact Nat.le_refl _ | (simp; done))
    | (simp only [Option.some.injEq, Prod.mk.injEq] at h; have h2 := h.2; clear h; subst h2; rename_i hw; rw [wr_size0 hw]; exact Nat.le_refl _)

/-- An iterator turned on. -/
theorem setIter_rel {ρ : Ren} {H : AHeap} {w : World} (hR : Rel ρ H w) {b : Nat} {l : Loc} {o o' : AObj} (hb : ρ b = some l) (hg : H.get b = some o) (ho : o.owns = some []) (ho' : o'.owns = some []) (hlen : o'.len = o.len)
    {O : Obj} (hO : ORel ρ { w with heap := w.heap.setIfInBounds l.B O } l o') :
    Rel ρ (H.set b o') { w with heap := w.heap.setIfInBounds l.B O } ∧ Step ρ H w ρ (H.set b o') { w with heap := w.heap.setIfInBounds l.B O } := by
  have hlt := (hR.bd b l hb).2
  have hothers : ∀ k, k ≠ l.B → (w.heap.setIfInBounds l.B O)[k]? = w.heap[k]? := fun k hk => Array.getElem?_setIfInBounds_ne (Ne.symm hk)
  have key : ∀ c k o', c ≠ b → ρ c = some k → H.get c = some o' → o'.alive = true → k.B ≠ l.B := by
    intro c k o' hne hk hgc hal hB
    have := (hR.excl b l _ [] c k o' hb hg ho hk hgc hal hne hB).1
    simp at this
  refine ⟨{ bd := ?_, obj := ?_, excl := ?_ }, { le := .refl ρ, keep := fun _ _ => rfl, hs := Nat.le_refl _, os := rfl, tape := rfl, output := rfl, size := by simp, own := ?_, same := ?_ }⟩
  · intro c k hk
    have := hR.bd c k hk
    simpa using this
  · intro c k o2 hk hgc
    by_cases e : c = b
    · subst e
      rw [hb] at hk; cases hk
      rw [AHeap.get_set_eq] at hgc
      injection hgc with hgc
      subst hgc
      exact hO
    · rw [AHeap.get_set_ne _ _ _ _ e] at hgc
      cases hal : o2.alive with
      | false => cases o2 <;> simp [AObj.alive] at hal; trivial
      | true => exact (hR.obj c k o2 hk hgc).congr (hothers _ (key c k o2 e hk hgc hal))
  · intro c k o1 anc1 c' k' o2 hk hgc how hk' hgc' hal hne hB
    by_cases e : c = b
    · subst e
      rw [hb] at hk; cases hk
      rw [AHeap.get_set_ne _ _ _ _ hne] at hgc'
      exact absurd hB (key c' k' o2 hne hk' hgc' hal)
    · rw [AHeap.get_set_ne _ _ _ _ e] at hgc
      by_cases e' : c' = b
      · subst e'
        rw [hb] at hk'; cases hk'
        exact absurd hB.symm (key c k o1 e hk hgc (alive_of_owns how))
      · rw [AHeap.get_set_ne _ _ _ _ e'] at hgc'
        exact hR.excl c k o1 anc1 c' k' o2 hk hgc how hk' hgc' hal hne hB
  · rintro B hB ⟨c, k, o1, hk, rfl, hgc, how⟩
    by_cases e : c = b
    · subst e
      rw [hb] at hk; cases hk
      exact ⟨c, l, _, hb, rfl, hg, by rw [ho]; rfl⟩
    · rw [AHeap.get_set_ne _ _ _ _ e] at hgc
      exact ⟨c, k, o1, hk, rfl, hgc, how⟩
  · intro B hB hn
    refine hothers _ fun e => hn ?_
    subst e
    exact ⟨b, l, _, hb, rfl, hg, by rw [ho]; rfl⟩

theorem VRel.iface_inv {ρ : Ren} {t : TypeId} {x V : Value} (h : VRel ρ (.iface t x) V) : ∃ y, V = .iface t y ∧ VRel ρ x y := by
  cases h with | iface _ _ y h => exact ⟨y, rfl, h⟩

theorem aslice3_ok {E : Env} (hT : E.TOk) {ρ : Ren} {H : AHeap} {w : World} (hR : Rel ρ H w) {t : TypeId} {x X v m M : Value} {lo hi Lo Hi : Option Value} (hx : VRel ρ x X) (hl : ORel' ρ lo Lo) (hh : ORel' ρ hi Hi) (hm : VRel ρ m M)
    (h : aslice3 E t x lo hi m H = some v) : ∃ V, (Instr.sliceAt t X Lo Hi (some M)).run E.P w = .ok V w ∧ VRel ρ v V := by
  have bnds : ∀ (l c : Nat) (k k' : IntKind) (hv mv : Int), abound 0 lo = some l → hi = some (.int k hv) → m = .int k' mv → 0 ≤ hv → hv ≤ mv → mv ≤ c → l ≤ hv → ∀ n : Nat,
      (Instr.sliceBounds true n c Lo Hi (some M)).run E.P w = .ok (l, hv.toNat, mv.toNat) w := by
    intro l c k k' hv mv e1 e2 e3 h1 h2 h3 h4 n
    subst e2 e3
    obtain rfl := hm.int_inv
    obtain ⟨HV, hHi, hvr⟩ := hh.1 _ rfl
    obtain rfl := hvr.int_inv
    subst hHi
    have b := bound_ok (P := E.P) (code := .slice3C) (y := hv.toNat) hl e1 (fun _ => by omega) w
    have q1 : (Instr.sliceBound (.int k' mv) c .slice3Acap).run E.P w = .ok mv.toNat w := by
      simp only [Instr.sliceBound, asIntOf, Sem.run_bind, Sem.run_pure, Result.andThen_ok]
      rw [Sem.run_ite, if_pos ⟨by omega, h3⟩]; rfl
    have q2 : (Instr.sliceBound (.int k hv) mv.toNat .slice3B).run E.P w = .ok hv.toNat w := by
      simp only [Instr.sliceBound, asIntOf, Sem.run_bind, Sem.run_pure, Result.andThen_ok]
      rw [Sem.run_ite, if_pos ⟨h1, by omega⟩]; rfl
    cases Lo with
    | none =>
      have b1 : (Pure.pure 0 : Sem Nat).run E.P w = .ok l w := b
      rw [Sem.run_pure] at b1
      injection b1 with b1
      subst b1
      show ((do let m ← Instr.sliceBound (.int k' mv) c .slice3Acap; let h ← Instr.sliceBound (.int k hv) m .slice3B; pure (0, h, m)) : Sem _).run E.P w = _
      rw [Sem.run_bind, q1, Result.andThen_ok, Sem.run_bind, q2]; rfl
    | some u =>
      have b1 : (Instr.sliceBound u hv.toNat .slice3C).run E.P w = .ok l w := b
      show ((do let m ← Instr.sliceBound (.int k' mv) c .slice3Acap; let h ← Instr.sliceBound (.int k hv) m .slice3B; let l ← Instr.sliceBound u h .slice3C; pure (l, h, m)) : Sem _).run E.P w = _
      rw [Sem.run_bind, q1, Result.andThen_ok, Sem.run_bind, q2, Result.andThen_ok, Sem.run_bind, b1]; rfl
  unfold aslice3 at h
  split at h
  · rename_i i hi'
    split at h
    · rename_i e b o n c hd
      obtain ⟨l, C, A, hb, hn, hc, hN, hA, rfl⟩ := hx.slice_inv
      split at h
      · rename_i sz lo' k hv k' mv he el
        split at h
        · rename_i hcc
          injection h with h; subst h
          obtain ⟨ei, hei, hsz⟩ := asize_some he
          have hst := strided_ok hR hb hcc.2.2.2.2
          have hbn := bnds lo' C k k' hv mv el rfl rfl hcc.1 hcc.2.1 (by omega) hcc.2.2.2.1 n
          simp only [Instr.sliceAt, Instr.slice, Sem.run_bind, run_und hT hi', hd, Result.andThen_ok, run_size hT hei, hbn, Sem.run_pure]
          refine ⟨_, rfl, ?_⟩
          by_cases hz : mv.toNat = lo'
          · rw [if_pos hz]
            have h1 : hv.toNat - lo' = 0 := by omega
            have h2 : mv.toNat - lo' = 0 := by omega
            rw [h1, h2]
            exact .slice b _ 0 0 l 0 A hb (Nat.le_refl _) ⟨Nat.le_refl _, by omega⟩ (fun h => absurd rfl h) (fun h => absurd rfl h)
          · rw [if_neg hz]
            have hC : C ≠ 0 := by omega
            have hA' := hA hC
            subst hA'
            rw [Option.map_some, addr_add, hsz]
            refine .slice b (o + lo' * sz) (hv.toNat - lo') (mv.toNat - lo') l (mv.toNat - lo') _ hb (by omega) (by omega) (fun _ => ?_) (fun _ => by rw [Nat.add_assoc])
            have := hN hC
            rw [hst] at this ⊢
            have e1 : lo' * sz + (mv.toNat - lo') * sz = mv.toNat * sz := by rw [← Nat.add_mul]; congr 1; omega
            have e2 : mv.toNat * sz ≤ C * sz := Nat.mul_le_mul_right _ (by omega)
            omega
        · cases h
      · cases h
    · rename_i e hd
      obtain ⟨rfl, _, _⟩ := hx.slice_nil_inv
      split at h
      · rename_i sz lo' k hv k' mv he el
        split at h
        · rename_i hcc
          injection h with h; subst h
          obtain ⟨rfl, rfl, rfl⟩ := hcc
          obtain ⟨ei, hei, hsz⟩ := asize_some he
          have hbn := bnds 0 0 k k' 0 0 el rfl rfl (by omega) (by omega) (by omega) (by omega) 0
          refine ⟨.slice none 0 0, ?_, .nils⟩
          simp only [Instr.sliceAt, Instr.slice, Sem.run_bind, run_und hT hi', hd, Result.andThen_ok, run_size hT hei, hbn, Sem.run_pure]
          rfl
        · cases h
      · cases h
    · cases h
  · cases h
theorem axop_ok {E : Env} (hT : E.TOk) {ρ : Ren} {H H' : AHeap} {w : World} (hR : Rel ρ H w) {ev cev : Operand → Value} (hev : ∀ x, VRel ρ (ev x) (cev x)) {o : Oper} {v : Value}
    (h : axop E ev o.op H = some (v, H')) : OpRun E.P ρ H w (execOp cev o) v H' := by
  obtain ⟨dst, op, ty, pos, after, guard⟩ := o
  simp only at h
  unfold axop at h
  split at h
  · -- range
    rename_i t x
    have hx := hev x
    split at h
    · rename_i i hi
      split at h
      · rename_i s hd he
        rw [he] at hx
        simp only [Option.some.injEq, Prod.mk.injEq] at h
        obtain ⟨rfl, rfl⟩ := h
        have ho : ORel (ρ.upd H.size ⟨w.heap.size, 0, 0, 0⟩) (w.alloc (.stringIter s 0)) ⟨w.heap.size, 0, 0, 0⟩ (.siter s 0) := ⟨rfl, heap_alloc_new _ _⟩
        obtain ⟨r1, r2⟩ := hR.alloc (.stringIter s 0) (.siter s 0) ⟨w.heap.size, 0, 0, 0⟩ rfl ho
        refine ⟨.pointer (some ⟨w.heap.size, 0, none⟩), _, _, .inl ?_, r1, r2, .ptr H.size 0 ⟨w.heap.size, 0, 0, 0⟩ (Ren.upd_eq _ _ _)⟩
        have hX := hx.string_inv
        simp only [execOp, Sem.run_bind, hX, Instr.range, run_und hT hi, hd, Result.andThen_ok, Sem.run_pure, run_newObj]; rfl
      · rename_i k e hd he
        rw [he] at hx
        simp only [Option.some.injEq, Prod.mk.injEq] at h
        obtain ⟨rfl, rfl⟩ := h
        have ho : ORel (ρ.upd H.size ⟨w.heap.size, 0, 0, 0⟩) (w.alloc (.mapIter none 0 #[] 0)) ⟨w.heap.size, 0, 0, 0⟩ (.miter (some none) 0 [] 0) := ⟨rfl, none, heap_alloc_new _ _, rfl⟩
        obtain ⟨r1, r2⟩ := hR.alloc (.mapIter none 0 #[] 0) (.miter (some none) 0 [] 0) ⟨w.heap.size, 0, 0, 0⟩ rfl ho
        refine ⟨.pointer (some ⟨w.heap.size, 0, none⟩), _, _, .inl ?_, r1, r2, .ptr H.size 0 ⟨w.heap.size, 0, 0, 0⟩ (Ren.upd_eq _ _ _)⟩
        have hX := hx.nilm_inv
        simp only [execOp, Sem.run_bind, hX, Instr.range, run_und hT hi, hd, Result.andThen_ok, Sem.run_pure, run_newObj]; rfl
      · rename_i k e b hd he
        rw [he] at hx
        split at h
        · rename_i es bs st hg
          simp only [Option.some.injEq, Prod.mk.injEq] at h
          obtain ⟨rfl, rfl⟩ := h
          obtain ⟨l, hb, hX⟩ := hx.map_inv
          obtain ⟨ES, o1, o2, o3, o4⟩ := hR.obj _ l _ hb hg
          have hle := Ren.upd_le (l := (⟨w.heap.size, 0, 0, 0⟩ : Loc)) hR.fresh
          have ho : ORel (ρ.upd H.size ⟨w.heap.size, 0, 0, 0⟩) (w.alloc (.mapIter (some l.B) bs.2 #[] bs.2)) ⟨w.heap.size, 0, 0, 0⟩ (.miter (some (some b)) bs.2 [] bs.2) :=
              ⟨rfl, some l.B, heap_alloc_new _ _, l, hle _ _ hb, rfl⟩
          obtain ⟨r1, r2⟩ := hR.alloc (.mapIter (some l.B) bs.2 #[] bs.2) (.miter (some (some b)) bs.2 [] bs.2) ⟨w.heap.size, 0, 0, 0⟩ rfl ho
          refine ⟨.pointer (some ⟨w.heap.size, 0, none⟩), _, _, .inl ?_, r1, r2, .ptr H.size 0 ⟨w.heap.size, 0, 0, 0⟩ (Ren.upd_eq _ _ _)⟩
          simp only [execOp, Sem.run_bind, hX, Instr.range, run_und hT hi, hd, Result.andThen_ok, Sem.run_pure, run_newObj, run_getMap o1]; rfl
        · cases h
      · cases h
    · cases h
  · -- next
    rename_i it s
    have hx := hev it
    split at h
    · rename_i b he
      rw [he] at hx
      obtain ⟨l, hb, hX⟩ := hx.ptr_inv
      split at h
      · rename_i s pos hg
        obtain ⟨h0, o1⟩ : l.s = 0 ∧ w.heap[l.B]? = some (.stringIter s pos) := hR.obj _ l _ hb hg
        rw [h0, Nat.zero_add] at hX
        split at h
        · rename_i hlt
          simp only [Option.some.injEq, Prod.mk.injEq] at h
          obtain ⟨rfl, rfl⟩ := h
          have hO : ORel ρ { w with heap := w.heap.setIfInBounds l.B (.stringIter s (pos + (Utf8.decode s pos).2)) } l (.siter s (pos + (Utf8.decode s pos).2)) :=
            ⟨h0, by rw [Array.getElem?_setIfInBounds, if_pos rfl, if_pos (hR.bd _ l hb).2]⟩
          obtain ⟨r1, r2⟩ := setIter_rel (o' := .siter s (pos + (Utf8.decode s pos).2)) (O := .stringIter s (pos + (Utf8.decode s pos).2)) hR hb hg rfl rfl rfl hO
          refine ⟨.tuple #[.bool true, .int .i64 pos, .int .i32 (Utf8.decode s pos).1], _, ρ, .inl ?_, r1, r2, .tuple' (xs := [.bool true, .int .i64 pos, .int .i32 (Utf8.decode s pos).1]) (ys := [.bool true, .int .i64 pos, .int .i32 (Utf8.decode s pos).1]) (.cons (.bool _) (.cons (.int _ _) (.cons (.int _ _) (.nil ρ))))⟩
          simp only [execOp, hX, Instr.next, getObj, setObj, Sem.run_bind, Sem.run, o1, Result.andThen_ok, hlt, if_true, goInt]
          simp [Sem.run, o1]
        · rename_i hlt
          simp only [Option.some.injEq, Prod.mk.injEq] at h
          obtain ⟨rfl, rfl⟩ := h
          refine .pure hR (V := .tuple #[.bool false]) ?_ (.tuple' (xs := [.bool false]) (ys := [.bool false]) (.cons (.bool _) (.nil ρ)))
          simp [execOp, hX, Instr.next, getObj, Sem.run, o1, hlt]
      · rename_i a1 a2 a3 hg
        obtain ⟨h0, M, o1, hM⟩ := hR.obj _ l _ hb hg
        simp only at hM
        subst hM
        rw [h0, Nat.zero_add] at hX
        simp only [Option.some.injEq, Prod.mk.injEq] at h
        obtain ⟨rfl, rfl⟩ := h
        refine .pure hR (V := .tuple #[.bool false]) ?_ (.tuple' (xs := [.bool false]) (ys := [.bool false]) (.cons (.bool _) (.nil ρ)))
        simp only [execOp, hX, Instr.next, getObj, Sem.run_bind, Sem.run, o1, Result.andThen_ok]
        rfl
      · rename_i m since seen last hg
        obtain ⟨h0, M, o1, lm, hm, hM⟩ := hR.obj _ l _ hb hg
        subst hM
        rw [h0, Nat.zero_add] at hX
        split at h
        · rename_i es bs st hgm
          obtain ⟨ES, e1, e2, e3, e4⟩ := hR.obj _ lm _ hm hgm
          have hz := zipped.of e2 e3 e4
          have hesz : es.isEmpty = ES.isEmpty := by
            have hl : es.length = ES.size := by have := e2.1; simpa using this
            rw [Bool.eq_iff_iff, List.isEmpty_iff, Array.isEmpty_iff]
            constructor
            · intro h; rw [h] at hl; exact Array.size_eq_zero_iff.1 hl.symm
            · intro h; rw [h] at hl; exact List.length_eq_zero_iff.1 hl
          have hall : (bs.1.all fun x => decide (x ≥ last)) = ES.all (fun x => decide (x.born ≥ last)) := by
            rw [← e4, List.all_map, ← Array.all_toList]; rfl
          split at h
          · cases h
          · rename_i hne
            have hne' : (!seen.toArray.isEmpty && !ES.isEmpty && ES.all (fun x => decide (x.born ≥ last))) = false := by
              rw [← hesz, ← hall]
              have : seen.toArray.isEmpty = seen.isEmpty := by cases seen <;> rfl
              rw [this]; simpa using hne
            obtain ⟨c1, c2⟩ := cands_rel hz since seen
            have harr : ∀ (A : Array MapEntry) (q : MapEntry → Bool), (A.filter q) = (A.toList.filter q).toArray := fun A q => by apply Array.ext'; simp
            have hsc : ∀ n, seen.toArray.contains n = seen.contains n := fun n => by simp
            -- the model's candidates
            have hrun : ∀ (L : List (Option MapEntry)),
                (let l := ES.toList.filter fun e => !seen.contains e.born
                 let o := l.filter fun e => decide (e.born < since)
                 let n := l.filter fun e => decide (e.born ≥ since)
                 (if o.isEmpty then [none] else []) ++ (o ++ n).map some) = L →
                (Instr.next (.pointer (some ⟨l.B, 0, none⟩)) false ty).run E.P w =
                  ((do match L.toArray[← choose (.mapNext L.length)]? with
                      | some (some e) =>
                        setObj l.B (.mapIter (some lm.B) since (seen.toArray.push e.born) bs.2)
                        pure (.tuple #[.bool true, e.key, e.val])
                      | some none => pure (.tuple #[.bool false])
                      | none => stuck "Next: no such candidate") : Sem Value).run E.P w := by
              intro L hL
              subst hL
              simp only [Instr.next, Sem.run_bind, getObj, Sem.run, o1, e1, Result.andThen_ok]
              rw [hne']
              simp only [Bool.false_eq_true, if_false, harr, hsc]
              generalize (ES.toList.filter fun e => !seen.contains e.born).filter (fun x => decide (x.born < since)) = fo
              generalize (ES.toList.filter fun e => !seen.contains e.born).filter (fun x => decide (x.born ≥ since)) = fn
              have hA : ((if fo.toArray.isEmpty = true then #[none] else #[]) ++ Array.map some (fo.toArray ++ fn.toArray)) = ((if fo.isEmpty = true then [none] else []) ++ (fo ++ fn).map some).toArray := by
                cases fo <;> simp
              rw [hA, List.size_toArray, ← Sem.run_bind]
              rfl
            split at h
            · rename_i z hc
              obtain ⟨e, hL, hb1, hb2, hb3⟩ := c2 z hc
              simp only [Option.some.injEq, Prod.mk.injEq] at h
              obtain ⟨rfl, rfl⟩ := h
              have hO : ORel ρ { w with heap := w.heap.setIfInBounds l.B (.mapIter (some lm.B) since (seen ++ [z.1]).toArray bs.2) } l (.miter (some (some m)) since (seen ++ [z.1]) bs.2) :=
                ⟨h0, some lm.B, by rw [Array.getElem?_setIfInBounds, if_pos rfl, if_pos (hR.bd _ l hb).2], lm, hm, rfl⟩
              obtain ⟨r1, r2⟩ := setIter_rel (o' := .miter (some (some m)) since (seen ++ [z.1]) bs.2) (O := .mapIter (some lm.B) since (seen ++ [z.1]).toArray bs.2) hR hb hg rfl rfl rfl hO
              refine ⟨.tuple #[.bool true, e.key, e.val], _, ρ, .inl ?_, r1, r2, .tuple' (xs := [.bool true, z.2.1, z.2.2]) (ys := [.bool true, e.key, e.val]) (.cons (.bool _) (.cons hb2 (.cons hb3 (.nil ρ))))⟩
              have hseen : seen.toArray.push e.born = (seen ++ [z.1]).toArray := by rw [hb1]; simp
              simp only [execOp, hX, Sem.run_bind, hrun _ hL]
              simp [choose, Sem.run, Question.forced, setObj, o1, hb1]
            · rename_i hc
              have hL := c1 hc
              simp only [Option.some.injEq, Prod.mk.injEq] at h
              obtain ⟨rfl, rfl⟩ := h
              refine .pure hR (V := .tuple #[.bool false]) ?_ (.tuple' (xs := [.bool false]) (ys := [.bool false]) (.cons (.bool _) (.nil ρ)))
              simp only [execOp, hX, Sem.run_bind, hrun _ hL]
              simp [choose, Sem.run, Question.forced]
            · cases h
        · cases h
      · cases h
    · cases h
  · -- entry
    rename_i it
    have hx := hev it
    split at h
    · rename_i b he
      rw [he] at hx
      obtain ⟨l, hb, hX⟩ := hx.ptr_inv
      split at h
      · rename_i m since seen last hg
        obtain ⟨h0, M, o1, lm, hm, hM⟩ := hR.obj _ l _ hb hg
        subst hM
        rw [h0, Nat.zero_add] at hX
        split at h
        · rename_i es bs st stamp hgm hl
          obtain ⟨ES, e1, e2, e3, e4⟩ := hR.obj _ lm _ hm hgm
          have hz := zipped.of e2 e3 e4
          split at h
          · rename_i hlast
            split at h
            · rename_i z hfd
              simp only [Option.some.injEq, Prod.mk.injEq] at h
              obtain ⟨rfl, rfl⟩ := h
              obtain ⟨e, q1, q2, q3⟩ := hz.find hfd
              refine .pure hR (V := .tuple #[e.key, e.val]) ?_ (.tuple' (xs := [z.2.1, z.2.2]) (ys := [e.key, e.val]) (.cons q2 (.cons q3 (.nil ρ))))
              have hback : seen.toArray.back? = some stamp := by rw [← hl]; simp
              have hfind : ES.find? (fun x => x.born == stamp) = some e := by rw [← Array.find?_toList]; exact q1
              simp only [execOp, hX, Instr.entry, getObj, Sem.run_bind, Sem.run, o1, Result.andThen_ok, hback, e1, hlast, hfind]
              simp [Sem.run]
            · cases h
          · cases h
        · cases h
      · cases h
    · cases h
  · -- typeAssert
    rename_i x xt t ok
    have hx := hev x
    split at h
    · rename_i i hi
      split at h
      · cases h
      · rename_i hni
        have hI : ∀ q, i.desc ≠ .interface q := by intro q hq; rw [hq] at hni; exact hni rfl
        have hzero : ∀ z, i.zero = some z → ok = true → ∀ X, (∀ q u, X = .iface q u → q ≠ t) → (X = .nilIface ∨ ∃ q u, X = .iface q u) → (Instr.typeAssert X xt t ok).run E.P w = .ok (.tuple #[z, .bool false]) w := by
          intro z hz hok X hne hX
          subst hok
          have zr := run_zero hT hi hz w
          rcases hX with rfl | ⟨q, u, rfl⟩
          · simp only [Instr.typeAssert, Sem.run_bind, run_und hT hi, Result.andThen_ok]
            cases hd : i.desc <;> simp_all [Sem.run_bind, Sem.run_pure]
          · have := hne q u rfl
            simp only [Instr.typeAssert, Sem.run_bind, run_und hT hi, Result.andThen_ok]
            cases hd : i.desc <;> simp_all [Sem.run_bind, Sem.run_pure]
        have ztup : ∀ z, i.zero = some z → VRel ρ (.tuple #[z, .bool false]) (.tuple #[z, .bool false]) := fun z hz =>
          .tuple' (xs := [z, .bool false]) (ys := [z, .bool false]) (.cons (.plain ((hT.ty t i hi).zok z hz)) (.cons (.bool _) (.nil ρ)))
        split at h
        · rename_i u y he
          rw [he] at hx
          obtain ⟨Y, hX, hy⟩ := hx.iface_inv
          split at h
          · rename_i hut
            subst hut
            simp only [Option.some.injEq, Prod.mk.injEq] at h
            obtain ⟨rfl, rfl⟩ := h
            refine .pure hR (V := if ok then .tuple #[Y, .bool true] else Y) ?_ ?_
            · simp only [execOp, hX, Instr.typeAssert, Sem.run_bind, run_und hT hi, Result.andThen_ok]
              cases hd : i.desc <;> first | exact absurd hd (hI _) | (simp only [if_true, Sem.run_pure, Result.andThen_ok])
            · split
              · exact .tuple' (xs := [y, .bool true]) (ys := [Y, .bool true]) (.cons hy (.cons (.bool _) (.nil ρ)))
              · exact hy
          · rename_i hut
            split at h
            · rename_i hok
              split at h
              · rename_i z hz
                simp only [Option.some.injEq, Prod.mk.injEq] at h
                obtain ⟨rfl, rfl⟩ := h
                refine .pure hR (V := .tuple #[z, .bool false]) ?_ (ztup z hz)
                simp only [execOp, hX, Sem.run_bind, hzero z hz hok (.iface u Y) (fun q u' e => by injection e with e; subst e; exact hut) (.inr ⟨_, _, rfl⟩), Result.andThen_ok, Sem.run_pure]
              · cases h
            · cases h
        · rename_i he
          rw [he] at hx
          have hX : cev x = .nilIface := by generalize cev x = X at hx; cases hx; rfl
          split at h
          · rename_i hok
            split at h
            · rename_i z hz
              simp only [Option.some.injEq, Prod.mk.injEq] at h
              obtain ⟨rfl, rfl⟩ := h
              refine .pure hR (V := .tuple #[z, .bool false]) ?_ (ztup z hz)
              simp only [execOp, hX, Sem.run_bind, hzero z hz hok .nilIface (fun q u' e => by cases e) (.inl rfl), Result.andThen_ok, Sem.run_pure]
            · cases h
          · cases h
        · cases h
    · cases h
  · -- slice3
    rename_i t x lo hi mx
    split at h
    · rename_i u hu
      simp only [Option.some.injEq, Prod.mk.injEq] at h
      obtain ⟨rfl, rfl⟩ := h
      have hor : ∀ q : Option Operand, ORel' ρ (q.map ev) (q.map cev) := by
        intro q
        cases q with
        | none => exact ⟨fun v hv => by simp at hv, fun _ => rfl⟩
        | some q => exact ⟨fun v hv => ⟨cev q, rfl, by simp at hv; subst hv; exact hev q⟩, fun h => by simp at h⟩
      obtain ⟨V, r1, r2⟩ := aslice3_ok hT hR (hev x) (hor lo) (hor hi) (hev mx) hu
      exact .pure hR (V := V) (by simp only [execOp, Sem.run_bind, Option.map_some, r1, Result.andThen_ok, Sem.run_pure]) r2
    · cases h
  · -- cap
    rename_i args ts
    split at h
    · rename_i x t h1 h2
      have hx := hev x
      split at h
      · rename_i i hi
        split at h
        · rename_i e hd he
          rw [he] at hx
          simp only [Option.some.injEq, Prod.mk.injEq] at h
          obtain ⟨rfl, rfl⟩ := h
          obtain ⟨hX, _, _⟩ := hx.slice_nil_inv
          refine .pure hR (V := .int .i64 0) ?_ (.int _ _)
          have a0 : (args.map cev)[0]? = some (.slice none 0 0) := by simp [h1, hX]
          simp only [execOp, resolve, Sem.run_bind, Sem.run_pure, Result.andThen_ok, invoke, builtin, Builtin.cap_, h2, a0, run_und hT hi, hd]
          rfl
        · cases h
      · cases h
    · cases h
  · -- clear
    rename_i args ts
    split at h
    · rename_i x t h1 h2
      have hx := hev x
      split at h
      · rename_i i hi
        split at h
        · rename_i e hd he
          rw [he] at hx
          obtain ⟨hX, _, _⟩ := hx.slice_nil_inv
          simp only [Option.some.injEq, Prod.mk.injEq] at h
          obtain ⟨rfl, rfl⟩ := h
          refine .pure hR (V := .tuple #[]) ?_ (undef_rel ρ)
          have a0 : (args.map cev)[0]? = some (.slice none 0 0) := by simp [h1, hX]
          simp only [execOp, resolve, Sem.run_bind, Sem.run_pure, Result.andThen_ok, invoke, builtin, Builtin.clear_, h2, a0, run_und hT hi, hd]
        · rename_i e b o n c hd he
          rw [he] at hx
          obtain ⟨l, C, A, hb, hn, hc, hN, hA, hX⟩ := hx.slice_inv
          have a0 : (args.map cev)[0]? = some (.slice (some A) n C) := by simp [h1, hX]
          split at h
          · rename_i hn0
            subst hn0
            simp only [Option.some.injEq, Prod.mk.injEq] at h
            obtain ⟨rfl, rfl⟩ := h
            refine .pure hR (V := .tuple #[]) ?_ (undef_rel ρ)
            simp only [execOp, resolve, Sem.run_bind, Sem.run_pure, Result.andThen_ok, invoke, builtin, Builtin.clear_, h2, a0, run_und hT hi, hd]
          · rename_i hn0
            split at h
            · rename_i ei hei
              split at h
              · rename_i z hz
                split at h
                · rename_i zc hzc
                  split at h
                  · rename_i H1 hw
                    simp only [Option.some.injEq, Prod.mk.injEq] at h
                    obtain ⟨rfl, rfl⟩ := h
                    have hA' := hA (by omega)
                    subst hA'
                    obtain ⟨zr1, zr2⟩ := zeros_rel (ρ := ρ) hzc ((hT.ty e ei hei).zok z hz) n
                    obtain ⟨w', q1, q2, q3⟩ := wr_ok (P := E.P) hR hb zr1 zr2 hw
                    refine ⟨.tuple #[], w', ρ, .inl ?_, q2, q3, undef_rel ρ⟩
                    have hz' := run_zero hT hei hz w
                    obtain ⟨n', rfl⟩ : ∃ n', n = n' + 1 := ⟨n - 1, by omega⟩
                    simp only [execOp, resolve, Sem.run_bind, Sem.run_pure, Result.andThen_ok, invoke, builtin, Builtin.clear_, h2, a0, run_und hT hi, hd, hz']
                    have q1' : (storeCells ⟨l.B, l.s + o, none⟩ (Builtin.zeroCells z.cells (n' + 1)).toList).run E.P w = .ok () w' := q1
                    rw [q1']; rfl
                  · cases h
                · cases h
              · cases h
            · cases h
        · cases h
      · cases h
    · cases h
  · cases h
def isX : Op → Bool
  | .range .. | .next .. | .entry .. | .typeAssert .. | .slice _ _ _ _ (some _) => true
  | .call ⟨.builtin .cap, _, _⟩ | .call ⟨.builtin .clear, _, _⟩ => true
  | _ => false
end Go.Ev
