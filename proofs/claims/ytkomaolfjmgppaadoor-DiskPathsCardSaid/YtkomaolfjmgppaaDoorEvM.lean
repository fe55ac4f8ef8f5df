/- The kinds of operations, for regions whose order is drawn. -/
import Derived.Test.YtkomaolfjmgppaaDoorEvL
namespace Go.Ev
open Go
set_option linter.unusedVariables false
set_option linter.unusedSimpArgs false

inductive Kd where
  | pure | read | alloc | eff | bad
  deriving DecidableEq

def Env.desc (E : Env) (t : TypeId) : TypeDesc :=
  match E.ty t with
  | some i => i.desc
  | none => .invalid

def kindOf (E : Env) : Op → Kd
  | .move _ | .assign _ | .pick .. | .build .. | .nilCheck _ | .binOp .. | .unOp .. | .makeInterface .. | .makeFunc .. | .fieldAddr .. | .field .. | .indexAddr .. | .index .. | .extract .. => .pure
  | .load .. | .lookup .. => .read
  | .alloc _ | .box .. | .buildSlice .. | .makeSlice .. | .makeMap .. => .alloc
  | .convert s d _ =>
    match E.desc s, E.desc d with
    | .slice _, .string => .read
    | _, .slice _ => .alloc
    | _, .int _ => .pure
    | .string, .string => .pure
    | _, _ => .bad
  | .range .. | .next .. | .entry .. | .typeAssert .. => .eff
  | .slice t _ _ _ mx =>
    match mx with
    | some _ => .eff
    | none =>
    match E.desc t with
    | .string => .pure
    | _ => .read
  | .store .. | .mapUpdate .. | .insert .. => .eff
  | .call c =>
    match c.callee with
    | .value _ => .eff
    | .invoke .. => .eff
    | .builtin .cap | .builtin .clear => .eff
    | .builtin .append | .builtin .copy | .builtin .delete => .eff
    | .builtin .max | .builtin .min => .pure
    | .builtin .len => .read
    | _ => .bad
  | _ => .bad

theorem desc_eq {E : Env} {t : TypeId} {i : TyI} (h : E.ty t = some i) : E.desc t = i.desc := by simp [Env.desc, h]

/-- What an operation does hangs on its operands alone. -/
theorem aop_congr {E : Env} {ev ev' : Operand → Value} {op : Op} (h : ∀ x ∈ op.operands, ev x = ev' x) (H : AHeap) : aop E ev op H = aop E ev' op H := by
  have pairs : ∀ ps : Array (Nat × Operand), (∀ x ∈ (ps.toList.map (·.2)).toArray, ev x = ev' x) → (ps.toList.map fun p => (p.1, ev p.2)) = ps.toList.map fun p => (p.1, ev' p.2) := by
    intro ps hp
    refine List.map_congr_left fun p hm => ?_
    rw [hp p.2 (by simp; exact ⟨p.1, by simpa using hm⟩)]
  have args : ∀ as : Array Operand, (∀ x ∈ as, ev x = ev' x) → ∀ (i : Nat) y, as[i]? = some y → ev y = ev' y := fun as ha i y hy => ha y (Array.mem_of_getElem? hy)
  cases op with
  | call c =>
    obtain ⟨callee, as, ts⟩ := c
    have has : ∀ x ∈ as, ev x = ev' x := fun x hx => h x (by simp only [Op.operands, Call.operands]; exact Array.mem_append.2 (.inr hx))
    have hl : as.toList.map ev = as.toList.map ev' := List.map_congr_left fun x hx => has x (Array.mem_toList_iff.1 hx)
    cases callee with
    | builtin b =>
      cases b <;> first
        | rfl
        | skip
      all_goals simp only [aop]
      all_goals first
        | (split
           · rename_i s x st xt h1 h2 h3 h4
             rw [args as has 0 s h1, args as has 1 x h2]
           · rfl)
        | (split
           · rename_i s x st h1 h2 h3
             rw [args as has 0 s h1, args as has 1 x h2]
           · rfl)
        | (split
           · rename_i x t h1 h2
             rw [args as has 0 x h1]
           · rfl)
        | (split
           · rename_i x y l hl'
             have e1 : ev x = ev' x := has x (by rw [← Array.mem_toList_iff, hl']; simp)
             have e2 : (y :: l).map ev = (y :: l).map ev' := List.map_congr_left fun z hz => has z (by rw [← Array.mem_toList_iff, hl']; exact List.mem_cons_of_mem _ hz)
             rw [e1, e2]
           · rfl)
    | _ => rfl
  | build t ps => simp only [Op.operands] at h; simp only [aop, pairs ps h]
  | buildSlice t n ps => simp only [Op.operands] at h; simp only [aop, pairs ps h]
  | makeFunc fn fs cs =>
    simp only [Op.operands] at h
    have e1 : fs.map ev = fs.map ev' := Array.map_congr_left fun x hx => h x (Array.mem_append.2 (.inl hx))
    have e2 : cs.map ev = cs.map ev' := Array.map_congr_left fun x hx => h x (Array.mem_append.2 (.inr hx))
    simp only [aop, e1, e2]
  | slice t x lo hi mx =>
    simp only [Op.operands] at h
    have e0 : ev x = ev' x := h x (by simp)
    have e1 : lo.map ev = lo.map ev' := by cases lo with | none => rfl | some y => simp only [Option.map_some]; rw [h y (by simp)]
    have e2 : hi.map ev = hi.map ev' := by cases hi with | none => rfl | some y => simp only [Option.map_some]; rw [h y (by simp)]
    cases mx <;> simp only [aop, e0, e1, e2]
  | makeMap t r => cases r <;> rfl
  | move x => simp only [Op.operands] at h; simp only [aop, h x (by simp)]
  | assign x => simp only [Op.operands] at h; simp only [aop, h x (by simp)]
  | pick c a b => simp only [Op.operands] at h; simp only [aop, h c (by simp), h a (by simp), h b (by simp)]
  | alloc t => rfl
  | box t x => simp only [Op.operands] at h; simp only [aop, h x (by simp)]
  | load t x => simp only [Op.operands] at h; simp only [aop, h x (by simp)]
  | store t a x => simp only [Op.operands] at h; simp only [aop, h a (by simp), h x (by simp)]
  | nilCheck x => simp only [Op.operands] at h; simp only [aop, h x (by simp)]
  | binOp op t x y u => simp only [Op.operands] at h; simp only [aop, h x (by simp), h y (by simp)]
  | unOp op t x => simp only [Op.operands] at h; simp only [aop, h x (by simp)]
  | convert s d x => simp only [Op.operands] at h; simp only [aop, h x (by simp)]
  | makeInterface t x => simp only [Op.operands] at h; simp only [aop, h x (by simp)]
  | makeSlice t x y => simp only [Op.operands] at h; simp only [aop, h x (by simp), h y (by simp)]
  | fieldAddr t x f => simp only [Op.operands] at h; simp only [aop, h x (by simp)]
  | field t x f => simp only [Op.operands] at h; simp only [aop, h x (by simp)]
  | indexAddr t x y => simp only [Op.operands] at h; simp only [aop, h x (by simp), h y (by simp)]
  | index t x y => simp only [Op.operands] at h; simp only [aop, h x (by simp), h y (by simp)]
  | lookup t x y ok => simp only [Op.operands] at h; simp only [aop, h x (by simp), h y (by simp)]
  | mapUpdate t m k x => simp only [Op.operands] at h; simp only [aop, h m (by simp), h k (by simp), h x (by simp)]
  | insert t m k x => simp only [Op.operands] at h; simp only [aop, h m (by simp), h k (by simp), h x (by simp)]
  | extract x i => simp only [Op.operands] at h; simp only [aop, h x (by simp)]
  | _ => rfl
end Go.Ev
