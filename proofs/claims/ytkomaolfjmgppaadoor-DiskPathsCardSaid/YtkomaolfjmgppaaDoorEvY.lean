/- A law's walk: what the abstract states are at a place; loops by a measure; what is no more needed is thrown away. -/
import Derived.Test.YtkomaolfjmgppaaDoorEvX
namespace Go.Ev
open Go RowKit
set_option linter.unusedVariables false
set_option linter.unusedSectionVars false
set_option linter.unusedSimpArgs false

/-! ### Throwing away -/
def posOf (b : Nat) : List Nat → Option Nat
  | [] => none
  | c :: l => if c = b then some 0 else (posOf b l).map (· + 1)
theorem posOf_get {b i : Nat} : ∀ {l : List Nat}, posOf b l = some i → l[i]? = some b := by
  intro l
  induction l generalizing i with
  | nil => intro h; cases h
  | cons c l ih =>
    intro h
    unfold posOf at h
    split at h
    · rename_i hc; injection h with h; subst h; simp [hc]
    · cases hp : posOf b l with
      | none => rw [hp] at h; cases h
      | some j =>
        rw [hp] at h
        injection h with h
        subst h
        simpa using ih hp

def renV0 (d : List Nat) : Value → Value
  | .bool b => .bool b
  | .int k n => .int k n
  | .string s => .string s
  | .pointer none => .pointer none
  | .pointer (some ⟨b, o, none⟩) => match posOf b d with | some i => .pointer (some ⟨i, o, none⟩) | none => top
  | .slice none 0 0 => .slice none 0 0
  | .slice (some ⟨b, o, none⟩) n c => match posOf b d with | some i => .slice (some ⟨i, o, none⟩) n c | none => top
  | .map none => .map none
  | .map (some b) => match posOf b d with | some i => .map (some i) | none => top
  | .nilFunc => .nilFunc
  | .func fn ⟨[]⟩ ⟨[]⟩ => .func fn ⟨[]⟩ ⟨[]⟩
  | .nilIface => .nilIface
  | _ => top
def renV (d : List Nat) : Value → Value
  | .agg xs => .agg ⟨xs.toList.map (renV0 d)⟩
  | .tuple xs => .tuple ⟨xs.toList.map (renV0 d)⟩
  | .iface t x => .iface t (renV0 d x)
  | x => renV0 d x
def renR (d : List Nat) (ρ : Ren) : Ren := fun i => (d[i]?).bind ρ

theorem renR_pos {d : List Nat} {ρ : Ren} {b i : Nat} (h : posOf b d = some i) : renR d ρ i = ρ b := by
  unfold renR; rw [posOf_get h]; rfl

theorem renV0_ok {d : List Nat} {ρ : Ren} {x C : Value} (h : VRel ρ x C) : VRel (renR d ρ) (renV0 d x) C := by
  unfold renV0
  split
  · rw [h.bool_inv]; exact .bool _
  · cases h; exact .int _ _
  · cases h; exact .string _
  · cases h; exact .nilp
  · split
    · rename_i hp; cases h; rename_i l hl; exact .ptr _ _ l (by rw [renR_pos hp]; exact hl)
    · exact .top _
  · cases h; exact .nils
  · split
    · rename_i hp; cases h with | slice _ _ _ _ l C A hl hn hc hN hA => exact .slice _ _ _ _ l C A (by rw [renR_pos hp]; exact hl) hn hc hN hA
    · exact .top _
  · cases h; exact .nilm
  · split
    · rename_i hp; cases h; rename_i l hl; exact .map _ l (by rw [renR_pos hp]; exact hl)
    · exact .top _
  · cases h; exact .nilf
  · cases h with
    | func fn fs gs cs ds hf hc h1 h2 =>
      exact .func _ _ _ _ _ hf hc (fun i x y hx => by simp at hx) (fun i x y hx => by simp at hx)
  · cases h; exact .nili
  · exact .top _
theorem LRel.ren {d : List Nat} {ρ : Ren} {f : Value → Value} (hf : ∀ x C, VRel ρ x C → VRel (renR d ρ) (f x) C) {xs ys : List Value} (h : LRel ρ xs ys) : LRel (renR d ρ) (xs.map f) ys := by
  refine ⟨by rw [List.length_map]; exact h.1, fun i x y hx hy => ?_⟩
  rw [List.getElem?_map] at hx
  cases hi : xs[i]? with
  | none => rw [hi] at hx; cases hx
  | some u =>
    rw [hi] at hx
    injection hx with hx
    subst hx
    exact hf _ _ (h.2 i u y hi hy)
theorem renV_ok {d : List Nat} {ρ : Ren} {x C : Value} (h : VRel ρ x C) : VRel (renR d ρ) (renV d x) C := by
  unfold renV
  split
  · obtain ⟨ys, rfl, h1⟩ := h.agg_inv
    exact .agg' (h1.ren fun _ _ => renV0_ok)
  · obtain ⟨ys, rfl, h1⟩ := h.tuple_inv
    exact .tuple' (h1.ren fun _ _ => renV0_ok)
  · cases h; rename_i y hy; exact .iface _ _ _ (renV0_ok hy)
  · exact renV0_ok h

def renO (d : List Nat) : AObj → AObj
  | .cells cs t st anc => .cells (cs.map (renV d)) t st (anc.filterMap fun b => posOf b d)
  | .map es bs st => .map (es.map fun e => (renV d e.1, renV d e.2)) bs st
  | .siter s p => .siter s p
  | .miter none a b c => .miter none a b c
  | .miter (some none) a b c => .miter (some none) a b c
  | .miter (some (some m)) a b c => .miter ((posOf m d).map some) a b c
  | .dead => .dead
def agcGo (d : List Nat) (H : AHeap) : List Nat → AHeap → AHeap
  | [], A => A
  | b :: l, A => agcGo d H l (A.push (match H.get b with | some o => renO d o | none => .dead))
def agc (d : List Nat) (H : AHeap) : AHeap := agcGo d H d AHeap.empty

theorem agcGo_get (d : List Nat) (H : AHeap) : ∀ (l : List Nat) (A : AHeap) (i : Nat), (agcGo d H l A).get i =
    if i < A.size then A.get i else match l[i - A.size]? with | some b => some (match H.get b with | some o => renO d o | none => .dead) | none => A.get i := by
  intro l
  induction l with
  | nil => intro A i; simp [agcGo]
  | cons b l ih =>
    intro A i
    rw [agcGo, ih]
    have hs : (A.push (match H.get b with | some o => renO d o | none => .dead)).size = A.size + 1 := rfl
    rw [hs, AHeap.get_push]
    by_cases h1 : i < A.size
    · rw [if_pos (by omega), if_pos h1, if_neg (by omega)]
    · rw [if_neg h1]
      by_cases h2 : i = A.size
      · subst h2; simp
      · rw [if_neg (by omega), if_neg h2]
        obtain ⟨k, hk⟩ : ∃ k, i - A.size = k + 1 := ⟨i - A.size - 1, by omega⟩
        rw [hk, show i - (A.size + 1) = k by omega]
        simp
theorem empty_get (i : Nat) : AHeap.empty.get i = none := by
  show Tr.get Tr.nil i = none
  simp [Tr.get]
theorem agc_get (d : List Nat) (H : AHeap) (i : Nat) : (agc d H).get i = match d[i]? with | some b => some (match H.get b with | some o => renO d o | none => .dead) | none => none := by
  unfold agc
  rw [agcGo_get]
  have : AHeap.empty.size = 0 := rfl
  rw [this, if_neg (by omega), Nat.sub_zero, empty_get]
theorem agcGo_size (d : List Nat) (H : AHeap) : ∀ (l : List Nat) (A : AHeap), (agcGo d H l A).size = A.size + l.length := by
  intro l
  induction l with
  | nil => intro A; rfl
  | cons b l ih => intro A; rw [agcGo, ih]; show A.size + 1 + _ = _; simp; omega
theorem agc_size (d : List Nat) (H : AHeap) : (agc d H).size = d.length := by
  unfold agc; rw [agcGo_size]; show 0 + _ = _; omega

theorem renO_owns {d : List Nat} {o : AObj} : (renO d o).owns = o.owns.map fun anc => anc.filterMap fun b => posOf b d := by
  cases o with
  | cells cs t st anc => cases st <;> rfl
  | map es bs st => cases st <;> rfl
  | siter s p => rfl
  | miter m a b c => rcases m with _ | _ | m <;> rfl
  | dead => rfl
theorem renO_len {d : List Nat} {o : AObj} : (renO d o).len = o.len := by
  cases o with
  | miter m a b c => rcases m with _ | _ | m <;> rfl
  | _ => simp [renO, AObj.len]
theorem renO_alive {d : List Nat} {o : AObj} : (renO d o).alive = o.alive := by
  cases o with
  | miter m a b c => rcases m with _ | _ | m <;> rfl
  | _ => rfl
theorem renO_ok {d : List Nat} {ρ : Ren} {w : World} {l : Loc} {o : AObj} (h : ORel ρ w l o) : ORel (renR d ρ) w l (renO d o) := by
  cases o with
  | cells cs t st anc =>
    obtain ⟨CS, el, fr, h1, h2, h3, h4, h5⟩ := h
    refine ⟨CS, el, fr, h1, h2, h3, fun i v hv => ?_, h5⟩
    rw [List.getElem?_map] at hv
    cases hi : cs[i]? with
    | none => rw [hi] at hv; cases hv
    | some u =>
      rw [hi] at hv
      injection hv with hv
      subst hv
      obtain ⟨V, k1, k2, k3⟩ := h4 i u hi
      exact ⟨V, k1, k2, renV_ok k3⟩
  | map es bs st =>
    obtain ⟨ES, h1, h2, h3, h4⟩ := h
    refine ⟨ES, h1, ?_, ?_, h4⟩
    · have := h2.ren (d := d) (f := renV d) fun _ _ => renV_ok
      simpa [renO, List.map_map, Function.comp_def] using this
    · have := h3.ren (d := d) (f := renV d) fun _ _ => renV_ok
      simpa [renO, List.map_map, Function.comp_def] using this
  | siter s p => exact h
  | miter m a b c =>
    obtain ⟨h0, M, h1, h2⟩ := h
    rcases m with _ | _ | m
    · exact ⟨h0, M, h1, trivial⟩
    · exact ⟨h0, M, h1, h2⟩
    · obtain ⟨k, h3, h4⟩ := h2
      refine ⟨h0, M, h1, ?_⟩
      cases hp : posOf m d with
      | none => trivial
      | some i => exact ⟨k, by rw [renR_pos hp]; exact h3, h4⟩
  | dead => trivial

theorem posOf_inj {d : List Nat} (hd : d.Nodup) {i b : Nat} (h : d[i]? = some b) : posOf b d = some i := by
  induction d generalizing i with
  | nil => cases h
  | cons c d ih =>
    rw [List.nodup_cons] at hd
    cases i with
    | zero => simp at h; simp [posOf, h]
    | succ i =>
      simp at h
      have : c ≠ b := by
        rintro rfl
        exact hd.1 (List.mem_of_getElem? h)
      simp [posOf, this, ih hd.2 h]

theorem agc_rel {d : List Nat} (hd : d.Nodup) {ρ : Ren} {H : AHeap} {w : World} (h : Rel ρ H w) : Rel (renR d ρ) (agc d H) w := by
  have key : ∀ i l o, renR d ρ i = some l → (agc d H).get i = some o → ∃ b, d[i]? = some b ∧ ρ b = some l ∧ ((∃ o', H.get b = some o' ∧ o = renO d o') ∨ (H.get b = none ∧ o = .dead)) := by
    intro i l o hl ho
    rw [agc_get] at ho
    unfold renR at hl
    cases hi : d[i]? with
    | none => rw [hi] at hl; cases hl
    | some b =>
      rw [hi] at hl ho
      refine ⟨b, rfl, hl, ?_⟩
      simp only [Option.some.injEq] at ho
      cases hb : H.get b with
      | none => rw [hb] at ho; exact .inr ⟨rfl, ho.symm⟩
      | some o' => rw [hb] at ho; exact .inl ⟨o', rfl, ho.symm⟩
  refine ⟨fun i l hl => ?_, fun i l o hl ho => ?_, fun i l o anc i' l' o' hl ho hown hl' ho' hal hne hB => ?_⟩
  · unfold renR at hl
    cases hi : d[i]? with
    | none => rw [hi] at hl; cases hl
    | some b =>
      rw [hi] at hl
      rw [agc_size]
      exact ⟨(List.getElem?_eq_some_iff.1 hi).1, (h.bd b l hl).2⟩
  · obtain ⟨b, hi, hb, ⟨o', h1, rfl⟩ | ⟨h1, rfl⟩⟩ := key i l o hl ho
    · exact renO_ok (h.obj b l o' hb h1)
    · trivial
  · obtain ⟨b, hi, hb, ⟨u, h1, rfl⟩ | ⟨h1, rfl⟩⟩ := key i l o hl ho
    · obtain ⟨b', hi', hb', ⟨u', h1', rfl⟩ | ⟨h1', rfl⟩⟩ := key i' l' o' hl' ho'
      · rw [renO_owns] at hown
        cases ha : u.owns with
        | none => rw [ha] at hown; cases hown
        | some anc0 =>
          rw [ha] at hown
          injection hown with hown
          subst hown
          rw [renO_alive] at hal
          have hbb : b' ≠ b := by
            rintro rfl
            have e1 := posOf_inj hd hi
            have e2 := posOf_inj hd hi'
            rw [e1] at e2
            injection e2 with e2
            exact hne e2.symm
          obtain ⟨k1, k2, k3⟩ := h.excl b l u anc0 b' l' u' hb h1 ha hb' h1' hal hbb hB
          refine ⟨List.mem_filterMap.2 ⟨b', k1, posOf_inj hd hi'⟩, by rw [renO_owns, k2]; rfl, by rw [renO_len, renO_len]; exact k3⟩
      · cases hal
    · cases hown
theorem agc_own {d : List Nat} {ρ : Ren} {H : AHeap} {B : Nat} (h : Own (renR d ρ) (agc d H) B) : Own ρ H B := by
  obtain ⟨i, l, o, hl, hB, ho, hown⟩ := h
  rw [agc_get] at ho
  unfold renR at hl
  cases hi : d[i]? with
  | none => rw [hi] at hl; cases hl
  | some b =>
    rw [hi] at hl ho
    simp only [Option.some.injEq] at ho
    cases hb : H.get b with
    | none => rw [hb] at ho; subst ho; cases hown
    | some u =>
      rw [hb] at ho
      subst ho
      refine ⟨b, l, u, hl, hB, hb, ?_⟩
      rw [renO_owns] at hown
      cases hu : u.owns with
      | none => rw [hu] at hown; cases hown
      | some a => rfl

/-- The variables that are still needed. -/
def maskT : List Bool → List Value → List Value
  | true :: m, v :: vs => v :: maskT m vs
  | _ :: m, _ :: vs => top :: maskT m vs
  | [], vs => vs.map fun _ => top
  | _, [] => []
theorem maskT_ok {ρ : Ren} : ∀ (m : List Bool) {xs ys : List Value}, LRel ρ xs ys → LRel ρ (maskT m xs) ys := by
  intro m
  induction m with
  | nil =>
    intro xs ys h
    cases xs with
    | nil => exact h
    | cons x xs =>
      refine ⟨by simp [maskT]; have := h.1; simp at this; omega, fun i u y hu hy => ?_⟩
      simp only [maskT, List.getElem?_map] at hu
      cases hi : (x :: xs)[i]? with
      | none => rw [hi] at hu; cases hu
      | some z => rw [hi] at hu; injection hu with hu; subst hu; exact .top _
  | cons b m ih =>
    intro xs ys h
    cases xs with
    | nil => cases b <;> exact h
    | cons x xs =>
      obtain ⟨y, t, rfl, h1, h2⟩ := h.cons_left
      cases b
      · exact .cons (.top _) (ih h2)
      · exact .cons h1 (ih h2)

/-! ### Abstract states at a place -/
abbrev SPred := List Value → AHeap → Prop
def Sat (w0 : World) (S : SPred) (a : Act) (w : World) : Prop :=
  ∃ tm H ρ, S tm H ∧ Rel ρ H w ∧ LRel ρ tm a.tmps.toList ∧ a.defers = [] ∧ Below w0.heap.size w0 w ∧ ∀ B, Own ρ H B → w0.heap.size ≤ B

theorem Sat.imp {w0 : World} {S S' : SPred} (h : ∀ tm H, S tm H → S' tm H) {a : Act} {w : World} (k : Sat w0 S a w) : Sat w0 S' a w := by
  obtain ⟨tm, H, ρ, h1, h2⟩ := k
  exact ⟨tm, H, ρ, h _ _ h1, h2⟩
/-- Only so much is kept. -/
theorem Sat.gc {w0 : World} {S S' : SPred} (h : ∀ tm H, S tm H → ∃ d m, d.Nodup ∧ S' (maskT m (tm.map (renV d))) (agc d H)) {a : Act} {w : World} (k : Sat w0 S a w) : Sat w0 S' a w := by
  obtain ⟨tm, H, ρ, h1, h2, h3, h4, h5, h6⟩ := k
  obtain ⟨d, m, hd, hs⟩ := h _ _ h1
  exact ⟨_, _, renR d ρ, hs, agc_rel hd h2, maskT_ok m (h3.ren fun _ _ => renV_ok), h4, h5, fun B hB => h6 B (agc_own hB)⟩

/-- From these states the code comes to those. -/
def Tri (P : Program) (w0 : World) (c : Code) (S : SPred) (Q : AX → SPred) : Prop :=
  ∀ a w, Sat w0 S a w → c.wp P (fun e a' w' => ∃ x : AX, e = x.to ∧ Sat w0 (Q x) a' w') a w

theorem Tri.pre {P : Program} {w0 : World} {c : Code} {S S' : SPred} {Q : AX → SPred} (h : ∀ tm H, S' tm H → S tm H) (k : Tri P w0 c S Q) : Tri P w0 c S' Q :=
  fun a w hs => k a w (hs.imp h)
theorem Tri.gc {P : Program} {w0 : World} {c : Code} {S S' : SPred} {Q : AX → SPred} (h : ∀ tm H, S' tm H → ∃ d m, d.Nodup ∧ S (maskT m (tm.map (renV d))) (agc d H)) (k : Tri P w0 c S Q) : Tri P w0 c S' Q :=
  fun a w hs => k a w (hs.gc h)
theorem Tri.post {P : Program} {w0 : World} {c : Code} {S : SPred} {Q Q' : AX → SPred} (k : Tri P w0 c S Q) (h : ∀ x tm H, Q x tm H → Q' x tm H) : Tri P w0 c S Q' :=
  fun a w hs => wp_mono (k a w hs) (by rintro e a' w' ⟨x, rfl, h1⟩; exact ⟨x, rfl, h1.imp (h x)⟩)
theorem Tri.postgc {P : Program} {w0 : World} {c : Code} {S : SPred} {Q Q' : AX → SPred} (k : Tri P w0 c S Q) (h : ∀ x tm H, Q x tm H → ∃ d m, d.Nodup ∧ Q' x (maskT m (tm.map (renV d))) (agc d H)) : Tri P w0 c S Q' :=
  fun a w hs => wp_mono (k a w hs) (by rintro e a' w' ⟨x, rfl, h1⟩; exact ⟨x, rfl, h1.gc (h x)⟩)

theorem Step.sat {ρ ρ' : Ren} {H H' : AHeap} {w0 w w' : World} (k : Step ρ H w ρ' H' w') (hb : Below w0.heap.size w0 w) (ho : ∀ B, Own ρ H B → w0.heap.size ≤ B) :
    Below w0.heap.size w0 w' ∧ ∀ B, Own ρ' H' B → w0.heap.size ≤ B := by
  refine ⟨hb.trans ⟨k.os, k.tape, k.output, k.size, fun i hi => k.same i (Nat.lt_of_lt_of_le hi hb.size) fun hn => ?_⟩, fun B hB => ?_⟩
  · have := ho i hn; omega
  · by_cases hlt : B < w.heap.size
    · exact ho B (k.own B hlt hB)
    · have := hb.size; omega

theorem Tri.code {E : Env} (hT : E.TOk) (hF : E.FOk E.ok) (hS : E.SOk) (hm : E.P.follows .mixedOrders = true) (hint : FuncId → Tmp → Option Hint) {f : FuncId} {k n : Nat} {c : Code} (hok : allDraw (E.ok f) c = true)
    {w0 : World} {S : SPred} {Q : AX → SPred} (h : ∀ tm H, S tm H → codeK E (hint f) (evalK E hint k) (drawK E hint (evalK E hint k) f) n c tm H Q) : Tri E.P w0 c S Q := by
  intro a w hs
  obtain ⟨tm, H, ρ, h1, h2, h3, h4, h5, h6⟩ := hs
  obtain ⟨x, tm', H', e1, hq⟩ := codeK_ok (evalK_ok E hint k) (drawK_ok (evalK_ok E hint k) f) n c tm H _ (h _ _ h1)
  refine wp_mono (acode_wp hT (run_ok hT hF hS hm k) (adraw_ok hT hm _ (run_ok hT hF hS hm k) f) n c hok tm H x tm' H' e1 ρ w a h2 h3 h4) ?_
  rintro e a' w' ⟨ρ', rfl, k1, k2, k3, k4⟩
  obtain ⟨k5, k6⟩ := k2.sat h5 h6
  exact ⟨x, rfl, tm', H', ρ', hq, k1, k3, k4, k5, k6⟩

theorem Tri.seq {P : Program} {w0 : World} {p q : Code} {S R : SPred} {Q : AX → SPred} (h1 : Tri P w0 p S fun x => match x with | .normal => R | x => Q x) (h2 : Tri P w0 q R Q) : Tri P w0 (.seq p q) S Q := by
  intro a w hs
  refine wp_seq (wp_mono (h1 a w hs) ?_)
  rintro e a' w' ⟨x, rfl, h⟩
  cases x with
  | normal => exact h2 a' w' h
  | exit i => exact ⟨.exit i, rfl, h⟩
  | ret => exact ⟨.ret, rfl, h⟩
theorem Tri.block {P : Program} {w0 : World} {c : Code} {id : Nat} {S : SPred} {Q : AX → SPred} (h : Tri P w0 c S fun x => match x with | .exit i => if i = id then Q .normal else Q (.exit i) | x => Q x) : Tri P w0 (.block id c) S Q := by
  intro a w hs
  refine wp_block (wp_mono (h a w hs) ?_)
  rintro e a' w' ⟨x, rfl, h⟩
  cases x with
  | normal => exact ⟨.normal, rfl, h⟩
  | exit i =>
    show (if i = id then _ else _)
    simp only at h
    split at h
    · rename_i hi; rw [if_pos hi]; exact ⟨.normal, rfl, h⟩
    · rename_i hi; rw [if_neg hi]; exact ⟨.exit i, rfl, h⟩
  | ret => exact ⟨.ret, rfl, h⟩
theorem Tri.scope {P : Program} {w0 : World} {c : Code} {S : SPred} {Q : AX → SPred} (h : Tri P w0 c S Q) : Tri P w0 (.scope c) S Q := by
  intro a w hs
  refine wp_scope_straight (wp_mono (h a w hs) ?_)
  rintro e a' w' ⟨x, rfl, h⟩
  cases x <;> exact ⟨_, rfl, h⟩
/-- A loop, by a measure. -/
theorem Tri.loop {P : Program} {w0 : World} {c : Code} {Inv : Nat → SPred} {Q : AX → SPred}
    (h : ∀ m, Tri P w0 c (Inv m) fun x => match x with | .normal => fun tm H => ∃ m', m' < m ∧ Inv m' tm H | x => Q x) (m : Nat) : Tri P w0 (.loop c) (Inv m) Q := by
  intro a w hs
  refine wp_loop_rounds (m + 1) ?_
  have key : ∀ n m, m < n → ∀ a w, Sat w0 (Inv m) a w → Code.rounds P c (fun e a' w' => ∃ x : AX, e = x.to ∧ Sat w0 (Q x) a' w') n a w := by
    intro n
    induction n with
    | zero => intro m hm; omega
    | succ n ih =>
      intro m hm a w hs
      rw [rounds_succ]
      refine wp_mono (h m a w hs) ?_
      rintro e a' w' ⟨x, rfl, hx⟩
      cases x with
      | normal =>
        obtain ⟨tm, H, ρ, ⟨m', hm', hi⟩, hr⟩ := hx
        exact ih m' (by omega) a' w' ⟨tm, H, ρ, hi, hr⟩
      | exit i => exact ⟨.exit i, rfl, hx⟩
      | ret => exact ⟨.ret, rfl, hx⟩
  exact key (m + 1) m (Nat.lt_succ_self m) a w hs

/-- The law, of its walk. -/
theorem law_tri {E : Env} (hT : E.TOk) {f : FuncId} {F : Func} {c : Code} (h1 : E.P.funcs[f]? = some F) (h2 : F.body = some c) {args : List Value} {H : AHeap} {ρ : Ren} {w : World} {cargs : Array Value}
    (hR : Rel ρ H w) (hno : ∀ B, ¬ Own ρ H B) (ha : LRel ρ args cargs.toList)
    (h : Tri E.P w c (fun tm H' => tm = args ++ List.replicate (F.ntmps - args.length) undef ∧ H' = H) fun x tm H' => (x = .normal ∨ x = .ret) ∧ aresult E tm H' F.results.toList = some [.bool true]) :
    Calls E.P f cargs w fun e w' => e = .returned (.bool true) ∧ Below w.heap.size w w' := by
  have hlen : args.length = cargs.size := by have := ha.1; simpa using this
  refine calls_of_wp h1 h2 (wp_mono (h { tmps := cargs ++ Array.replicate (F.ntmps - cargs.size) undef, defers := [] } w
    ⟨_, _, ρ, ⟨rfl, rfl⟩, hR, ?_, rfl, .refl _ _, fun B hB => absurd hB (hno B)⟩) ?_)
  · rw [Array.toList_append, Array.toList_replicate, ← hlen]
    exact ha.append (.replicate _ (undef_rel ρ))
  · rintro e a' w' ⟨x, rfl, tm, H', ρ', ⟨hx, hr⟩, k1, k2, k3, k4, k5⟩
    have hres : ∃ Vs : List Value, LRel ρ' [.bool true] Vs ∧ (results F a'.tmps).run E.P w' = .ok (if h : Vs.toArray.size = 1 then Vs.toArray[0] else .tuple Vs.toArray) w' := by
      unfold results
      rw [Sem.run_bind, Array.mapM_eq_mapM_toList, Sem.run_map]
      obtain ⟨Vs, r1, r2⟩ := aresult_ok hT k1 k2 (g := fun r => match r with | .tmp t => pure (a'.tmps.getD t undef) | .cell a t => do loadVar t (← asAddr (a'.tmps.getD a undef)))
        (fun _ => rfl) (fun _ _ => rfl) _ _ hr
      exact ⟨Vs, r1, (congrArg (fun (q : Result (List Value)) => (q.andThen fun a w' => Result.ok a.toArray w').andThen
        fun a w' => Sem.run E.P (pure (if h : a.size = 1 then a[0] else .tuple a)) w') r2).trans rfl⟩
    obtain ⟨Vs, r1, hres⟩ := hres
    obtain ⟨V, T, rfl, r3, r4⟩ := r1.cons_left
    obtain rfl := r4.nil_left
    have hV : V = .bool true := r3.bool_inv
    subst hV
    rcases hx with rfl | rfl <;> exact ⟨k3, _, hres, rfl, k4⟩
end Go.Ev
