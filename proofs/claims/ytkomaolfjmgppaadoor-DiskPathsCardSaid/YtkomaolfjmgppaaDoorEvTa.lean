/- A walk that is cut at places, at loops and where ways join: what is to be shown there, and that this is enough. -/
import Derived.Test.YtkomaolfjmgppaaDoorEvSf
namespace Go.Ev
open Go RowKit
set_option linter.unusedVariables false
set_option linter.unusedSectionVars false
set_option linter.unusedSimpArgs false

/-- What is kept at a place: variables, and the blocks that these lead to. -/
structure Shape where
  id : Nat
  idx : List Nat
  roots : List (Nat × List Nat)
  all : Bool := false
abbrev Cuts := List (List Bool × List Shape)
abbrev RFun := Nat → Option Nat → List Nat → List Value → AHeap → Prop
abbrev KF := AX → List Value → AHeap → Prop

def idV : Value → Option Nat
  | .pointer (some ⟨b, _, none⟩) => some b
  | .slice (some ⟨b, _, none⟩) _ _ => some b
  | .map (some b) => some b
  | .iface _ (.pointer (some ⟨b, _, none⟩)) => some b
  | _ => none
def cellV (H : AHeap) (b o : Nat) : Option Value :=
  match H.get b with
  | some (.cells cs _ _ _) => cs[o]?
  | _ => none
def rootV (H : AHeap) : List Nat → Value → Option Nat
  | [], v => idV v
  | o :: l, .agg cs => (match cs.toList[o]? with | some v' => rootV H l v' | none => none)
  | o :: l, v => match idV v with | some b => (match cellV H b o with | some v' => rootV H l v' | none => none) | none => none
def rootsOf (tm : List Value) (H : AHeap) : List (Nat × List Nat) → Option (List Nat)
  | [] => some []
  | (t, p) :: l => match rootV H p (tm.getD t undef) with | some b => (match rootsOf tm H l with | some r => some (b :: r) | none => none) | none => none
def memB (b : Nat) : List Nat → Bool
  | [] => false
  | c :: l => match Nat.beq b c with | true => true | false => memB b l
def nodupB : List Nat → Bool
  | [] => true
  | b :: l => match memB b l with | true => false | false => nodupB l
theorem memB_iff {b : Nat} : ∀ {l : List Nat}, memB b l = false → b ∉ l := by
  intro l
  induction l with
  | nil => intro _ h; cases h
  | cons c l ih =>
    intro h hm
    unfold memB at h
    split at h
    · cases h
    · rename_i hc
      rcases List.mem_cons.1 hm with rfl | hm
      · rw [Nat.beq_refl] at hc; cases hc
      · exact ih h hm
theorem nodupB_ok : ∀ {l : List Nat}, nodupB l = true → l.Nodup := by
  intro l
  induction l with
  | nil => intro _; exact List.nodup_nil
  | cons b l ih =>
    intro h
    unfold nodupB at h
    split at h
    · cases h
    · rename_i hb; exact List.nodup_cons.2 ⟨memB_iff hb, ih h⟩
def fitS (n0 : Nat) (roots : List (Nat × List Nat)) (tm : List Value) (H : AHeap) : Option (List Nat) :=
  match rootsOf tm H roots with
  | some l => (match nodupB (List.range n0 ++ l) with | true => some (List.range n0 ++ l) | false => none)
  | none => none
theorem fitS_ok {n0 : Nat} {roots : List (Nat × List Nat)} {tm : List Value} {H : AHeap} {d : List Nat} (h : fitS n0 roots tm H = some d) : d.Nodup ∧ (∀ b, b < n0 → d[b]? = some b) ∧ n0 ≤ d.length := by
  unfold fitS at h
  split at h
  · rename_i l hl
    split at h
    · rename_i hn
      injection h with h
      subst h
      refine ⟨nodupB_ok hn, fun b hb => ?_, by simp⟩
      rw [List.getElem?_append_left (by simpa using hb), List.getElem?_range hb]
    · cases h
  · cases h
def arrive (n0 N : Nat) (R : RFun) (bd : Option Nat) (μs : List Nat) : List Shape → List Value → AHeap → Prop
  | [], _, _ => False
  | s :: ss, tm, H =>
    match Nat.beq tm.length N with
    | false => False
    | true =>
      match s.all with
      | true => R s.id bd μs (pickT s.idx tm) H
      | false =>
        match fitS n0 s.roots tm H with
        | some d => R s.id bd μs ((pickT s.idx tm).map (renV d)) (agc d H)
        | none => arrive n0 N R bd μs ss tm H
def eqP : List Bool → List Bool → Bool
  | [], [] => true
  | true :: l, true :: r => eqP l r
  | false :: l, false :: r => eqP l r
  | _, _ => false
theorem eqP_ok : ∀ {l r : List Bool}, eqP l r = true → l = r := by
  intro l
  induction l with
  | nil => intro r h; cases r <;> simp [eqP] at h ⊢
  | cons b l ih => intro r h; cases b <;> cases r with
    | nil => simp [eqP] at h
    | cons c r => cases c <;> simp [eqP] at h ⊢ <;> exact ih h
def lookP (p : List Bool) : Cuts → Option (List Shape)
  | [] => none
  | (q, ss) :: l => match eqP p q with | true => some ss | false => lookP p l
theorem lookP_mem {p : List Bool} {ss : List Shape} : ∀ {l : Cuts}, lookP p l = some ss → (p, ss) ∈ l := by
  intro l
  induction l with
  | nil => intro h; cases h
  | cons x l ih =>
    obtain ⟨q, tt⟩ := x
    intro h
    unfold lookP at h
    split at h
    · rename_i e
      injection h with h
      subst h
      rw [eqP_ok e]
      exact List.mem_cons_self ..
    · exact List.mem_cons_of_mem _ (ih h)

section
variable (E : Env) (hint : Tmp → Option Hint) (call : KCaller) (draw : Nat → Array Oper → List Value → AHeap → (List Value → AHeap → Prop) → Prop) (n n0 N : Nat) (cuts : Cuts) (R : RFun)

def codeA : List Bool → List Nat → Code → List Value → AHeap → KF → Prop
  | π, μs, .seq a b, tm, H, K => codeA (false :: π) μs a tm H fun x tm' H' =>
    match x with
    | .normal => (match lookP π.reverse cuts with | some ss => arrive n0 N R none μs ss tm' H' | none => codeA (true :: π) μs b tm' H' K)
    | x => K x tm' H'
  | π, μs, .cond c a b, tm, H, K =>
    match aev tm c with
    | .bool t => (match t with | true => codeA (false :: π) μs a tm H K | false => codeA (true :: π) μs b tm H K)
    | _ => False
  | π, μs, .block id c, tm, H, K => codeA (false :: π) μs c tm H fun x tm' H' => match x with | .exit i => if i = id then K .normal tm' H' else K (.exit i) tm' H' | x => K x tm' H'
  | π, μs, .scope c, tm, H, K => codeA (false :: π) μs c tm H K
  | π, μs, .loop c, tm, H, K => match lookP π.reverse cuts with | some ss => arrive n0 N R none μs ss tm H | none => codeK E hint call draw n (.loop c) tm H K
  | _, _, c, tm, H, K => codeK E hint call draw n c tm H K

/-- What is behind a loop's body. -/
def backK (π : List Bool) (acc : List Nat) (m : Nat) (K : KF) : KF := fun x tm H =>
  match x with
  | .normal => (match lookP π.reverse cuts with | some ss => arrive n0 N R (some m) acc ss tm H | none => False)
  | x => K x tm H
/-- What is behind the first part of a row. -/
def seqK (π : List Bool) (acc : List Nat) (b : Code) (K : KF) : KF := fun x tm H =>
  match x with
  | .normal => (match lookP π.reverse cuts with | some ss => arrive n0 N R none acc ss tm H | none => codeA E hint call draw n n0 N cuts R (true :: π) acc b tm H K)
  | x => K x tm H
def blockK (id : Nat) (K : KF) : KF := fun x tm H => match x with | .exit i => if i = id then K .normal tm H else K (.exit i) tm H | x => K x tm H

/-- From a cut on: to the next ones, or to the end. -/
def segK : List Bool → List Bool → List Nat → List Nat → Code → Nat → List Nat → List Value → AHeap → KF → Prop
  | false :: l, π, acc, ms, .seq a b, m, idx, vs, H, K => segK l (false :: π) acc ms a m idx vs H (seqK E hint call draw n n0 N cuts R π acc b K)
  | true :: l, π, acc, ms, .seq a b, m, idx, vs, H, K => segK l (true :: π) acc ms b m idx vs H K
  | false :: l, π, acc, ms, .cond _ a _, m, idx, vs, H, K => segK l (false :: π) acc ms a m idx vs H K
  | true :: l, π, acc, ms, .cond _ _ b, m, idx, vs, H, K => segK l (true :: π) acc ms b m idx vs H K
  | false :: l, π, acc, ms, .block id c, m, idx, vs, H, K => segK l (false :: π) acc ms c m idx vs H (blockK id K)
  | false :: l, π, acc, ms, .scope c, m, idx, vs, H, K => segK l (false :: π) acc ms c m idx vs H K
  | false :: l, π, acc, ms, .loop c, m, idx, vs, H, K =>
    match ms with
    | [] => False
    | m0 :: ms => segK l (false :: π) (acc ++ [m0]) ms c m idx vs H (backK n0 N cuts R π acc m0 K)
  | [], π, acc, ms, .loop c, m, idx, vs, H, K => codeA E hint call draw n n0 N cuts R (false :: π) (acc ++ [m]) c (fillT N idx vs) H (backK n0 N cuts R π acc m K)
  | [], π, acc, ms, .seq a b, m, idx, vs, H, K => codeA E hint call draw n n0 N cuts R (true :: π) acc b (fillT N idx vs) H K
  | _, _, _, _, _, _, _, _, _, _ => False
def loopsOn : List Bool → Code → Nat
  | false :: l, .seq a b => loopsOn l a
  | true :: l, .seq a b => loopsOn l b
  | false :: l, .cond _ a _ => loopsOn l a
  | true :: l, .cond _ _ b => loopsOn l b
  | false :: l, .block id c => loopsOn l c
  | false :: l, .scope c => loopsOn l c
  | false :: l, .loop c => loopsOn l c + 1
  | _, _ => 0

variable (I : Nat → List Nat → Nat → List Value → AHeap → Prop)
def segs : List Bool → List Nat → Code → KF → Prop
  | π, acc, .seq a b, K => segs (false :: π) acc a (seqK E hint call draw n n0 N cuts R π acc b K) ∧ segs (true :: π) acc b K ∧
    (∀ ss, lookP π.reverse cuts = some ss → ∀ s ∈ ss, ∀ m vs H, I s.id acc m vs H → codeA E hint call draw n n0 N cuts R (true :: π) acc b (fillT N s.idx vs) H K)
  | π, acc, .cond c a b, K => segs (false :: π) acc a K ∧ segs (true :: π) acc b K
  | π, acc, .block id c, K => segs (false :: π) acc c (blockK id K)
  | π, acc, .scope c, K => segs (false :: π) acc c K
  | π, acc, .loop c, K => ∀ ss, lookP π.reverse cuts = some ss → ∀ m, segs (false :: π) (acc ++ [m]) c (backK n0 N cuts R π acc m K) ∧
    ∀ s ∈ ss, ∀ vs H, I s.id acc m vs H → codeA E hint call draw n n0 N cuts R (false :: π) (acc ++ [m]) c (fillT N s.idx vs) H (backK n0 N cuts R π acc m K)
  | _, _, _, _ => True

theorem segs_of : ∀ (c : Code) (π : List Bool) (acc : List Nat) (K : KF),
    (∀ q ss, lookP (π.reverse ++ q) cuts = some ss → ∀ s ∈ ss, ∀ ms : List Nat, ms.length = loopsOn q c → ∀ m vs H, I s.id (acc ++ ms) m vs H → segK E hint call draw n n0 N cuts R q π acc ms c m s.idx vs H K) →
    segs E hint call draw n n0 N cuts R I π acc c K := by
  intro c
  induction c with
  | seq a b iha ihb =>
    intro π acc K h
    refine ⟨iha _ _ _ fun q ss hl s hs ms hm m vs H hi => ?_, ihb _ _ _ fun q ss hl s hs ms hm m vs H hi => ?_, fun ss hl s hs m vs H hi => ?_⟩
    · exact h (false :: q) ss (by rw [← hl]; simp) s hs ms hm m vs H hi
    · exact h (true :: q) ss (by rw [← hl]; simp) s hs ms hm m vs H hi
    · exact h [] ss (by rw [← hl]; simp) s hs [] rfl m vs H (by simpa using hi)
  | cond c a b iha ihb =>
    intro π acc K h
    exact ⟨iha _ _ _ fun q ss hl s hs ms hm m vs H hi => h (false :: q) ss (by rw [← hl]; simp) s hs ms hm m vs H hi,
      ihb _ _ _ fun q ss hl s hs ms hm m vs H hi => h (true :: q) ss (by rw [← hl]; simp) s hs ms hm m vs H hi⟩
  | block id c ih =>
    intro π acc K h
    exact ih _ _ _ fun q ss hl s hs ms hm m vs H hi => h (false :: q) ss (by rw [← hl]; simp) s hs ms hm m vs H hi
  | scope c ih =>
    intro π acc K h
    exact ih _ _ _ fun q ss hl s hs ms hm m vs H hi => h (false :: q) ss (by rw [← hl]; simp) s hs ms hm m vs H hi
  | loop c ih =>
    intro π acc K h ss hl m
    refine ⟨ih _ _ _ fun q ss' hl' s hs ms hm m' vs H hi => ?_, fun s hs vs H hi => ?_⟩
    · exact h (false :: q) ss' (by rw [← hl']; simp) s hs (m :: ms) (by simp [loopsOn, hm]) m' vs H (by simpa using hi)
    · exact h [] ss (by rw [← hl]; simp) s hs [] rfl m vs H (by simpa using hi)
  | _ => intro π acc K h; trivial
end

/-! ### Where a walk begins is told along -/
structure Base where
  ρ : Ren
  H : AHeap
  w : World
def SatB (B : Base) (S : SPred) (a : Act) (w : World) : Prop :=
  ∃ tm H ρ, S tm H ∧ Rel ρ H w ∧ LRel ρ tm a.tmps.toList ∧ a.defers = [] ∧ Step B.ρ B.H B.w ρ H w
theorem SatB.imp {B : Base} {S S' : SPred} (h : ∀ tm H, S tm H → S' tm H) {a : Act} {w : World} (k : SatB B S a w) : SatB B S' a w := by
  obtain ⟨tm, H, ρ, h1, h2⟩ := k
  exact ⟨tm, H, ρ, h _ _ h1, h2⟩
def TriB (B : Base) (P : Program) (c : Code) (S : SPred) (Q : KF) : Prop :=
  ∀ a w, SatB B S a w → c.wp P (fun e a' w' => ∃ x : AX, e = x.to ∧ SatB B (Q x) a' w') a w
theorem TriB.pre {B : Base} {P : Program} {c : Code} {S S' : SPred} {Q : KF} (h : ∀ tm H, S' tm H → S tm H) (k : TriB B P c S Q) : TriB B P c S' Q :=
  fun a w hs => k a w (hs.imp h)
theorem TriB.post {B : Base} {P : Program} {c : Code} {S : SPred} {Q Q' : KF} (k : TriB B P c S Q) (h : ∀ x tm H, Q x tm H → Q' x tm H) : TriB B P c S Q' :=
  fun a w hs => wp_mono (k a w hs) (by rintro e a' w' ⟨x, rfl, h1⟩; exact ⟨x, rfl, h1.imp (h x)⟩)
theorem TriB.seq {B : Base} {P : Program} {p q : Code} {S R : SPred} {Q : KF} (h1 : TriB B P p S fun x => match x with | .normal => R | x => Q x) (h2 : TriB B P q R Q) : TriB B P (.seq p q) S Q := by
  intro a w hs
  refine wp_seq (wp_mono (h1 a w hs) ?_)
  rintro e a' w' ⟨x, rfl, h⟩
  cases x with
  | normal => exact h2 a' w' h
  | exit i => exact ⟨.exit i, rfl, h⟩
  | ret => exact ⟨.ret, rfl, h⟩
theorem TriB.block {B : Base} {P : Program} {c : Code} {id : Nat} {S : SPred} {Q : KF} (h : TriB B P c S (blockK id Q)) : TriB B P (.block id c) S Q := by
  intro a w hs
  refine wp_block (wp_mono (h a w hs) ?_)
  rintro e a' w' ⟨x, rfl, h⟩
  cases x with
  | normal => exact ⟨.normal, rfl, h⟩
  | exit i =>
    show (if i = id then _ else _)
    have h' : SatB B (fun tm H => if i = id then Q .normal tm H else Q (.exit i) tm H) a' w' := h
    by_cases hi : i = id
    · rw [if_pos hi]; exact ⟨.normal, rfl, h'.imp fun tm H k => by simpa [hi] using k⟩
    · rw [if_neg hi]; exact ⟨.exit i, rfl, h'.imp fun tm H k => by simpa [hi] using k⟩
  | ret => exact ⟨.ret, rfl, h⟩
theorem TriB.scope {B : Base} {P : Program} {c : Code} {S : SPred} {Q : KF} (h : TriB B P c S Q) : TriB B P (.scope c) S Q := by
  intro a w hs
  refine wp_scope_straight (wp_mono (h a w hs) ?_)
  rintro e a' w' ⟨x, rfl, h⟩
  cases x <;> exact ⟨_, rfl, h⟩
theorem TriB.loop {B : Base} {P : Program} {c : Code} {Inv : Nat → SPred} {Q : KF}
    (h : ∀ m, TriB B P c (Inv m) fun x => match x with | .normal => fun tm H => ∃ m', m' < m ∧ Inv m' tm H | x => Q x) (m : Nat) : TriB B P (.loop c) (Inv m) Q := by
  intro a w hs
  refine wp_loop_rounds (m + 1) ?_
  have key : ∀ n m, m < n → ∀ a w, SatB B (Inv m) a w → Code.rounds P c (fun e a' w' => ∃ x : AX, e = x.to ∧ SatB B (Q x) a' w') n a w := by
    intro n
    induction n with
    | zero => intro m hm; omega
    | succ n ih =>
      intro m hm a w hs
      rw [rounds_succ]
      refine wp_mono (h m a w hs) ?_
      rintro e a' w' ⟨x, rfl, hx⟩
      cases x with
      | normal =>
        obtain ⟨tm, H, ρ, ⟨m', hm', hi⟩, hr⟩ := hx
        exact ih m' (by omega) a' w' ⟨tm, H, ρ, hi, hr⟩
      | exit i => exact ⟨.exit i, rfl, hx⟩
      | ret => exact ⟨.ret, rfl, hx⟩
  exact key (m + 1) m (Nat.lt_succ_self m) a w hs
theorem TriB.code {B : Base} {E : Env} (hT : E.TOk) (hF : E.FOk E.ok) (hS : E.SOk) (hm : E.P.follows .mixedOrders = true) (hint : FuncId → Tmp → Option Hint) {f : FuncId} {k n : Nat} {c : Code} (hok : allDraw (E.ok f) c = true)
    {S : SPred} {Q : KF} (h : ∀ tm H, S tm H → codeK E (hint f) (evalK E hint k) (drawK E hint (evalK E hint k) f) n c tm H Q) : TriB B E.P c S Q := by
  intro a w hs
  obtain ⟨tm, H, ρ, h1, h2, h3, h4, h5⟩ := hs
  obtain ⟨x, tm', H', e1, hq⟩ := codeK_ok (evalK_ok E hint k) (drawK_ok (evalK_ok E hint k) f) n c tm H _ (h _ _ h1)
  refine wp_mono (acode_wp hT (run_ok hT hF hS hm k) (adraw_ok hT hm _ (run_ok hT hF hS hm k) f) n c hok tm H x tm' H' e1 ρ w a h2 h3 h4) ?_
  rintro e a' w' ⟨ρ', rfl, k1, k2, k3, k4⟩
  exact ⟨x, rfl, tm', H', ρ', hq, k1, k3, k4, h5.trans k2⟩

/-- Blocks are thrown away, those of the beginning stay. -/
theorem Step.gc {ρ0 ρ : Ren} {H0 H : AHeap} {w0 w : World} (h : Step ρ0 H0 w0 ρ H w) {d : List Nat} (hd : ∀ b, b < H0.size → d[b]? = some b) (hl : H0.size ≤ d.length) (hb : ∀ b l, ρ0 b = some l → b < H0.size) :
    Step ρ0 H0 w0 (renR d ρ) (agc d H) w := by
  have hk : ∀ b, b < H0.size → renR d ρ b = ρ0 b := fun b hb' => by
    unfold renR; rw [hd b hb']; exact h.keep b hb'
  refine ⟨fun b l hbl => by rw [hk b (hb b l hbl)]; exact hbl, hk, by rw [agc_size]; exact hl, h.os, h.tape, h.output, h.size, fun B hB ho => h.own B hB (agc_own ho), h.same⟩
theorem SatB.arrive {B : Base} (hB : ∀ b l, B.ρ b = some l → b < B.H.size) {N : Nat} {R : RFun} {bd : Option Nat} {μs : List Nat} {a : Act} {w : World} : ∀ {ss : List Shape},
    SatB B (Go.Ev.arrive B.H.size N R bd μs ss) a w → SatB B (fun tm H => ∃ s ∈ ss, ∃ vs, tm = fillT N s.idx vs ∧ R s.id bd μs vs H) a w := by
  intro ss ⟨tm, H, ρ, h1, h2, h3, h4, h5⟩
  induction ss with
  | nil => exact h1.elim
  | cons s ss ih =>
    unfold Go.Ev.arrive at h1
    split at h1
    · exact h1.elim
    · rename_i hn
      have hn' : tm.length = N := Nat.eq_of_beq_eq_true hn
      split at h1
      · subst hn'
        refine ⟨_, _, ρ, ⟨s, List.mem_cons_self .., _, rfl, h1⟩, h2, ?_, h4, h5⟩
        have := fillT_ok h3 s.idx id (ρ' := ρ) (fun _ _ q => q)
        simpa using this
      split at h1
      · rename_i d hd
        obtain ⟨d1, d2, d3⟩ := fitS_ok hd
        subst hn'
        exact ⟨_, _, renR d ρ, ⟨s, List.mem_cons_self .., _, rfl, h1⟩, agc_rel d1 h2, fillT_ok h3 s.idx (renV d) fun _ _ => renV_ok, h4, h5.gc d2 d3 hB⟩
      · exact (ih h1).imp fun tm H ⟨s', hs', r⟩ => ⟨s', List.mem_cons_of_mem _ hs', r⟩

/-- What is asked of a place. -/
def ofI (I : Nat → List Nat → Nat → List Value → AHeap → Prop) : RFun := fun id bd μs vs H => ∃ m, (match bd with | none => True | some b => m < b) ∧ I id μs m vs H

theorem TriB.segs {B : Base} (hB : ∀ b l, B.ρ b = some l → b < B.H.size) {E : Env} (hT : E.TOk) (hF : E.FOk E.ok) (hS : E.SOk) (hm : E.P.follows .mixedOrders = true) (hint : FuncId → Tmp → Option Hint) {f : FuncId} {k n N : Nat} {cuts : Cuts}
    {I : Nat → List Nat → Nat → List Value → AHeap → Prop} :
    ∀ (c : Code) (π : List Bool) (acc : List Nat) (K : KF), allDraw (E.ok f) c = true →
      Go.Ev.segs E (hint f) (evalK E hint k) (drawK E hint (evalK E hint k) f) n B.H.size N cuts (ofI I) I π acc c K →
      TriB B E.P c (fun tm H => codeA E (hint f) (evalK E hint k) (drawK E hint (evalK E hint k) f) n B.H.size N cuts (ofI I) π acc c tm H K) K := by
  intro c
  induction c with
  | seq a b iha ihb =>
    intro π acc K hok ⟨s1, s2, s3⟩
    simp only [allDraw, Bool.and_eq_true] at hok
    have k1 := iha _ _ _ hok.1 s1
    have k2 := ihb _ _ _ hok.2 s2
    refine TriB.seq (R := fun tm H => match lookP π.reverse cuts with | some ss => Go.Ev.arrive B.H.size N (ofI I) none acc ss tm H | none => codeA E (hint f) (evalK E hint k) (drawK E hint (evalK E hint k) f) n B.H.size N cuts (ofI I) (true :: π) acc b tm H K) ?_ ?_
    · refine TriB.post (TriB.pre (fun tm H h => h) k1) ?_
      intro x tm H hx
      cases x <;> exact hx
    · cases hl : lookP π.reverse cuts with
      | none => exact k2
      | some ss =>
        intro a w hs
        refine k2 a w ?_
        refine (SatB.arrive hB hs).imp ?_
        rintro tm H ⟨s, hs, vs, rfl, m, _, hi⟩
        exact s3 ss hl s hs m vs H hi
  | cond c a b iha ihb =>
    intro π acc K hok ⟨s1, s2⟩
    simp only [allDraw, Bool.and_eq_true] at hok
    have k1 := iha _ _ _ hok.1 s1
    have k2 := ihb _ _ _ hok.2 s2
    intro a' w hs
    obtain ⟨tm, H, ρ, h1, h2, h3, h4, h5⟩ := hs
    simp only [codeA] at h1
    split at h1
    · rename_i t ht
      have hr := aev_rel h3 c
      rw [ht] at hr
      have hbv := hr.bool_inv
      cases t with
      | true => exact wp_cond_true hbv (k1 a' w ⟨tm, H, ρ, h1, h2, h3, h4, h5⟩)
      | false => exact wp_cond_false hbv (k2 a' w ⟨tm, H, ρ, h1, h2, h3, h4, h5⟩)
    · exact h1.elim
  | block id c ih =>
    intro π acc K hok s1
    simp only [allDraw] at hok
    exact TriB.block (TriB.pre (fun tm H h => h) (ih _ _ _ hok s1))
  | scope c ih =>
    intro π acc K hok s1
    simp only [allDraw] at hok
    exact TriB.scope (TriB.pre (fun tm H h => h) (ih _ _ _ hok s1))
  | loop c ih =>
    intro π acc K hok s1
    cases hl : lookP π.reverse cuts with
    | none =>
      refine TriB.code hT hF hS hm hint (f := f) (k := k) (n := n) hok ?_
      intro tm H h
      simp only [codeA, hl] at h
      exact h
    | some ss =>
      simp only [allDraw] at hok
      intro a w hs
      have hs' : SatB B (Go.Ev.arrive B.H.size N (ofI I) none acc ss) a w := hs.imp fun tm H h => by
        simp only [codeA, hl] at h; exact h
      obtain ⟨tm, H, ρ, ⟨s, hsm, vs, rfl, m, _, hi⟩, hr⟩ := SatB.arrive hB hs'
      refine TriB.loop (Inv := fun m tm H => ∃ s ∈ ss, ∃ vs, tm = fillT N s.idx vs ∧ I s.id acc m vs H) (Q := K) (fun m => ?_) m a w ⟨_, H, ρ, ⟨s, hsm, vs, rfl, hi⟩, hr⟩
      obtain ⟨b1, b2⟩ := s1 ss hl m
      have k1 := ih _ _ _ hok b1
      intro a w hs
      have := k1 a w (hs.imp fun tm H ⟨s, hsm, vs, e, hi⟩ => by subst e; exact b2 s hsm vs H hi)
      refine wp_mono this ?_
      rintro e a' w' ⟨x, rfl, hx⟩
      refine ⟨x, rfl, ?_⟩
      cases x with
      | normal =>
        have hx' : SatB B (Go.Ev.arrive B.H.size N (ofI I) (some m) acc ss) a' w' := hx.imp fun tm H h => by
          simp only [backK, hl] at h; exact h
        refine (SatB.arrive hB hx').imp ?_
        rintro tm H ⟨s, hsm, vs, rfl, m', hm', hi⟩
        exact ⟨m', hm', s, hsm, vs, rfl, hi⟩
      | exit i => exact hx
      | ret => exact hx
  | skip => intro π acc K hok _; exact TriB.code hT hF hS hm hint (f := f) (k := k) (n := n) hok fun tm H h => h
  | label l => intro π acc K hok _; exact TriB.code hT hF hS hm hint (f := f) (k := k) (n := n) hok fun tm H h => h
  | exit l => intro π acc K hok _; exact TriB.code hT hF hS hm hint (f := f) (k := k) (n := n) hok fun tm H h => h
  | ret => intro π acc K hok _; exact TriB.code hT hF hS hm hint (f := f) (k := k) (n := n) hok fun tm H h => h
  | goto l => intro π acc K hok _; exact TriB.code hT hF hS hm hint (f := f) (k := k) (n := n) hok fun tm H h => h
  | refuse s => intro π acc K hok _; exact TriB.code hT hF hS hm hint (f := f) (k := k) (n := n) hok fun tm H h => h
  | rangeFunc g ps p q ih1 ih2 => intro π acc K hok _; exact TriB.code hT hF hS hm hint (f := f) (k := k) (n := n) hok fun tm H h => h
  | region id ops d => intro π acc K hok _; exact TriB.code hT hF hS hm hint (f := f) (k := k) (n := n) hok fun tm H h => h

/-! ### A function, of its walk -/
/-- What it answers, and what blocks there are. -/
def endK (E : Env) (rs : List ResultVar) (Q : Value → AHeap → Prop) : KF := fun x tm H =>
  match x with
  | .exit _ => False
  | _ => match aresult E tm H rs with | some vs => Q (apack vs) H | none => False
/-- .. of so much of it as is kept. -/
def endG (E : Env) (rs : List ResultVar) (n0 : Nat) (Q : Value → AHeap → Prop) : List (List (Nat × List Nat)) → List Value → AHeap → Prop
  | [], _, _ => False
  | r :: l, vs, H => match fitS n0 r vs H with | some d => Q (apack (vs.map (renV d))) (agc d H) | none => endG E rs n0 Q l vs H
def endGK (E : Env) (rs : List ResultVar) (n0 : Nat) (rts : List (List (Nat × List Nat))) (Q : Value → AHeap → Prop) : KF := fun x tm H =>
  match x with
  | .exit _ => False
  | _ => match aresult E tm H rs with | some vs => endG E rs n0 Q rts vs H | none => False

/-- From the start. -/
abbrev startA (E : Env) (hint : FuncId → Tmp → Option Hint) (k n : Nat) (f : FuncId) (n0 N : Nat) (cuts : Cuts) (R : RFun) (c : Code) (tm : List Value) (H : AHeap) (K : KF) : Prop :=
  codeA E (hint f) (evalK E hint k) (drawK E hint (evalK E hint k) f) n n0 N cuts R [] [] c tm H K
abbrev segA (E : Env) (hint : FuncId → Tmp → Option Hint) (k n : Nat) (f : FuncId) (n0 N : Nat) (cuts : Cuts) (R : RFun) (c : Code) (p : List Bool) (ms : List Nat) (m : Nat) (idx : List Nat) (vs : List Value) (H : AHeap) (K : KF) : Prop :=
  segK E (hint f) (evalK E hint k) (drawK E hint (evalK E hint k) f) n n0 N cuts R p [] [] ms c m idx vs H K
/-- (A box around an evaluation.) -/
structure Hd (p : Prop) : Prop where
  h : p
def AllS (P : Shape → Prop) : List Shape → Prop
  | [] => True
  | s :: l => P s ∧ AllS P l
theorem AllS.mem {P : Shape → Prop} : ∀ {l : List Shape}, AllS P l → ∀ s ∈ l, P s := by
  intro l
  induction l with
  | nil => intro _ s h; cases h
  | cons x l ih => intro h s hs; rcases List.mem_cons.1 hs with rfl | hs; exact h.1; exact ih h.2 s hs
def CutsOk (I : Nat → List Nat → Nat → List Value → AHeap → Prop) (seg : List Bool → List Nat → Nat → List Nat → List Value → AHeap → Prop) (c : Code) : Cuts → Prop
  | [] => True
  | (p, ss) :: l => AllS (fun s => ∀ ms : List Nat, ms.length = loopsOn p c → ∀ m vs H, I s.id ms m vs H → Hd (seg p ms m s.idx vs H)) ss ∧ CutsOk I seg c l
theorem CutsOk.mem {I : Nat → List Nat → Nat → List Value → AHeap → Prop} {seg : List Bool → List Nat → Nat → List Nat → List Value → AHeap → Prop} {c : Code} : ∀ {l : Cuts}, CutsOk I seg c l → ∀ p ss, (p, ss) ∈ l →
    ∀ s ∈ ss, ∀ ms : List Nat, ms.length = loopsOn p c → ∀ m vs H, I s.id ms m vs H → seg p ms m s.idx vs H := by
  intro l
  induction l with
  | nil => intro _ p ss h; cases h
  | cons x l ih =>
    obtain ⟨q, tt⟩ := x
    intro h p ss hm
    rcases List.mem_cons.1 hm with e | hm
    · cases e; exact fun s hs ms h1 m vs H hi => (h.1.mem s hs ms h1 m vs H hi).h
    · exact ih h.2 p ss hm

section
variable {E : Env} (hT : E.TOk) (hF : E.FOk E.ok) (hS : E.SOk) (hm : E.P.follows .mixedOrders = true) (hint : FuncId → Tmp → Option Hint) {f : FuncId} {k n : Nat}
include hT hF hS hm

theorem calls_cuts0 {F : Func} {c : Code} (h1 : E.P.funcs[f]? = some F) (h2 : F.body = some c) (h3 : allDraw (E.ok f) c = true) {cuts : Cuts} {I : Nat → List Nat → Nat → List Value → AHeap → Prop} {K : KF} {QQ : List Value → AHeap → Prop}
    (hK : ∀ x tm H', K x tm H' → (x = .normal ∨ x = .ret) ∧ ∃ vs, aresult E tm H' F.results.toList = some vs ∧ QQ vs H')
    {args : List Value} {H : AHeap} {ρ : Ren} {w : World} {cargs : Array Value} (hR : Rel ρ H w) (ha : LRel ρ args cargs.toList)
    (hs : startA E hint k n f H.size F.ntmps cuts (ofI I) c (args ++ List.replicate (F.ntmps - args.length) undef) H K)
    (hc : CutsOk I (fun p ms m idx vs H' => segA E hint k n f H.size F.ntmps cuts (ofI I) c p ms m idx vs H' K) c cuts) :
    Calls E.P f cargs w fun e w' => ∃ vs H' ρ' Vs, QQ vs H' ∧ e = .returned (if h : Vs.toArray.size = 1 then Vs.toArray[0] else .tuple Vs.toArray) ∧ Rel ρ' H' w' ∧ Step ρ H w ρ' H' w' ∧ LRel ρ' vs Vs := by
  have hlen : args.length = cargs.size := by have := ha.1; simpa using this
  have hB : ∀ b l, (⟨ρ, H, w⟩ : Base).ρ b = some l → b < (⟨ρ, H, w⟩ : Base).H.size := fun b l h => (hR.bd b l h).1
  have hsegs := segs_of E (hint f) (evalK E hint k) (drawK E hint (evalK E hint k) f) n H.size F.ntmps cuts (ofI I) I c [] [] K (fun q ss hl s hs ms hms m vs H' hi =>
    hc.mem q ss (lookP_mem (by simpa using hl)) s hs ms hms m vs H' (by simpa using hi))
  have key := TriB.segs (B := ⟨ρ, H, w⟩) hB hT hF hS hm hint (f := f) (k := k) (n := n) c [] [] _ h3 hsegs
  refine calls_of_wp h1 h2 (wp_mono (key { tmps := cargs ++ Array.replicate (F.ntmps - cargs.size) undef, defers := [] } w ⟨_, _, ρ, hs, hR, ?_, rfl, .refl _ _ _⟩) ?_)
  · rw [Array.toList_append, Array.toList_replicate, ← hlen]
    exact ha.append (.replicate _ (undef_rel ρ))
  · rintro e a' w' ⟨x, rfl, tm, H', ρ', hq, k1, k2, k3, k4⟩
    obtain ⟨hx, vs, hr, hqq⟩ := hK x tm H' hq
    obtain ⟨Vs, r1, r2⟩ := aresult_ok hT k1 k2 (g := fun r => match r with | .tmp t => pure (a'.tmps.getD t undef) | .cell a t => do loadVar t (← asAddr (a'.tmps.getD a undef)))
      (fun _ => rfl) (fun _ _ => rfl) _ _ hr
    have hres : (results F a'.tmps).run E.P w' = .ok (if h : Vs.toArray.size = 1 then Vs.toArray[0] else .tuple Vs.toArray) w' := by
      unfold results
      rw [Sem.run_bind, Array.mapM_eq_mapM_toList, Sem.run_map]
      exact (congrArg (fun (q : Result (List Value)) => (q.andThen fun a w' => Result.ok a.toArray w').andThen
        fun a w' => Sem.run E.P (pure (if h : a.size = 1 then a[0] else .tuple a)) w') r2).trans rfl
    rcases hx with rfl | rfl <;> exact ⟨k3, _, hres, vs, H', ρ', Vs, hqq, rfl, k1, k4, r1⟩
theorem endK_inv {rs : List ResultVar} {Q : Value → AHeap → Prop} : ∀ x tm H', endK E rs Q x tm H' → (x = .normal ∨ x = .ret) ∧ ∃ vs, aresult E tm H' rs = some vs ∧ Q (apack vs) H' := by
  intro x tm H' h
  cases x with
  | exit i => exact h.elim
  | normal =>
    simp only [endK] at h
    split at h
    · rename_i vs hr; exact ⟨.inl rfl, vs, hr, h⟩
    · exact h.elim
  | ret =>
    simp only [endK] at h
    split at h
    · rename_i vs hr; exact ⟨.inr rfl, vs, hr, h⟩
    · exact h.elim
theorem endG_inv {rs : List ResultVar} {n0 : Nat} {Q : Value → AHeap → Prop} : ∀ {l : List (List (Nat × List Nat))} {vs : List Value} {H' : AHeap}, endG E rs n0 Q l vs H' → ∃ r d, fitS n0 r vs H' = some d ∧ Q (apack (vs.map (renV d))) (agc d H') := by
  intro l
  induction l with
  | nil => intro vs H' h; exact h.elim
  | cons r l ih =>
    intro vs H' h
    unfold endG at h
    split at h
    · rename_i d hd; exact ⟨r, d, hd, h⟩
    · exact ih h
theorem endGK_inv {rs : List ResultVar} {n0 : Nat} {rts : List (List (Nat × List Nat))} {Q : Value → AHeap → Prop} : ∀ x tm H', endGK E rs n0 rts Q x tm H' →
    (x = .normal ∨ x = .ret) ∧ ∃ vs, aresult E tm H' rs = some vs ∧ ∃ r d, fitS n0 r vs H' = some d ∧ Q (apack (vs.map (renV d))) (agc d H') := by
  intro x tm H' h
  cases x with
  | exit i => exact h.elim
  | normal =>
    simp only [endGK] at h
    split at h
    · rename_i vs hr; exact ⟨.inl rfl, vs, hr, endG_inv hT hF hS hm h⟩
    · exact h.elim
  | ret =>
    simp only [endGK] at h
    split at h
    · rename_i vs hr; exact ⟨.inr rfl, vs, hr, endG_inv hT hF hS hm h⟩
    · exact h.elim

theorem calls_cuts {F : Func} {c : Code} {N : Nat} {rs : List ResultVar} (h1 : E.P.funcs[f]? = some F) (h2 : F.body = some c) (hN : F.ntmps = N) (hrs : F.results.toList = rs) (h3 : allDraw (E.ok f) c = true) {cuts : Cuts} {I : Nat → List Nat → Nat → List Value → AHeap → Prop} {Q : Value → AHeap → Prop}
    {args : List Value} {H : AHeap} {ρ : Ren} {w : World} {cargs : Array Value} (hR : Rel ρ H w) (ha : LRel ρ args cargs.toList)
    (hs : Hd (startA E hint k n f H.size N cuts (ofI I) c (args ++ List.replicate (N - args.length) undef) H (endK E rs Q)))
    (hc : CutsOk I (fun p ms m idx vs H' => segA E hint k n f H.size N cuts (ofI I) c p ms m idx vs H' (endK E rs Q)) c cuts) :
    Calls E.P f cargs w fun e w' => ∃ v H', Q v H' ∧ Post ρ H w v H' e w' := by
  subst hN hrs
  refine (calls_cuts0 hT hF hS hm hint h1 h2 h3 (endK_inv hT hF hS hm) hR ha hs.h hc).mono ?_
  rintro e w' ⟨vs, H', ρ', Vs, q, rfl, k1, k2, k3⟩
  exact ⟨_, _, q, _, ρ', rfl, k1, k2, apack_ok k3⟩
theorem calls_cutsG {F : Func} {c : Code} {N : Nat} {rs : List ResultVar} (h1 : E.P.funcs[f]? = some F) (h2 : F.body = some c) (hN : F.ntmps = N) (hrs : F.results.toList = rs) (h3 : allDraw (E.ok f) c = true) {cuts : Cuts} {I : Nat → List Nat → Nat → List Value → AHeap → Prop} {Q : Value → AHeap → Prop}
    {rts : List (List (Nat × List Nat))} {args : List Value} {H : AHeap} {ρ : Ren} {w : World} {cargs : Array Value} (hR : Rel ρ H w) (ha : LRel ρ args cargs.toList)
    (hs : Hd (startA E hint k n f H.size N cuts (ofI I) c (args ++ List.replicate (N - args.length) undef) H (endGK E rs H.size rts Q)))
    (hc : CutsOk I (fun p ms m idx vs H' => segA E hint k n f H.size N cuts (ofI I) c p ms m idx vs H' (endGK E rs H.size rts Q)) c cuts) :
    Calls E.P f cargs w fun e w' => ∃ v H', Q v H' ∧ Post ρ H w v H' e w' := by
  subst hN hrs
  refine (calls_cuts0 hT hF hS hm hint h1 h2 h3 (endGK_inv hT hF hS hm) hR ha hs.h hc).mono ?_
  rintro e w' ⟨vs, H', ρ', Vs, ⟨r, d, hd, q⟩, rfl, k1, k2, k3⟩
  obtain ⟨d1, d2, d3⟩ := fitS_ok hd
  exact ⟨_, _, q, _, renR d ρ', rfl, agc_rel d1 k1, k2.gc d2 d3 fun b l h => (hR.bd b l h).1, apack_ok (k3.ren fun _ _ => renV_ok)⟩

/-- A law, of its walk. -/
theorem law_cuts {F : Func} {c : Code} {N : Nat} {rs : List ResultVar} (h1 : E.P.funcs[f]? = some F) (h2 : F.body = some c) (hN : F.ntmps = N) (hrs : F.results.toList = rs) (h3 : allDraw (E.ok f) c = true) {cuts : Cuts} {I : Nat → List Nat → Nat → List Value → AHeap → Prop}
    {args : List Value} {H : AHeap} {ρ : Ren} {w : World} {cargs : Array Value} (hR : Rel ρ H w) (hno : ∀ B, ¬ Own ρ H B) (ha : LRel ρ args cargs.toList)
    (hs : Hd (startA E hint k n f H.size N cuts (ofI I) c (args ++ List.replicate (N - args.length) undef) H (endK E rs fun v _ => v = .bool true)))
    (hc : CutsOk I (fun p ms m idx vs H' => segA E hint k n f H.size N cuts (ofI I) c p ms m idx vs H' (endK E rs fun v _ => v = .bool true)) c cuts) :
    Calls E.P f cargs w fun e w' => e = .returned (.bool true) ∧ Below w.heap.size w w' := by
  refine (calls_cuts hT hF hS hm hint h1 h2 hN hrs h3 hR ha hs hc).mono ?_
  rintro e w' ⟨v, H', rfl, V, ρ', rfl, _, k2, k3⟩
  obtain rfl := k3.bool_inv
  exact ⟨rfl, k2.os, k2.tape, k2.output, k2.size, fun B hB => k2.same B hB (hno B)⟩
end
end Go.Ev
