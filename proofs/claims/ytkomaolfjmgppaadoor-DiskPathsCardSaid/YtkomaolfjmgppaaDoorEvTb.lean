/- Summaries of functions that read what they are handed and make new memory. -/
import Derived.Test.YtkomaolfjmgppaaDoorEvTa
namespace Go.Ev
open Go RowKit
set_option linter.unusedVariables false
set_option linter.unusedSectionVars false
set_option linter.unusedSimpArgs false

/-! ### Only to be read -/
def Tr.map {α : Type} (f : α → α) : Tr α → Tr α
  | .nil => .nil
  | .node v l r => .node (match v with | some a => some (f a) | none => none) (l.map f) (r.map f)
theorem Tr.get_map {α : Type} (f : α → α) : ∀ (t : Tr α) (n : Nat), (t.map f).get n = (t.get n).map f := by
  intro t
  induction t with
  | nil => intro n; rfl
  | node v l r ihl ihr =>
    intro n
    simp only [Tr.map, Tr.get]
    split
    · cases v <;> rfl
    · split
      · exact ihl _
      · exact ihr _
def roO : AObj → AObj
  | .cells cs t _ _ => .cells cs t .ro []
  | .map es bs _ => .map es bs .ro
  | _ => .dead
def roH (H : AHeap) : AHeap := ⟨H.size, H.tr.map roO⟩
theorem roH_get (H : AHeap) (b : Nat) : (roH H).get b = (H.get b).map roO := Tr.get_map roO H.tr b
theorem roO_owns (o : AObj) : (roO o).owns = none := by cases o <;> rfl
theorem roH_own {ρ : Ren} {H : AHeap} (X : Nat) : ¬ Own ρ (roH H) X := by
  rintro ⟨b, l, o, h1, h2, h3, h4⟩
  rw [roH_get] at h3
  cases hg : H.get b with
  | none => rw [hg] at h3; cases h3
  | some o' => rw [hg] at h3; cases h3; rw [roO_owns] at h4; cases h4
theorem Rel.ro {ρ : Ren} {H : AHeap} {w : World} (h : Rel ρ H w) : Rel ρ (roH H) w := by
  refine ⟨h.bd, fun b l o hb ho => ?_, fun b l o anc b' l' o' hb ho how _ _ _ _ _ => ?_⟩
  · rw [roH_get] at ho
    cases hg : H.get b with
    | none => rw [hg] at ho; cases ho
    | some o' =>
      rw [hg] at ho
      cases ho
      have := h.obj b l o' hb hg
      cases o' with
      | cells cs t st anc =>
        obtain ⟨CS, el, fr, h1, h2, h3, h4, h5⟩ := this
        exact ⟨CS, el, fr, h1, h2, h3, h4, fun hn => absurd rfl hn⟩
      | map es bs st => exact this
      | siter s p => trivial
      | miter m a b c => trivial
      | dead => trivial
  · exact absurd ⟨b, l, o, hb, rfl, ho, by rw [how]; rfl⟩ (roH_own (ρ := ρ) (H := H) l.B)

/-! ### Back to the caller's numbers -/
def upV0 (e : List Nat) : Value → Value
  | .bool b => .bool b
  | .int k n => .int k n
  | .string s => .string s
  | .pointer none => .pointer none
  | .pointer (some ⟨b, o, none⟩) => match e[b]? with | some i => .pointer (some ⟨i, o, none⟩) | none => top
  | .slice none 0 0 => .slice none 0 0
  | .slice (some ⟨b, o, none⟩) n c => match e[b]? with | some i => .slice (some ⟨i, o, none⟩) n c | none => top
  | .map none => .map none
  | .map (some b) => match e[b]? with | some i => .map (some i) | none => top
  | .nilFunc => .nilFunc
  | .nilIface => .nilIface
  | _ => top
def upV1 (e : List Nat) : Value → Value
  | .agg xs => .agg ⟨xs.toList.map (upV0 e)⟩
  | .iface t x => .iface t (upV0 e x)
  | x => upV0 e x
def upV (e : List Nat) : Value → Value
  | .tuple xs => .tuple ⟨xs.toList.map (upV1 e)⟩
  | x => upV1 e x
def upO (e : List Nat) : AObj → AObj
  | .cells cs t st _ => .cells (cs.map (upV e)) t st []
  | .map es bs st => .map (es.map fun p => (upV e p.1, upV e p.2)) bs st
  | _ => .dead
def UpOk (e : List Nat) (ρ ρ' : Ren) : Prop := ∀ b i l, e[b]? = some i → ρ b = some l → ρ' i = some l
theorem upV0_ok {e : List Nat} {ρ ρ' : Ren} (he : UpOk e ρ ρ') {x C : Value} (h : VRel ρ x C) : VRel ρ' (upV0 e x) C := by
  unfold upV0
  split
  · rw [h.bool_inv]; exact .bool _
  · cases h; exact .int _ _
  · cases h; exact .string _
  · cases h; exact .nilp
  · split
    · rename_i hp; cases h; rename_i l hl; exact .ptr _ _ l (he _ _ _ hp hl)
    · exact .top _
  · cases h; exact .nils
  · split
    · rename_i hp; cases h with | slice _ _ _ _ l C A hl hn hc hN hA => exact .slice _ _ _ _ l C A (he _ _ _ hp hl) hn hc hN hA
    · exact .top _
  · cases h; exact .nilm
  · split
    · rename_i hp; cases h; rename_i l hl; exact .map _ l (he _ _ _ hp hl)
    · exact .top _
  · cases h; exact .nilf
  · cases h; exact .nili
  · exact .top _
theorem LRel.mapG {ρ ρ' : Ren} {f : Value → Value} (hf : ∀ x C, VRel ρ x C → VRel ρ' (f x) C) {xs ys : List Value} (h : LRel ρ xs ys) : LRel ρ' (xs.map f) ys := by
  refine ⟨by rw [List.length_map]; exact h.1, fun i x y hx hy => ?_⟩
  rw [List.getElem?_map] at hx
  cases hi : xs[i]? with
  | none => rw [hi] at hx; cases hx
  | some u =>
    rw [hi] at hx
    injection hx with hx
    subst hx
    exact hf _ _ (h.2 i u y hi hy)
theorem upV1_ok {e : List Nat} {ρ ρ' : Ren} (he : UpOk e ρ ρ') {x C : Value} (h : VRel ρ x C) : VRel ρ' (upV1 e x) C := by
  unfold upV1
  split
  · obtain ⟨ys, rfl, h1⟩ := h.agg_inv
    exact .agg' (h1.mapG fun _ _ => upV0_ok he)
  · cases h; rename_i y hy; exact .iface _ _ _ (upV0_ok he hy)
  · exact upV0_ok he h
theorem upV_ok {e : List Nat} {ρ ρ' : Ren} (he : UpOk e ρ ρ') {x C : Value} (h : VRel ρ x C) : VRel ρ' (upV e x) C := by
  unfold upV
  split
  · obtain ⟨ys, rfl, h1⟩ := h.tuple_inv
    exact .tuple' (h1.mapG fun _ _ => upV1_ok he)
  · exact upV1_ok he h
def liveO : AObj → Bool
  | .cells _ _ .live [] => true
  | .map _ _ .live => true
  | _ => false
theorem upO_ok {e : List Nat} {ρ ρ' : Ren} (he : UpOk e ρ ρ') {w : World} {l : Loc} {o : AObj} (h : ORel ρ w l o) : ORel ρ' w l (upO e o) := by
  cases o with
  | cells cs t st anc =>
    obtain ⟨CS, el, fr, h1, h2, h3, h4, h5⟩ := h
    refine ⟨CS, el, fr, h1, h2, h3, fun i v hv => ?_, h5⟩
    rw [List.getElem?_map] at hv
    cases hi : cs[i]? with
    | none => rw [hi] at hv; cases hv
    | some u =>
      rw [hi] at hv
      injection hv with hv
      subst hv
      obtain ⟨V, k1, k2, k3⟩ := h4 i u hi
      exact ⟨V, k1, k2, upV_ok he k3⟩
  | map es bs st =>
    obtain ⟨ES, h1, h2, h3, h4⟩ := h
    refine ⟨ES, h1, ?_, ?_, h4⟩
    · have := h2.mapG (f := upV e) fun _ _ => upV_ok he
      simpa [upO, List.map_map, Function.comp_def] using this
    · have := h3.mapG (f := upV e) fun _ _ => upV_ok he
      simpa [upO, List.map_map, Function.comp_def] using this
  | siter s p => trivial
  | miter m a b c => trivial
  | dead => trivial
theorem upO_live {e : List Nat} {o : AObj} (h : liveO o = true) : (upO e o).owns = some [] := by
  cases o with
  | cells cs t st anc => cases st <;> cases anc <;> simp [liveO] at h <;> rfl
  | map es bs st => cases st <;> simp [liveO] at h <;> rfl
  | _ => simp [liveO] at h

def pushes (H : AHeap) : List AObj → AHeap
  | [] => H
  | o :: os => pushes (H.push o) os
theorem pushes_size : ∀ (os : List AObj) (H : AHeap), (pushes H os).size = H.size + os.length := by
  intro os
  induction os with
  | nil => intro H; rfl
  | cons o os ih => intro H; rw [pushes, ih]; simp only [AHeap.size_push, List.length_cons]; omega
theorem pushes_get : ∀ (os : List AObj) (H : AHeap) (b : Nat), (pushes H os).get b = if H.size ≤ b ∧ b < H.size + os.length then os[b - H.size]? else H.get b := by
  intro os
  induction os with
  | nil => intro H b; simp only [pushes, List.length_nil]; rw [if_neg (by omega)]
  | cons o os ih =>
    intro H b
    rw [pushes, ih]
    have e : (H.push o).size = H.size + 1 := rfl
    by_cases h1 : b = H.size
    · subst h1
      rw [if_neg (by omega), AHeap.get_push_eq, if_pos (by simp)]; simp
    · by_cases h2 : H.size + 1 ≤ b ∧ b < H.size + 1 + os.length
      · rw [if_pos (by omega), if_pos (by simp only [List.length_cons]; omega)]
        have : b - H.size = (b - (H.push o).size) + 1 := by omega
        rw [this, List.getElem?_cons_succ]
      · rw [if_neg (by omega), AHeap.get_push_ne _ _ _ h1, if_neg (by simp only [List.length_cons]; omega)]

/-- What such a function comes to: the blocks that it may read, and of these what it answers, and the blocks that it makes. -/
inductive SpR where
  | fail
  | ret (c : Bool) (v : Value) (os : List AObj)
  | br (b : Bool) (x y : SpR)
def SpR.get : SpR → Option (Bool × Value × List AObj)
  | .fail => none
  | .ret c v os => some (c, v, os)
  | .br b x y => match b with | true => x.get | false => y.get
def upR (d : List Nat) (H : AHeap) : SpR → SumR
  | .fail => .fail
  | .ret c v os =>
    match os.all liveO with
    | true => .ret c (upV (d ++ List.range' H.size os.length) v) (pushes H (os.map (upO (d ++ List.range' H.size os.length))))
    | false => .fail
  | .br b x y => .br b (upR d H x) (upR d H y)
theorem upR_get {d : List Nat} {H H' : AHeap} {v : Value} {c : Bool} : ∀ {r : SpR}, (upR d H r).get = some (c, v, H') →
    ∃ v0 os, r.get = some (c, v0, os) ∧ os.all liveO = true ∧ v = upV (d ++ List.range' H.size os.length) v0 ∧ H' = pushes H (os.map (upO (d ++ List.range' H.size os.length))) := by
  intro r
  induction r with
  | fail => intro h; cases h
  | ret c v os =>
    intro h
    unfold upR at h
    split at h
    · rename_i hl; cases h; exact ⟨_, _, rfl, hl, rfl, rfl⟩
    · cases h
  | br b x y ihx ihy =>
    intro h
    cases b
    · exact ihy h
    · exact ihx h
def roS (foot : List Value → AHeap → Option (List Nat)) (spec : List Value → AHeap → SpR) : BSumm := fun args H =>
  match foot args H with
  | some d => (match nodupB d with | true => upR d H (spec (args.map (renV d)) (roH (agc d H))) | false => .fail)
  | none => .fail

theorem sumOk_ro {P : Program} {f : FuncId} {foot : List Value → AHeap → Option (List Nat)} {spec : List Value → AHeap → SpR} {F : Func} (hF : P.funcs[f]? = some F) (hb : F.body.isSome = true) (hn : F.name ≠ "runtime.NumGoroutine")
    (h : ∀ args HL v os, (∃ H0 args0 d, foot args0 H0 = some d ∧ args = args0.map (renV d) ∧ HL = roH (agc d H0)) → (spec args HL).get = some (true, v, os) → ∀ (ρ : Ren) (w : World) (cargs : Array Value), Rel ρ HL w → (∀ X, ¬ Own ρ HL X) → LRel ρ args cargs.toList → Calls P f cargs w (Post ρ HL w v (pushes HL os))) :
    BSumOk P f (roS foot spec) := by
  intro args H v H' hg
  unfold roS at hg
  split at hg
  case h_2 => cases hg
  rename_i d hd
  split at hg
  case h_2 => cases hg
  rename_i hnd
  have hnd' := nodupB_ok hnd
  obtain ⟨v0, os, hsp, hlive, rfl, rfl⟩ := upR_get hg
  refine ⟨⟨F, hF, hb, hn⟩, by rw [pushes_size]; omega, fun ρ w cargs hR ha => ?_⟩
  have hRL := (agc_rel hnd' hR).ro
  have hsz : (roH (agc d H)).size = d.length := agc_size d H
  have haL : LRel (renR d ρ) (args.map (renV d)) cargs.toList := ha.ren fun _ _ => renV_ok
  refine (h _ _ _ _ ⟨H, args, d, hd, rfl, rfl⟩ hsp (renR d ρ) w cargs hRL roH_own haL).mono ?_
  rintro e w' ⟨V, ρ', rfl, q1, q2, q3⟩
  have hsame : ∀ B, B < w.heap.size → w'.heap[B]? = w.heap[B]? := fun B hB => q2.same B hB (roH_own B)
  have hsize : (pushes (roH (agc d H)) os).size = d.length + os.length := by rw [pushes_size, hsz]
  let ρG : Ren := fun b => if b < H.size then ρ b else ρ' (d.length + (b - H.size))
  have hlow : ∀ b, b < H.size → ρG b = ρ b := fun b hb => if_pos hb
  have hhigh : ∀ b, ¬ b < H.size → ρG b = ρ' (d.length + (b - H.size)) := fun b hb => if_neg hb
  have hleG : Ren.le ρ ρG := fun b l hb => by rw [hlow b (hR.bd b l hb).1]; exact hb
  have hup : UpOk (d ++ List.range' H.size os.length) ρ' ρG := by
    intro b i l hbi hl
    by_cases hlt : b < d.length
    · rw [List.getElem?_append_left hlt] at hbi
      have hk : ρ' b = renR d ρ b := q2.keep b (by rw [hsz]; exact hlt)
      rw [hk] at hl
      unfold renR at hl
      rw [hbi] at hl
      exact hleG _ _ hl
    · rw [List.getElem?_append_right (by omega)] at hbi
      have hr : b - d.length < os.length := by
        have := (List.getElem?_eq_some_iff.1 hbi).1; simpa using this
      rw [List.getElem?_range' hr] at hbi
      simp only [Nat.one_mul, Option.some.injEq] at hbi
      subst hbi
      rw [hhigh _ (by omega)]
      have : d.length + (H.size + (b - d.length) - H.size) = b := by omega
      rw [this]; exact hl
  have hgetL : ∀ j, j < os.length → (pushes (roH (agc d H)) os).get (d.length + j) = os[j]? := by
    intro j hj
    rw [pushes_get, hsz, if_pos (by omega)]
    congr 1; omega
  have hget : ∀ b, (pushes H (os.map (upO (d ++ List.range' H.size os.length)))).get b = if H.size ≤ b ∧ b < H.size + os.length then (os.map (upO (d ++ List.range' H.size os.length)))[b - H.size]? else H.get b := by
    intro b; rw [pushes_get, List.length_map]
  -- the new blocks are new
  have hnew : ∀ j l o, ρ' (d.length + j) = some l → os[j]? = some o → w.heap.size ≤ l.B := by
    intro j l o hl ho
    have hj : j < os.length := (List.getElem?_eq_some_iff.1 ho).1
    by_cases hlt : l.B < w.heap.size
    · have hlo := List.all_eq_true.1 hlive o (List.mem_of_getElem? ho)
      have how : o.owns.isSome = true := by
        cases o with
        | cells cs t st anc => cases st <;> cases anc <;> simp [liveO] at hlo <;> rfl
        | map es bs st => cases st <;> simp [liveO] at hlo <;> rfl
        | _ => simp [liveO] at hlo
      exact absurd (q2.own l.B hlt ⟨_, l, o, hl, rfl, by rw [hgetL j hj]; exact ho, how⟩) (roH_own _)
    · omega
  have hcase : ∀ b l o, ρG b = some l → (pushes H (os.map (upO (d ++ List.range' H.size os.length)))).get b = some o →
      (b < H.size ∧ ρ b = some l ∧ H.get b = some o) ∨ (¬ b < H.size ∧ ∃ o', os[b - H.size]? = some o' ∧ o = upO (d ++ List.range' H.size os.length) o' ∧ ρ' (d.length + (b - H.size)) = some l) := by
    intro b l o hl ho
    by_cases hb : b < H.size
    · rw [hlow b hb] at hl
      rw [hget, if_neg (by omega)] at ho
      exact .inl ⟨hb, hl, ho⟩
    · rw [hhigh b hb] at hl
      have hlt := (q1.bd _ _ hl).1
      rw [hsize] at hlt
      rw [hget, if_pos (by omega), List.getElem?_map] at ho
      cases ho' : os[b - H.size]? with
      | none => rw [ho'] at ho; cases ho
      | some o' => rw [ho'] at ho; cases ho; exact .inr ⟨hb, o', rfl, rfl, hl⟩
  refine ⟨V, ρG, rfl, ⟨fun b l hl => ?_, fun b l o hl ho => ?_, fun b l o anc b' l' o' hl ho how hl' ho' hal hne hB => ?_⟩, ⟨hleG, hlow, by rw [pushes_size]; omega, q2.os, q2.tape, q2.output, q2.size, fun B hB hown => ?_, fun B hB _ => hsame B hB⟩, upV_ok hup q3⟩
  · by_cases hb : b < H.size
    · rw [hlow b hb] at hl
      exact ⟨by rw [pushes_size]; omega, Nat.lt_of_lt_of_le (hR.bd b l hl).2 q2.size⟩
    · rw [hhigh b hb] at hl
      have := q1.bd _ _ hl
      rw [hsize] at this
      rw [pushes_size, List.length_map]
      exact ⟨by omega, this.2⟩
  · rcases hcase b l o hl ho with ⟨hb, h1, h2⟩ | ⟨hb, o1, h1, rfl, h2⟩
    · exact ((hR.obj b l o h1 h2).congr (hsame _ (hR.bd b l h1).2)).mono hleG
    · have hj : b - H.size < os.length := (List.getElem?_eq_some_iff.1 h1).1
      exact upO_ok hup (q1.obj _ l o1 h2 (by rw [hgetL _ hj]; exact h1))
  · rcases hcase b l o hl ho with ⟨hb, h1, h2⟩ | ⟨hb, o1, h1, rfl, h2⟩
    · rcases hcase b' l' o' hl' ho' with ⟨hb', h1', h2'⟩ | ⟨hb', o1', h1', rfl, h2'⟩
      · exact hR.excl b l o anc b' l' o' h1 h2 how h1' h2' hal hne hB
      · have := hnew _ _ _ h2' h1'
        have := (hR.bd b l h1).2
        omega
    · rcases hcase b' l' o' hl' ho' with ⟨hb', h1', h2'⟩ | ⟨hb', o1', h1', rfl, h2'⟩
      · have := hnew _ _ _ h2 h1
        have := (hR.bd b' l' h1').2
        omega
      · have hj : b - H.size < os.length := (List.getElem?_eq_some_iff.1 h1).1
        have hj' : b' - H.size < os.length := (List.getElem?_eq_some_iff.1 h1').1
        have hlo := List.all_eq_true.1 hlive o1 (List.mem_of_getElem? h1)
        have hlo' := List.all_eq_true.1 hlive o1' (List.mem_of_getElem? h1')
        have ow : ∀ o : AObj, liveO o = true → o.owns = some [] ∧ o.alive = true := by
          intro o hl
          cases o with
          | cells cs t st anc => cases st <;> cases anc <;> simp [liveO] at hl <;> exact ⟨rfl, rfl⟩
          | map es bs st => cases st <;> simp [liveO] at hl <;> exact ⟨rfl, rfl⟩
          | _ => simp [liveO] at hl
        have := q1.excl _ l o1 [] _ l' o1' h2 (by rw [hgetL _ hj]; exact h1) (ow _ hlo).1 h2' (by rw [hgetL _ hj']; exact h1') (ow _ hlo').2 (by omega) hB
        cases this.1
  · obtain ⟨b, l, o, hl, rfl, ho, how⟩ := hown
    rcases hcase b l o hl ho with ⟨hb, h1, h2⟩ | ⟨hb, o1, h1, rfl, h2⟩
    · exact ⟨b, l, o, h1, rfl, h2, how⟩
    · have := hnew _ _ _ h2 h1
      omega
/-- A function that is handed no blocks. -/
def newS (spec : List Value → SpR) : BSumm := roS (fun _ _ => some []) fun args _ => spec args
theorem sumOk_new {P : Program} {f : FuncId} {spec : List Value → SpR} {F : Func} (hF : P.funcs[f]? = some F) (hb : F.body.isSome = true) (hn : F.name ≠ "runtime.NumGoroutine")
    (h : ∀ args v os, (spec args).get = some (true, v, os) → ∀ (w : World) (cargs : Array Value), LRel (fun _ => none) args cargs.toList → Calls P f cargs w (Post (fun _ => none) AHeap.empty w v (pushes AHeap.empty os))) :
    BSumOk P f (newS spec) := by
  refine sumOk_ro hF hb hn ?_
  rintro args HL v os ⟨H0, args0, d, hd, _, rfl⟩ hs ρ w cargs hR hno ha
  injection hd with hd
  subst hd
  have ha' : LRel (fun _ => none) args cargs.toList := by
    have hρ : ∀ b, ρ b = none := by
      intro b
      cases hb' : ρ b with
      | none => rfl
      | some l => exact absurd (hR.bd b l hb').1 (by show ¬ b < 0; omega)
    have : ρ = fun _ => none := funext hρ
    rw [this] at ha
    exact ha
  have hρ : ρ = fun _ => none := by
    funext b
    cases hb' : ρ b with
    | none => rfl
    | some l => exact absurd (hR.bd b l hb').1 (by show ¬ b < 0; omega)
  subst hρ
  exact h args v os hs w cargs ha'
end Go.Ev
