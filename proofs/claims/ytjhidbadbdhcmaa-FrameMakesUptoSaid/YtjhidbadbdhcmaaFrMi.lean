/- slices.Equal of settings: what it comes to; no condition. -/
import Derived.Test.YtjhidbadbdhcmaaFrMh
namespace Go.Ev
open Go Go.Proofs Go.RowKit
set_option linter.unusedVariables false
set_option maxRecDepth 100000
set_option maxHeartbeats 4000000
def eHint : FuncId → Tmp → Option Hint := fun f t => (look f [(49, [(19, Hint.agg [.int .i64, .int .i64]), (23, Hint.agg [.int .i64, .int .i64])])]).bind (look t)
def eP : List Bool := [true,true,false,true,false]
def eCuts : Cuts := [(eP, [⟨0, [0,1,12,13], [], false⟩])]
noncomputable abbrev eB : Code := bodyOf Try.prog 49
theorem eNN (R : RFun) (Q : Value → AHeap → Prop) :
   startA frV eHint 30 20 49 0 26 [] R eB ([nl, nl] ++ List.replicate 24 undef) AHeap.empty (endGK frV [.tmp 4] 0 [[]] Q)
   = (Q (Value.bool true) { size := 0, tr := Tr.nil }) := by kernel_rfl
theorem eNB (n c : Nat) (L : List Value) (T : ET) (R : RFun) (Q : Value → AHeap → Prop) :
   startA frV eHint 30 20 49 1 26 [] R eB ([nl, slo 0 0 n c] ++ List.replicate 24 undef) (roH1w L T) (endGK frV [.tmp 4] 1 [[]] Q)
   = (ifK (!decide ((↑0 : Int) = (↑n : Int))) (Q (Value.bool false) { size := 1, tr := Tr.node (some (AObj.cells (List.map (renV [0]) L) T St.ro [])) Tr.nil Tr.nil }) (Q (Value.bool true) { size := 1, tr := Tr.node (some (AObj.cells (List.map (renV [0]) L) T St.ro [])) Tr.nil Tr.nil })) := by kernel_rfl
theorem eBN (n c : Nat) (L : List Value) (T : ET) (R : RFun) (Q : Value → AHeap → Prop) :
   startA frV eHint 30 20 49 1 26 [] R eB ([slo 0 0 n c, nl] ++ List.replicate 24 undef) (roH1w L T) (endGK frV [.tmp 4] 1 [[]] Q)
   = (ifK (!decide ((↑n : Int) = (↑0 : Int))) (Q (Value.bool false) { size := 1, tr := Tr.node (some (AObj.cells (List.map (renV [0]) L) T St.ro [])) Tr.nil Tr.nil }) (ifK (decide ((0 : Int) < (↑n : Int))) (ifK (decide ((0 : Int) ≤ (0 : Int) ∧ (0 : Int) < (↑n : Int))) (∃ n n_1, LoadIs frV 39 (Value.pointer (some { block := 0, off := 0 })) { size := 1, tr := Tr.node (some (AObj.cells L T St.ro [])) Tr.nil Tr.nil } (Value.agg { toList := [Value.int IntKind.i64 n, Value.int IntKind.i64 n_1] }) ∧ False) False) (Q (Value.bool true) { size := 1, tr := Tr.node (some (AObj.cells (List.map (renV [0]) L) T St.ro [])) Tr.nil Tr.nil }))) := by kernel_rfl
theorem eBB (n c n' c' : Nat) (L M : List Value) (T U : ET) (R : RFun) (Q : Value → AHeap → Prop) :
   startA frV eHint 30 20 49 2 26 eCuts R eB ([slo 0 0 n c, slo 1 0 n' c'] ++ List.replicate 24 undef) (roH2 L T M U) (endGK frV [.tmp 4] 2 [[]] Q)
   = (ifK (!decide ((↑n : Int) = (↑n' : Int))) (Q (Value.bool false) { size := 2, tr := Tr.node (some (AObj.cells (List.map (renV [0, 1]) L) T St.ro [])) (Tr.node (some (AObj.cells (List.map (renV [0, 1]) M) U St.ro [])) Tr.nil Tr.nil) Tr.nil }) (R 0 none [] [Value.slice (some { block := 0, off := 0 }) n c, Value.slice (some { block := 1, off := 0 }) n' c', Value.int IntKind.i64 (↑n : Int), Value.int IntKind.i64 (0 : Int)] { size := 2, tr := Tr.node (some (AObj.cells (List.map (renV [0, 1]) L) T St.ro [])) (Tr.node (some (AObj.cells (List.map (renV [0, 1]) M) U St.ro [])) Tr.nil Tr.nil) Tr.nil })) := by kernel_rfl
theorem eS (n c n' c' m : Nat) (i : Int) (L M : List Value) (T U : ET) (R : RFun) (Q : Value → AHeap → Prop) :
   segA frV eHint 30 20 49 2 26 eCuts R eB eP [] m [0,1,12,13] [slo 0 0 n c, slo 1 0 n' c', vi n, vi i] (roH2 L T M U) (endGK frV [.tmp 4] 2 [[]] Q)
   = (ifK (decide (i < (↑n : Int))) (ifK (decide ((0 : Int) ≤ i ∧ i < (↑n : Int))) (∃ n_1 n_2, LoadIs frV 39 (Value.pointer (some { block := 0, off := 0 + Int.toNat i * 2 })) { size := 2, tr := Tr.node (some (AObj.cells L T St.ro [])) (Tr.node (some (AObj.cells M U St.ro [])) Tr.nil Tr.nil) Tr.nil } (Value.agg { toList := [Value.int IntKind.i64 n_1, Value.int IntKind.i64 n_2] }) ∧ ifK (decide ((0 : Int) ≤ i ∧ i < (↑n' : Int))) (∃ n_3 n_4, LoadIs frV 39 (Value.pointer (some { block := 1, off := 0 + Int.toNat i * 2 })) { size := 2, tr := Tr.node (some (AObj.cells L T St.ro [])) (Tr.node (some (AObj.cells M U St.ro [])) Tr.nil Tr.nil) Tr.nil } (Value.agg { toList := [Value.int IntKind.i64 n_3, Value.int IntKind.i64 n_4] }) ∧ ifK (!(decide (n_1 = n_3) && (decide (n_2 = n_4) && true))) (Q (Value.bool false) { size := 2, tr := Tr.node (some (AObj.cells (List.map (renV [0, 1]) L) T St.ro [])) (Tr.node (some (AObj.cells (List.map (renV [0, 1]) M) U St.ro [])) Tr.nil Tr.nil) Tr.nil }) (R 0 (some m) [] [Value.slice (some { block := 0, off := 0 }) n c, Value.slice (some { block := 1, off := 0 }) n' c', Value.int IntKind.i64 (↑n : Int), Value.int IntKind.i64 (IntKind.wrap IntKind.i64 (i + (1 : Int)))] { size := 2, tr := Tr.node (some (AObj.cells (List.map (renV [0, 1]) L) T St.ro [])) (Tr.node (some (AObj.cells (List.map (renV [0, 1]) M) U St.ro [])) Tr.nil Tr.nil) Tr.nil })) False) False) (Q (Value.bool true) { size := 2, tr := Tr.node (some (AObj.cells (List.map (renV [0, 1]) L) T St.ro [])) (Tr.node (some (AObj.cells (List.map (renV [0, 1]) M) U St.ro [])) Tr.nil Tr.nil) Tr.nil })) := by kernel_rfl
end Go.Ev

/- The summary of slices.Equal of settings. -/
namespace Go.Ev
open Go Go.Proofs Go.RowKit
set_option linter.unusedVariables false
set_option linter.unusedSimpArgs false
set_option maxRecDepth 100000
set_option maxHeartbeats 4000000
def eqSpec : List Value → AHeap → SpR
  | [st, st'], HL =>
    match HL.size, st, st' with
    | 0, .slice none 0 0, .slice none 0 0 => .ret true (.bool true) []
    | 1, .slice none 0 0, .slice (some ⟨0, 0, none⟩) n c => match HL.get 0 with | some (.cells L T .ro []) => .ret (allI64 L) (.bool (decide (n = 0))) [] | _ => .fail
    | 1, .slice (some ⟨0, 0, none⟩) n c, .slice none 0 0 => match HL.get 0 with | some (.cells L T .ro []) => .ret (allI64 L) (.bool (decide (n = 0))) [] | _ => .fail
    | 2, .slice (some ⟨0, 0, none⟩) n c, .slice (some ⟨1, 0, none⟩) n' c' =>
      match HL.get 0, HL.get 1 with
      | some (.cells L T .ro []), some (.cells M U .ro []) => .ret (allI64 L && (allI64 M && (decide (n * 2 ≤ L.length) && (decide (n' * 2 ≤ M.length) && decide (n ≤ 4611686018427387904)))))
          (.bool (decide (n = n') && decide ((intsOf L).take (n * 2) = (intsOf M).take (n * 2)))) []
      | _, _ => .fail
    | _, _, _ => .fail
  | _, _ => .fail
def eqFoot : List Value → AHeap → Option (List Nat)
  | [st, st'], _ =>
    match idV st, idV st' with
    | none, none => some []
    | some b, none => some [b]
    | none, some b => some [b]
    | some a, some b => some [a, b]
  | _, _ => none
theorem body49 : Try.f49.body = some (bodyOf Try.prog 49) := by kernel_rfl
theorem nt49 : Try.f49.ntmps = 26 := by kernel_rfl
theorem rs49 : Try.f49.results.toList = [.tmp 4] := by kernel_rfl
theorem dr49 : allDraw (frV.ok 49) (bodyOf Try.prog 49) = true := by kernel_rfl
theorem lo49 : loopsOn eP eB = 0 := by kernel_rfl
theorem agr2w {H : AHeap} {a b : Nat} {L M : List Value} {T U : ET} (h : (roH (agc [a, b] H)).get 0 = some (.cells L T .ro [])) (h2 : (roH (agc [a, b] H)).get 1 = some (.cells M U .ro [])) : roH (agc [a, b] H) = roH2 L T M U := by
  rw [agr2] at h h2 ⊢
  have h' := Option.some.inj h
  have h2' := Option.some.inj h2
  rw [h', h2']
  rfl
def eI (xs ys : List Int) (n c n' c' : Nat) (T U : ET) (id : Nat) (μ : List Nat) (m : Nat) (vs : List Value) (H : AHeap) : Prop :=
  match id with
  | 0 => ∃ i : Nat, vs = [slo 0 0 n c, slo 1 0 n' c', vi n, vi i] ∧ H = roH2 (xs.map vi) T (ys.map vi) U ∧ i ≤ n ∧ n = n' ∧ xs.take (i * 2) = ys.take (i * 2) ∧ m = n - i
  | _ => False
theorem eSeg {xs ys : List Int} {n c n' c' : Nat} {T U : ET} (hx : n * 2 ≤ xs.length) (hy : n' * 2 ≤ ys.length) (hn : n ≤ 4611686018427387904) (m : Nat) (vs : List Value) (H : AHeap) (hI : eI xs ys n c n' c' T U 0 [] m vs H) :
    Hd (segA frV eHint 30 20 49 2 26 eCuts (ofI (eI xs ys n c n' c' T U)) eB eP [] m [0,1,12,13] vs H (endGK frV [.tmp 4] 2 [[]] (QB (roH2 (xs.map vi) T (ys.map vi) U) (decide (n = n') && decide (xs.take (n * 2) = ys.take (n * 2)))))) := by
  obtain ⟨i, rfl, rfl, hi, rfl, ht, rfl⟩ := hI
  constructor
  rw [eS]
  refine ifK_dec (fun h => ?_) (fun h => ?_)
  · obtain ⟨a, b, a1, a2, a3⟩ := pair_get xs i (by omega)
    obtain ⟨a', b', b1, b2, b3⟩ := pair_get ys i (by omega)
    refine ifK_dec (fun _ => ?_) (fun h' => absurd ⟨by omega, h⟩ h')
    have hl1 : 0 + Int.toNat (i : Int) * 2 = i * 2 := by rw [Int.toNat_natCast]; omega
    rw [hl1]
    refine ⟨a, b, ⟨by rw [aload_agg fvAgg39 rfl (by rw [List.length_map]; omega), a3]⟩, ?_⟩
    refine ifK_dec (fun _ => ?_) (fun h' => absurd ⟨by omega, h⟩ h')
    refine ⟨a', b', ⟨by rw [aload_agg fvAgg39 rfl (by rw [List.length_map]; omega), b3]⟩, ?_⟩
    by_cases hab : a = a' ∧ b = b'
    · obtain ⟨rfl, rfl⟩ := hab
      refine ifK_f (by simp) ?_
      have e : IntKind.wrap IntKind.i64 ((i : Int) + 1) = ((i + 1 : Nat) : Int) := by rw [wr_i64]; omega
      rw [e, vi_ren, vi_ren]
      exact ⟨n - (i + 1), by omega, i + 1, rfl, rfl, by omega, rfl, by rw [take_pair xs i a1 a2, take_pair ys i b1 b2, ht], rfl⟩
    · refine ifK_t (by simp; omega) ⟨?_, ?_⟩
      · have hne : xs.take (n * 2) ≠ ys.take (n * 2) := by
          intro he
          have g1 : (xs.take (n * 2))[i * 2]? = some a := by rw [List.getElem?_take_of_lt (by omega), a1]
          have g2 : (xs.take (n * 2))[i * 2 + 1]? = some b := by rw [List.getElem?_take_of_lt (by omega), a2]
          rw [he, List.getElem?_take_of_lt (by omega)] at g1 g2
          rw [b1] at g1
          rw [b2] at g2
          injection g1 with g1
          injection g2 with g2
          exact hab ⟨g1.symm, g2.symm⟩
        rw [decide_eq_false hne]
        simp
      · rw [vi_ren, vi_ren]; rfl
  · have hin : i = n := by omega
    subst hin
    refine ⟨?_, ?_⟩
    · rw [ht]; simp
    · rw [vi_ren, vi_ren]; rfl
theorem eq_ok : BSumOk frV.P 49 (roS eqFoot eqSpec) := by
  refine sumOk_ro Try.func49 (by kernel_rfl) (by decide) ?_
  rintro args HL v os ⟨H0, args0, d, hd, hargs, rfl⟩ hs ρ w cargs hR hno ha
  unfold eqSpec at hs
  split at hs
  case h_2 => cases hs
  rename_i st st'
  have hsz : (roH (agc d H0)).size = d.length := agc_size d H0
  have done : ∀ (HL : AHeap) (b : Bool), some (true, Value.bool b, ([] : List AObj)) = some (true, v, os) → (Calls Try.prog 49 cargs w fun e w' => ∃ v' H', QB HL b v' H' ∧ Post ρ HL w v' H' e w') → Calls Try.prog 49 cargs w (Post ρ HL w v (pushes HL os)) := by
    intro HL b h1 h2
    cases h1
    refine h2.mono ?_
    rintro e w' ⟨v', H', ⟨rfl, rfl⟩, hp⟩
    exact hp
  split at hs
  · rename_i hz
    have hd0 : d = [] := List.eq_nil_of_length_eq_zero (by omega)
    subst hd0
    refine done AHeap.empty _ hs (calls_cutsG fvT fvF fvS fvM eHint (f := 49) (k := 30) (n := 20) Try.func49 body49 nt49 rs49 dr49 (cuts := []) (I := fun _ _ _ _ _ => False) (rts := [[]]) hR ha ⟨?_⟩ trivial)
    show startA frV eHint 30 20 49 0 26 [] _ eB ([nl, nl] ++ List.replicate 24 undef) AHeap.empty (endGK frV [.tmp 4] 0 [[]] _)
    rw [eNN]
    exact ⟨rfl, rfl⟩
  · rename_i n c hz
    split at hs
    case h_2 => cases hs
    rename_i L T hL
    obtain ⟨a, rfl⟩ : ∃ a, d = [a] := List.length_eq_one_iff.1 (by omega)
    simp only [SpR.get, Option.some.injEq, Prod.mk.injEq] at hs
    obtain ⟨hI, rfl, rfl⟩ := hs
    rw [agr1w hL] at hR ⊢
    have hx := ints_eq hI
    refine done (roH1w L T) _ rfl (calls_cutsG fvT fvF fvS fvM eHint (f := 49) (k := 30) (n := 20) Try.func49 body49 nt49 rs49 dr49 (cuts := []) (I := fun _ _ _ _ _ => False) (rts := [[]]) hR ha ⟨?_⟩ trivial)
    show startA frV eHint 30 20 49 1 26 [] _ eB ([nl, slo 0 0 n c] ++ List.replicate 24 undef) (roH1w L T) (endGK frV [.tmp 4] 1 [[]] _)
    rw [eNB]
    have hr : List.map (renV [0]) L = L := by rw [hx, vi_ren]
    rw [hr]
    by_cases hn : n = 0
    · exact ifK_f (by simp [hn]) ⟨by simp [hn], rfl⟩
    · exact ifK_t (by simp; omega) ⟨by simp [hn], rfl⟩
  · rename_i n c hz
    split at hs
    case h_2 => cases hs
    rename_i L T hL
    obtain ⟨a, rfl⟩ : ∃ a, d = [a] := List.length_eq_one_iff.1 (by omega)
    simp only [SpR.get, Option.some.injEq, Prod.mk.injEq] at hs
    obtain ⟨hI, rfl, rfl⟩ := hs
    rw [agr1w hL] at hR ⊢
    have hx := ints_eq hI
    refine done (roH1w L T) _ rfl (calls_cutsG fvT fvF fvS fvM eHint (f := 49) (k := 30) (n := 20) Try.func49 body49 nt49 rs49 dr49 (cuts := []) (I := fun _ _ _ _ _ => False) (rts := [[]]) hR ha ⟨?_⟩ trivial)
    show startA frV eHint 30 20 49 1 26 [] _ eB ([slo 0 0 n c, nl] ++ List.replicate 24 undef) (roH1w L T) (endGK frV [.tmp 4] 1 [[]] _)
    rw [eBN]
    have hr : List.map (renV [0]) L = L := by rw [hx, vi_ren]
    rw [hr]
    by_cases hn : n = 0
    · exact ifK_f (by simp [hn]) (ifK_f (by simp [hn]) ⟨by simp [hn], rfl⟩)
    · exact ifK_t (by simp; omega) ⟨by simp [hn], rfl⟩
  · rename_i n c n' c' hz
    split at hs
    case h_2 => cases hs
    rename_i L T M U hL hM
    obtain ⟨a, b, rfl⟩ : ∃ a b, d = [a, b] := by
      match d, hz.symm.trans hsz with
      | [a, b], _ => exact ⟨a, b, rfl⟩
    simp only [SpR.get, Option.some.injEq, Prod.mk.injEq, Bool.and_eq_true, decide_eq_true_eq] at hs
    obtain ⟨⟨hI, hJ, hn1, hn2, hn3⟩, rfl, rfl⟩ := hs
    rw [agr2w hL hM] at hR ⊢
    have hx := ints_eq hI
    have hy := ints_eq hJ
    generalize hxs : intsOf L = xs at *
    generalize hys : intsOf M = ys at *
    subst hx hy
    rw [List.length_map] at hn1 hn2
    refine done (roH2 (xs.map vi) T (ys.map vi) U) (decide (n = n') && decide (xs.take (n * 2) = ys.take (n * 2))) rfl (calls_cutsG fvT fvF fvS fvM eHint (f := 49) (k := 30) (n := 20) Try.func49 body49 nt49 rs49 dr49 (cuts := eCuts) (I := eI xs ys n c n' c' T U) (rts := [[]]) hR ha ⟨?_⟩ ⟨⟨?_, trivial⟩, trivial⟩)
    · show startA frV eHint 30 20 49 2 26 eCuts _ eB ([slo 0 0 n c, slo 1 0 n' c'] ++ List.replicate 24 undef) (roH2 (xs.map vi) T (ys.map vi) U) (endGK frV [.tmp 4] 2 [[]] _)
      rw [eBB]
      simp only [vi_ren]
      by_cases hn : n = n'
      · refine ifK_f (by simp [hn]) ?_
        exact ⟨n, trivial, 0, rfl, rfl, by omega, hn, by simp, by omega⟩
      · exact ifK_t (by simp; omega) ⟨by simp [hn], rfl⟩
    · intro ms hms m vs H hi
      obtain rfl := List.eq_nil_of_length_eq_zero (hms.trans lo49)
      exact eSeg hn1 hn2 hn3 m vs H hi
  · cases hs
noncomputable def fqSumms : List (Nat × BSumm) := (41, roS wrFoot wrSpec) :: (49, roS eqFoot eqSpec) :: fwSumms
theorem fqSO : BSumsOk Try.prog fqSumms := ⟨wrt_ok, eq_ok, fwSO⟩
noncomputable def frQ : Env := mkEnvB Try.prog frPlans frExts fun f => look f fqSumms
theorem fqT : frQ.TOk := tOkB_of (by kernel_rfl) frX
theorem fqF : frQ.FOk frQ.ok := fOkB_of (by kernel_rfl)
theorem fqS : frQ.SOk := sOkB_of fqSO
theorem fqM : frQ.P.follows .mixedOrders = true := by kernel_rfl
end Go.Ev

/- alike and heads of frame: what they come to; no condition. -/
namespace Go.Ev
open Go Go.Proofs Go.RowKit
set_option linter.unusedVariables false
set_option maxRecDepth 100000
set_option maxHeartbeats 4000000
noncomputable abbrev alB : Code := bodyOf Try.prog 42
theorem alNN (p q : Pt) (R : RFun) (Q : Value → AHeap → Prop) :
   startA frQ pNoHint 30 20 42 0 61 [] R alB ([ptV p nl, ptV q nl] ++ List.replicate 59 undef) AHeap.empty (endGK frQ [.tmp 4] 0 [[]] Q)
   = (ifK (seq p.1 q.1) (ifK (decide (p.2 = q.2)) (ifK (decide (p.3 = q.3)) (ifK (decide (p.4 = q.4)) (ifK (decide (p.5 = q.5)) (ifK p.6 (ifK q.6 (ifK (decide (p.7 = q.7)) (Q (Value.bool true) { size := 0, tr := Tr.nil }) (Q (Value.bool false) { size := 0, tr := Tr.nil })) (Q (Value.bool false) { size := 0, tr := Tr.nil })) (ifK q.6 (Q (Value.bool false) { size := 0, tr := Tr.nil }) (ifK (decide (p.7 = q.7)) (Q (Value.bool true) { size := 0, tr := Tr.nil }) (Q (Value.bool false) { size := 0, tr := Tr.nil })))) (Q (Value.bool false) { size := 0, tr := Tr.nil })) (Q (Value.bool false) { size := 0, tr := Tr.nil })) (Q (Value.bool false) { size := 0, tr := Tr.nil })) (Q (Value.bool false) { size := 0, tr := Tr.nil })) (Q (Value.bool false) { size := 0, tr := Tr.nil })) := by kernel_rfl
theorem alNB (p q : Pt) (n c : Nat) (L : List Value) (T : ET) (R : RFun) (Q : Value → AHeap → Prop) :
   startA frQ pNoHint 30 20 42 1 61 [] R alB ([ptV p nl, ptV q (slo 0 0 n c)] ++ List.replicate 59 undef) (roH1w L T) (endGK frQ [.tmp 4] 1 [[]] Q)
   = (ifK (allI64 (List.map (renV [0]) L)) (ifK (decide (n = 0)) (ifK (seq p.1 q.1) (ifK (decide (p.2 = q.2)) (ifK (decide (p.3 = q.3)) (ifK (decide (p.4 = q.4)) (ifK (decide (p.5 = q.5)) (ifK p.6 (ifK q.6 (ifK (decide (p.7 = q.7)) (Q (Value.bool true) { size := 1, tr := Tr.node (some (AObj.cells (List.map (renV [0]) L) T St.ro [])) Tr.nil Tr.nil }) (Q (Value.bool false) { size := 1, tr := Tr.node (some (AObj.cells (List.map (renV [0]) L) T St.ro [])) Tr.nil Tr.nil })) (Q (Value.bool false) { size := 1, tr := Tr.node (some (AObj.cells (List.map (renV [0]) L) T St.ro [])) Tr.nil Tr.nil })) (ifK q.6 (Q (Value.bool false) { size := 1, tr := Tr.node (some (AObj.cells (List.map (renV [0]) L) T St.ro [])) Tr.nil Tr.nil }) (ifK (decide (p.7 = q.7)) (Q (Value.bool true) { size := 1, tr := Tr.node (some (AObj.cells (List.map (renV [0]) L) T St.ro [])) Tr.nil Tr.nil }) (Q (Value.bool false) { size := 1, tr := Tr.node (some (AObj.cells (List.map (renV [0]) L) T St.ro [])) Tr.nil Tr.nil })))) (Q (Value.bool false) { size := 1, tr := Tr.node (some (AObj.cells (List.map (renV [0]) L) T St.ro [])) Tr.nil Tr.nil })) (Q (Value.bool false) { size := 1, tr := Tr.node (some (AObj.cells (List.map (renV [0]) L) T St.ro [])) Tr.nil Tr.nil })) (Q (Value.bool false) { size := 1, tr := Tr.node (some (AObj.cells (List.map (renV [0]) L) T St.ro [])) Tr.nil Tr.nil })) (Q (Value.bool false) { size := 1, tr := Tr.node (some (AObj.cells (List.map (renV [0]) L) T St.ro [])) Tr.nil Tr.nil })) (Q (Value.bool false) { size := 1, tr := Tr.node (some (AObj.cells (List.map (renV [0]) L) T St.ro [])) Tr.nil Tr.nil })) (Q (Value.bool false) { size := 1, tr := Tr.node (some (AObj.cells (List.map (renV [0]) L) T St.ro [])) Tr.nil Tr.nil })) False) := by kernel_rfl
theorem alBN (p q : Pt) (n c : Nat) (L : List Value) (T : ET) (R : RFun) (Q : Value → AHeap → Prop) :
   startA frQ pNoHint 30 20 42 1 61 [] R alB ([ptV p (slo 0 0 n c), ptV q nl] ++ List.replicate 59 undef) (roH1w L T) (endGK frQ [.tmp 4] 1 [[]] Q)
   = (ifK (allI64 (List.map (renV [0]) L)) (ifK (decide (n = 0)) (ifK (seq p.1 q.1) (ifK (decide (p.2 = q.2)) (ifK (decide (p.3 = q.3)) (ifK (decide (p.4 = q.4)) (ifK (decide (p.5 = q.5)) (ifK p.6 (ifK q.6 (ifK (decide (p.7 = q.7)) (Q (Value.bool true) { size := 1, tr := Tr.node (some (AObj.cells (List.map (renV [0]) L) T St.ro [])) Tr.nil Tr.nil }) (Q (Value.bool false) { size := 1, tr := Tr.node (some (AObj.cells (List.map (renV [0]) L) T St.ro [])) Tr.nil Tr.nil })) (Q (Value.bool false) { size := 1, tr := Tr.node (some (AObj.cells (List.map (renV [0]) L) T St.ro [])) Tr.nil Tr.nil })) (ifK q.6 (Q (Value.bool false) { size := 1, tr := Tr.node (some (AObj.cells (List.map (renV [0]) L) T St.ro [])) Tr.nil Tr.nil }) (ifK (decide (p.7 = q.7)) (Q (Value.bool true) { size := 1, tr := Tr.node (some (AObj.cells (List.map (renV [0]) L) T St.ro [])) Tr.nil Tr.nil }) (Q (Value.bool false) { size := 1, tr := Tr.node (some (AObj.cells (List.map (renV [0]) L) T St.ro [])) Tr.nil Tr.nil })))) (Q (Value.bool false) { size := 1, tr := Tr.node (some (AObj.cells (List.map (renV [0]) L) T St.ro [])) Tr.nil Tr.nil })) (Q (Value.bool false) { size := 1, tr := Tr.node (some (AObj.cells (List.map (renV [0]) L) T St.ro [])) Tr.nil Tr.nil })) (Q (Value.bool false) { size := 1, tr := Tr.node (some (AObj.cells (List.map (renV [0]) L) T St.ro [])) Tr.nil Tr.nil })) (Q (Value.bool false) { size := 1, tr := Tr.node (some (AObj.cells (List.map (renV [0]) L) T St.ro [])) Tr.nil Tr.nil })) (Q (Value.bool false) { size := 1, tr := Tr.node (some (AObj.cells (List.map (renV [0]) L) T St.ro [])) Tr.nil Tr.nil })) (Q (Value.bool false) { size := 1, tr := Tr.node (some (AObj.cells (List.map (renV [0]) L) T St.ro [])) Tr.nil Tr.nil })) False) := by kernel_rfl
theorem alBB (p q : Pt) (n c n' c' : Nat) (L M : List Value) (T U : ET) (R : RFun) (Q : Value → AHeap → Prop) :
   startA frQ pNoHint 30 20 42 2 61 [] R alB ([ptV p (slo 0 0 n c), ptV q (slo 1 0 n' c')] ++ List.replicate 59 undef) (roH2 L T M U) (endGK frQ [.tmp 4] 2 [[]] Q)
   = (ifK (allI64 (List.map (renV [0, 1]) L) && (allI64 (List.map (renV [0, 1]) M) && (decide (n * 2 ≤ List.length (List.map (renV [0, 1]) L)) && (decide (n' * 2 ≤ List.length (List.map (renV [0, 1]) M)) && decide (n ≤ 4611686018427387904))))) (ifK (decide (n = n') && decide (List.take (n * 2) (intsOf (List.map (renV [0, 1]) L)) = List.take (n * 2) (intsOf (List.map (renV [0, 1]) M)))) (ifK (seq p.1 q.1) (ifK (decide (p.2 = q.2)) (ifK (decide (p.3 = q.3)) (ifK (decide (p.4 = q.4)) (ifK (decide (p.5 = q.5)) (ifK p.6 (ifK q.6 (ifK (decide (p.7 = q.7)) (Q (Value.bool true) { size := 2, tr := Tr.node (some (AObj.cells (List.map (renV [0, 1]) L) T St.ro [])) (Tr.node (some (AObj.cells (List.map (renV [0, 1]) M) U St.ro [])) Tr.nil Tr.nil) Tr.nil }) (Q (Value.bool false) { size := 2, tr := Tr.node (some (AObj.cells (List.map (renV [0, 1]) L) T St.ro [])) (Tr.node (some (AObj.cells (List.map (renV [0, 1]) M) U St.ro [])) Tr.nil Tr.nil) Tr.nil })) (Q (Value.bool false) { size := 2, tr := Tr.node (some (AObj.cells (List.map (renV [0, 1]) L) T St.ro [])) (Tr.node (some (AObj.cells (List.map (renV [0, 1]) M) U St.ro [])) Tr.nil Tr.nil) Tr.nil })) (ifK q.6 (Q (Value.bool false) { size := 2, tr := Tr.node (some (AObj.cells (List.map (renV [0, 1]) L) T St.ro [])) (Tr.node (some (AObj.cells (List.map (renV [0, 1]) M) U St.ro [])) Tr.nil Tr.nil) Tr.nil }) (ifK (decide (p.7 = q.7)) (Q (Value.bool true) { size := 2, tr := Tr.node (some (AObj.cells (List.map (renV [0, 1]) L) T St.ro [])) (Tr.node (some (AObj.cells (List.map (renV [0, 1]) M) U St.ro [])) Tr.nil Tr.nil) Tr.nil }) (Q (Value.bool false) { size := 2, tr := Tr.node (some (AObj.cells (List.map (renV [0, 1]) L) T St.ro [])) (Tr.node (some (AObj.cells (List.map (renV [0, 1]) M) U St.ro [])) Tr.nil Tr.nil) Tr.nil })))) (Q (Value.bool false) { size := 2, tr := Tr.node (some (AObj.cells (List.map (renV [0, 1]) L) T St.ro [])) (Tr.node (some (AObj.cells (List.map (renV [0, 1]) M) U St.ro [])) Tr.nil Tr.nil) Tr.nil })) (Q (Value.bool false) { size := 2, tr := Tr.node (some (AObj.cells (List.map (renV [0, 1]) L) T St.ro [])) (Tr.node (some (AObj.cells (List.map (renV [0, 1]) M) U St.ro [])) Tr.nil Tr.nil) Tr.nil })) (Q (Value.bool false) { size := 2, tr := Tr.node (some (AObj.cells (List.map (renV [0, 1]) L) T St.ro [])) (Tr.node (some (AObj.cells (List.map (renV [0, 1]) M) U St.ro [])) Tr.nil Tr.nil) Tr.nil })) (Q (Value.bool false) { size := 2, tr := Tr.node (some (AObj.cells (List.map (renV [0, 1]) L) T St.ro [])) (Tr.node (some (AObj.cells (List.map (renV [0, 1]) M) U St.ro [])) Tr.nil Tr.nil) Tr.nil })) (Q (Value.bool false) { size := 2, tr := Tr.node (some (AObj.cells (List.map (renV [0, 1]) L) T St.ro [])) (Tr.node (some (AObj.cells (List.map (renV [0, 1]) M) U St.ro [])) Tr.nil Tr.nil) Tr.nil })) (Q (Value.bool false) { size := 2, tr := Tr.node (some (AObj.cells (List.map (renV [0, 1]) L) T St.ro [])) (Tr.node (some (AObj.cells (List.map (renV [0, 1]) M) U St.ro [])) Tr.nil Tr.nil) Tr.nil })) False) := by kernel_rfl
theorem resHd (k fl st : Int) (K : Value → Prop) :
   evalK frB (fun _ _ => none) 30 40 [vi k, vi fl, vi st] AHeap.empty (fun v _ => K v)
   = (ifK (decide ((0 : Int) ≤ if st < if fl < k then fl else k then st else if fl < k then fl else k)) (ifK (decide ((if fl > k then fl else k) ≤ (255 : Int))) (ifK (decide (st ≤ (2147483647 : Int))) (K (Value.bool true)) (K (Value.bool false))) (K (Value.bool false))) (K (Value.bool false))) := by kernel_rfl
end Go.Ev

/- The summaries of alike and heads of frame. -/
namespace Go.Ev
open Go Go.Proofs Go.RowKit
set_option linter.unusedVariables false
set_option linter.unusedSimpArgs false
set_option maxRecDepth 100000
set_option maxHeartbeats 4000000
def hdS (k fl st : Int) : Bool := decide (0 ≤ k ∧ k ≤ 255 ∧ 0 ≤ fl ∧ fl ≤ 255 ∧ 0 ≤ st ∧ st ≤ 2147483647)
def hdG : List Value → Option (Bool × Value)
  | [.int .i64 k, .int .i64 fl, .int .i64 st] => some (true, .bool (hdS k fl st))
  | _ => none
theorem hd_ok : SumOk frB.P 40 (pureS hdG) := by
  refine sumOk_evalK fbT fbF fbS fbM (fun _ _ => none) 30 Try.func40 (by kernel_rfl) (by decide) fun args v hg => ?_
  unfold hdG at hg
  split at hg
  case h_2 => cases hg
  rename_i k fl st
  simp only [Option.some.injEq, Prod.mk.injEq, true_and] at hg
  subst hg
  refine ⟨rfl, rfl, ?_⟩
  refine (resHd k fl st _).mpr ?_
  have t : ∀ b : Bool, hdS k fl st = b → Value.bool b = Value.bool (hdS k fl st) := fun b h => by rw [h]
  refine ifK_dec (fun h1 => ?_) (fun h1 => t _ ?_)
  · refine ifK_dec (fun h2 => ?_) (fun h2 => t _ ?_)
    · refine ifK_dec (fun h3 => t _ ?_) (fun h3 => t _ ?_)
      · unfold hdS; rw [decide_eq_true_eq]
        repeat' split at h1
        all_goals split at h2
        all_goals omega
      · unfold hdS; rw [decide_eq_false_iff_not]; omega
    · unfold hdS; rw [decide_eq_false_iff_not]; split at h2 <;> omega
  · unfold hdS; rw [decide_eq_false_iff_not]
    repeat' split at h1
    all_goals omega
theorem alTree {p q : Pt} {F T : Prop} (hF : ptEq p q = false → F) (hT : ptEq p q = true → T) :
    ifK (seq p.1 q.1) (ifK (decide (p.2 = q.2)) (ifK (decide (p.3 = q.3)) (ifK (decide (p.4 = q.4)) (ifK (decide (p.5 = q.5)) (ifK p.6 (ifK q.6 (ifK (decide (p.7 = q.7)) T F) F) (ifK q.6 F (ifK (decide (p.7 = q.7)) T F))) F) F) F) F) F := by
  cases h1 : seq p.d q.d with
  | false => exact ifK_f rfl (hF (by simp [ptEq, h1]))
  | true =>
  refine ifK_t rfl ?_
  refine ifK_dec (fun h2 => ?_) (fun h2 => hF (by simp [ptEq, h2]))
  refine ifK_dec (fun h3 => ?_) (fun h3 => hF (by simp [ptEq, h3]))
  refine ifK_dec (fun h4 => ?_) (fun h4 => hF (by simp [ptEq, h4]))
  refine ifK_dec (fun h5 => ?_) (fun h5 => hF (by simp [ptEq, h5]))
  have lst : (p.only = q.only) → ifK (decide (p.7 = q.7)) T F := fun h6 => ifK_dec (fun h7 => hT (by simp [ptEq, h1, h2, h3, h4, h5, h6, h7])) (fun h7 => hF (by simp [ptEq, h7]))
  cases h6 : p.only with
  | true =>
    cases h8 : q.only with
    | true => exact ifK_t rfl (ifK_t rfl (lst (by rw [h6, h8])))
    | false => exact ifK_t rfl (ifK_f rfl (hF (by simp [ptEq, h6, h8])))
  | false =>
    cases h8 : q.only with
    | true => exact ifK_f rfl (ifK_t rfl (hF (by simp [ptEq, h6, h8])))
    | false => exact ifK_f rfl (ifK_f rfl (lst (by rw [h6, h8])))
theorem body42 : Try.f42.body = some (bodyOf Try.prog 42) := by kernel_rfl
theorem nt42 : Try.f42.ntmps = 61 := by kernel_rfl
theorem rs42 : Try.f42.results.toList = [.tmp 4] := by kernel_rfl
theorem dr42 : allDraw (frQ.ok 42) (bodyOf Try.prog 42) = true := by kernel_rfl
theorem al_ok : BSumOk frQ.P 42 (roS sameFoot sameSpec) := by
  refine sumOk_ro Try.func42 (by kernel_rfl) (by decide) ?_
  rintro args HL v os ⟨H0, args0, d, hd, hargs, rfl⟩ hs ρ w cargs hR hno ha
  unfold sameSpec at hs
  split at hs
  case h_2 => cases hs
  rename_i s pad code last weight only more st s' pad' code' last' weight' only' more' st'
  have hsz : (roH (agc d H0)).size = d.length := agc_size d H0
  have ha' : LRel ρ [ptV ⟨s, pad, code, last, weight, only, more⟩ st, ptV ⟨s', pad', code', last', weight', only', more'⟩ st'] cargs.toList := ha
  generalize hp : (⟨s, pad, code, last, weight, only, more⟩ : Pt) = p at *
  generalize hq : (⟨s', pad', code', last', weight', only', more'⟩ : Pt) = q at *
  have done : ∀ (HL : AHeap) (b : Bool), some (true, Value.bool b, ([] : List AObj)) = some (true, v, os) → (Calls Try.prog 42 cargs w fun e w' => ∃ v' H', QB HL b v' H' ∧ Post ρ HL w v' H' e w') → Calls Try.prog 42 cargs w (Post ρ HL w v (pushes HL os)) := by
    intro HL b h1 h2
    cases h1
    refine h2.mono ?_
    rintro e w' ⟨v', H', ⟨rfl, rfl⟩, hp⟩
    exact hp
  split at hs
  · rename_i hz
    have hd0 : d = [] := List.eq_nil_of_length_eq_zero (by omega)
    subst hd0
    refine done AHeap.empty _ hs (calls_cutsG fqT fqF fqS fqM pNoHint (f := 42) (k := 30) (n := 20) Try.func42 body42 nt42 rs42 dr42 (cuts := []) (I := fun _ _ _ _ _ => False) (rts := [[]]) hR ha' ⟨?_⟩ trivial)
    show startA frQ pNoHint 30 20 42 0 61 [] _ alB ([ptV p nl, ptV q nl] ++ List.replicate 59 undef) AHeap.empty (endGK frQ [.tmp 4] 0 [[]] _)
    rw [alNN]
    exact alTree (fun h => ⟨by rw [h], rfl⟩) (fun h => ⟨by rw [h], rfl⟩)
  · rename_i n c hz
    split at hs
    case h_2 => cases hs
    rename_i L T hL
    obtain ⟨a, rfl⟩ : ∃ a, d = [a] := List.length_eq_one_iff.1 (by omega)
    simp only [SpR.get, Option.some.injEq, Prod.mk.injEq] at hs
    obtain ⟨hI, rfl, rfl⟩ := hs
    rw [agr1w hL] at hR ⊢
    have hx := ints_eq hI
    refine done (roH1w L T) _ rfl (calls_cutsG fqT fqF fqS fqM pNoHint (f := 42) (k := 30) (n := 20) Try.func42 body42 nt42 rs42 dr42 (cuts := []) (I := fun _ _ _ _ _ => False) (rts := [[]]) hR ha' ⟨?_⟩ trivial)
    show startA frQ pNoHint 30 20 42 1 61 [] _ alB ([ptV p nl, ptV q (slo 0 0 n c)] ++ List.replicate 59 undef) (roH1w L T) (endGK frQ [.tmp 4] 1 [[]] _)
    rw [alNB]
    have hr : List.map (renV [0]) L = L := by rw [hx, vi_ren]
    rw [hr]
    refine ifK_t hI (ifK_dec (fun hn => alTree (fun h => ⟨?_, rfl⟩) (fun h => ⟨?_, rfl⟩)) (fun hn => ?_))
    · simp [h]
    · simp [h, hn]
    · refine ?_
      first
      | exact ⟨by simp [hn], rfl⟩
      | (exact alTree (fun h => ⟨by simp [hn], rfl⟩) (fun h => ⟨by simp [hn], rfl⟩))
  · rename_i n c hz
    split at hs
    case h_2 => cases hs
    rename_i L T hL
    obtain ⟨a, rfl⟩ : ∃ a, d = [a] := List.length_eq_one_iff.1 (by omega)
    simp only [SpR.get, Option.some.injEq, Prod.mk.injEq] at hs
    obtain ⟨hI, rfl, rfl⟩ := hs
    rw [agr1w hL] at hR ⊢
    have hx := ints_eq hI
    refine done (roH1w L T) _ rfl (calls_cutsG fqT fqF fqS fqM pNoHint (f := 42) (k := 30) (n := 20) Try.func42 body42 nt42 rs42 dr42 (cuts := []) (I := fun _ _ _ _ _ => False) (rts := [[]]) hR ha' ⟨?_⟩ trivial)
    show startA frQ pNoHint 30 20 42 1 61 [] _ alB ([ptV p (slo 0 0 n c), ptV q nl] ++ List.replicate 59 undef) (roH1w L T) (endGK frQ [.tmp 4] 1 [[]] _)
    rw [alBN]
    have hr : List.map (renV [0]) L = L := by rw [hx, vi_ren]
    rw [hr]
    refine ifK_t hI (ifK_dec (fun hn => alTree (fun h => ⟨?_, rfl⟩) (fun h => ⟨?_, rfl⟩)) (fun hn => ?_))
    · simp [h]
    · simp [h, hn]
    · refine ?_
      first
      | exact ⟨by simp [hn], rfl⟩
      | (exact alTree (fun h => ⟨by simp [hn], rfl⟩) (fun h => ⟨by simp [hn], rfl⟩))
  · rename_i n c n' c' hz
    split at hs
    case h_2 => cases hs
    rename_i L T M U hL hM
    obtain ⟨a, b, rfl⟩ : ∃ a b, d = [a, b] := by
      match d, hz.symm.trans hsz with
      | [a, b], _ => exact ⟨a, b, rfl⟩
    simp only [SpR.get, Option.some.injEq, Prod.mk.injEq] at hs
    obtain ⟨hcond, rfl, rfl⟩ := hs
    have hcond' := hcond
    simp only [Bool.and_eq_true, decide_eq_true_eq] at hcond'
    obtain ⟨hI, hJ, hn1, hn2, hn3⟩ := hcond'
    rw [agr2w hL hM] at hR ⊢
    have hx := ints_eq hI
    have hy := ints_eq hJ
    have hr : List.map (renV [0, 1]) L = L := by rw [hx, vi_ren]
    have hr' : List.map (renV [0, 1]) M = M := by rw [hy, vi_ren]
    refine done (roH2 L T M U) _ rfl (calls_cutsG fqT fqF fqS fqM pNoHint (f := 42) (k := 30) (n := 20) Try.func42 body42 nt42 rs42 dr42 (cuts := []) (I := fun _ _ _ _ _ => False) (rts := [[]]) hR ha' ⟨?_⟩ trivial)
    show startA frQ pNoHint 30 20 42 2 61 [] _ alB ([ptV p (slo 0 0 n c), ptV q (slo 1 0 n' c')] ++ List.replicate 59 undef) (roH2 L T M U) (endGK frQ [.tmp 4] 2 [[]] _)
    rw [alBB, hr, hr']
    refine ifK_t hcond ?_
    cases hb : (decide (n = n') && decide (List.take (n * 2) (intsOf L) = List.take (n * 2) (intsOf M))) with
    | true => exact ifK_t rfl (alTree (fun h => ⟨by rw [h]; rfl, rfl⟩) (fun h => ⟨by rw [h]; rfl, rfl⟩))
    | false => exact ifK_f rfl ⟨by rw [Bool.and_false], rfl⟩
  · cases hs
noncomputable def fkSumms : List (Nat × BSumm) := (42, roS sameFoot sameSpec) :: (40, liftS (pureS hdG)) :: fqSumms
theorem fkSO : BSumsOk Try.prog fkSumms := ⟨al_ok, hd_ok.lift, fqSO⟩
noncomputable def frK : Env := mkEnvB Try.prog frPlans frExts fun f => look f fkSumms
theorem fkT : frK.TOk := tOkB_of (by kernel_rfl) frX
theorem fkF : frK.FOk frK.ok := fOkB_of (by kernel_rfl)
theorem fkS : frK.SOk := sOkB_of fkSO
theorem fkM : frK.P.follows .mixedOrders = true := by kernel_rfl
end Go.Ev
