/- What the document's payload is: its summary, kind by kind. -/
import Derived.Test.YtjhidbadbdhcmaaFrMn
namespace Go.Ev
open Go Go.Proofs Go.RowKit
set_option linter.unusedVariables false
set_option linter.unusedSimpArgs false
set_option maxRecDepth 100000
set_option maxHeartbeats 4000000
abbrev mx (x : Int) : Int := if (0 : Int) > x then (0 : Int) else x
abbrev fiveP (p : Pt) : Prop := 0 ≤ p.last ∧ p.last ≤ 2147483647 ∧ 1 ≤ p.weight ∧ p.weight ≤ 256
def fiveT (p : Pt) : ByteArray := wtS (if p.only = true then IntKind.wrap IntKind.i64 (IntKind.wrap IntKind.i64 (p.last + (2147483647 : Int)) + (1 : Int)) else p.last) 4 ++ wtS (IntKind.wrap IntKind.i64 (p.weight - (1 : Int))) 1
def zer (x : Int) : List Value := List.take (Int.toNat x) (List.drop 0 (azeros [Value.int IntKind.u8 (0 : Int)] (Int.toNat x)))
def padT (p : Pt) : ByteArray := wtS (IntKind.wrap IntKind.i64 (p.pad - (1 : Int))) 1 ++ p.d ++ (⟨⟨bytesFrom (zer (IntKind.wrap IntKind.i64 (p.pad - (1 : Int))))⟩⟩ : ByteArray)
abbrev nob : ByteArray := ⟨#[]⟩
def paS (k fl : Int) (p : Pt) (S : ByteArray) (o : Bool) : ByteArray :=
  if k = 0 then (if fl / 8 % 2 = 0 then p.d else if 1 ≤ p.pad ∧ p.pad ≤ 256 then padT p else nob) else
  if k = 1 then (if fl / 32 % 2 = 0 then p.d else (if fiveP p then fiveT p else nob) ++ p.d) else
  if k = 2 then (if fiveP p then fiveT p else nob) else
  if k = 3 then wtS (mx p.code) 4 else
  if k = 4 then (if o = true then S else nob) else
  if k = 6 then p.d else
  if k = 7 then wtS (mx p.last) 4 ++ wtS (mx p.code) 4 ++ p.d else
  if k = 8 then wtS (mx p.more) 4 else
  if k = 9 then p.d else
  if k = 16 then wtS (mx p.last) 4 ++ p.d else nob
def paB (k fl : Int) (p : Pt) (o : Bool) : Bool :=
  if k = 0 then decide (fl / 8 % 2 = 0 ∨ 1 ≤ p.pad ∧ p.pad ≤ 256) else
  if k = 1 then decide (fl / 8 % 2 = 0 ∧ (fl / 32 % 2 = 0 ∨ fiveP p)) else
  if k = 2 then decide (fiveP p) else
  if k = 3 then fiS p.code 4 else
  if k = 4 then o else
  if k = 6 then true else
  if k = 7 then fiS p.last 4 && fiS p.code 4 else
  if k = 8 then fiS p.more 4 else
  if k = 9 then true else
  if k = 16 then fiS p.last 4 else false
theorem wt1_size (n : Int) : (wtS n 1).size = 1 := rfl
theorem wt2_size (n : Int) : (wtS n 2).size = 2 := rfl
theorem wt4_size (n : Int) : (wtS n 4).size = 4 := rfl
theorem e_size : (⟨#[]⟩ : ByteArray).size = 0 := rfl
theorem fiS4 (n : Int) : fiS n 4 = decide (0 ≤ n ∧ n < 4294967296) := by unfold fiS; rw [if_neg (by decide)]
theorem fiS2 (n : Int) : fiS n 2 = decide (0 ≤ n ∧ n < 65536) := by unfold fiS; rw [if_pos rfl]
theorem tq8 {fl : Int} (h : 0 ≤ fl ∧ fl ≤ 255) : Int.tmod (IntKind.wrap IntKind.i64 (Int.tdiv fl 8)) 2 = fl / 8 % 2 := by
  rw [Int.tdiv_eq_ediv_of_nonneg h.1, wr_small (by omega) (by omega), Int.tmod_eq_emod_of_nonneg (by omega)]
theorem tq32 {fl : Int} (h : 0 ≤ fl ∧ fl ≤ 255) : Int.tmod (IntKind.wrap IntKind.i64 (Int.tdiv fl 32)) 2 = fl / 32 % 2 := by
  rw [Int.tdiv_eq_ediv_of_nonneg h.1, wr_small (by omega) (by omega), Int.tmod_eq_emod_of_nonneg (by omega)]
theorem az_rep (n : Nat) : azeros [Value.int IntKind.u8 (0 : Int)] n = List.replicate n (Value.int IntKind.u8 (0 : Int)) := by
  induction n with
  | zero => rfl
  | succ n ih => rw [azeros, ih]; rfl
theorem zer_eq (x : Int) : zer x = List.replicate x.toNat (Value.int IntKind.u8 (0 : Int)) := by
  unfold zer
  rw [az_rep, List.drop_zero, List.take_of_length_le (by rw [List.length_replicate]; exact Nat.le_refl _)]
theorem u8s_rep (n : Nat) : u8s (List.replicate n (Value.int IntKind.u8 (0 : Int))) = true := by
  induction n with
  | zero => rfl
  | succ n ih => exact ih
theorem bf_rep (n : Nat) : bytesFrom (List.replicate n (Value.int IntKind.u8 (0 : Int))) = List.replicate n 0 := by
  induction n with
  | zero => rfl
  | succ n ih => show UInt8.ofNat _ :: bytesFrom _ = _; rw [ih]; rfl
theorem leq_rep (n : Nat) : leq veq0 (List.replicate n (Value.int IntKind.u8 (0 : Int))) (List.replicate n (Value.int IntKind.u8 (0 : Int))) = true := by
  induction n with
  | zero => rfl
  | succ n ih => show (veq0 _ _ && leq veq0 _ _) = true; rw [ih]; decide
theorem paS_0 (fl : Int) (p : Pt) (S : ByteArray) (o : Bool) : paS 0 fl p S o = (if fl / 8 % 2 = 0 then p.d else if 1 ≤ p.pad ∧ p.pad ≤ 256 then padT p else nob) := by unfold paS; simp
theorem paB_0 (fl : Int) (p : Pt) (o : Bool) : paB 0 fl p o = (decide (fl / 8 % 2 = 0 ∨ 1 ≤ p.pad ∧ p.pad ≤ 256)) := by unfold paB; simp
theorem paS_1 (fl : Int) (p : Pt) (S : ByteArray) (o : Bool) : paS 1 fl p S o = (if fl / 32 % 2 = 0 then p.d else (if fiveP p then fiveT p else nob) ++ p.d) := by unfold paS; simp
theorem paB_1 (fl : Int) (p : Pt) (o : Bool) : paB 1 fl p o = (decide (fl / 8 % 2 = 0 ∧ (fl / 32 % 2 = 0 ∨ fiveP p))) := by unfold paB; simp
theorem paS_2 (fl : Int) (p : Pt) (S : ByteArray) (o : Bool) : paS 2 fl p S o = (if fiveP p then fiveT p else nob) := by unfold paS; simp
theorem paB_2 (fl : Int) (p : Pt) (o : Bool) : paB 2 fl p o = (decide (fiveP p)) := by unfold paB; simp
theorem paS_3 (fl : Int) (p : Pt) (S : ByteArray) (o : Bool) : paS 3 fl p S o = (wtS (mx p.code) 4) := by unfold paS; simp
theorem paB_3 (fl : Int) (p : Pt) (o : Bool) : paB 3 fl p o = (fiS p.code 4) := by unfold paB; simp
theorem paS_4 (fl : Int) (p : Pt) (S : ByteArray) (o : Bool) : paS 4 fl p S o = (if o = true then S else nob) := by unfold paS; simp
theorem paB_4 (fl : Int) (p : Pt) (o : Bool) : paB 4 fl p o = (o) := by unfold paB; simp
theorem paS_6 (fl : Int) (p : Pt) (S : ByteArray) (o : Bool) : paS 6 fl p S o = (p.d) := by unfold paS; simp
theorem paB_6 (fl : Int) (p : Pt) (o : Bool) : paB 6 fl p o = (true) := by unfold paB; simp
theorem paS_7 (fl : Int) (p : Pt) (S : ByteArray) (o : Bool) : paS 7 fl p S o = (wtS (mx p.last) 4 ++ wtS (mx p.code) 4 ++ p.d) := by unfold paS; simp
theorem paB_7 (fl : Int) (p : Pt) (o : Bool) : paB 7 fl p o = (fiS p.last 4 && fiS p.code 4) := by unfold paB; simp
theorem paS_8 (fl : Int) (p : Pt) (S : ByteArray) (o : Bool) : paS 8 fl p S o = (wtS (mx p.more) 4) := by unfold paS; simp
theorem paB_8 (fl : Int) (p : Pt) (o : Bool) : paB 8 fl p o = (fiS p.more 4) := by unfold paB; simp
theorem paS_9 (fl : Int) (p : Pt) (S : ByteArray) (o : Bool) : paS 9 fl p S o = (p.d) := by unfold paS; simp
theorem paB_9 (fl : Int) (p : Pt) (o : Bool) : paB 9 fl p o = (true) := by unfold paB; simp
theorem paS_16 (fl : Int) (p : Pt) (S : ByteArray) (o : Bool) : paS 16 fl p S o = (wtS (mx p.last) 4 ++ p.d) := by unfold paS; simp
theorem paB_16 (fl : Int) (p : Pt) (o : Bool) : paB 16 fl p o = (fiS p.last 4) := by unfold paB; simp
abbrev YQ (k fl : Int) (p : Pt) (S : ByteArray) (o : Bool) (HL : AHeap) (v : Value) (H : AHeap) : Prop := v = .tuple #[.string (paS k fl p S o), .bool (paB k fl p o)] ∧ H = HL
theorem yq_mk {k fl : Int} {p : Pt} {S : ByteArray} {o : Bool} {HL : AHeap} {A : ByteArray} {B : Bool} (h1 : A = paS k fl p S o) (h2 : B = paB k fl p o) : YQ k fl p S o HL (Value.tuple #[.string A, .bool B]) HL := ⟨by rw [h1, h2], rfl⟩
theorem y0h (fl : Int) (p : Pt) (S : ByteArray) (o : Bool) (R : RFun) (hf : 0 ≤ fl ∧ fl ≤ 255) (hd : p.d.size ≤ 1000000000000) (hq : p.code < 9223372036854775808 ∧ p.last < 9223372036854775808 ∧ p.more < 9223372036854775808) : Hd (startA frH y0Hint 30 20 43 0 169 [] R yB ([vi 0, vi fl, ptV p nl] ++ List.replicate 166 undef) AHeap.empty (endGK frH [.tmp 6, .tmp 7] 0 [[]] (YQ 0 fl p S o AHeap.empty))) := by
  constructor
  rw [y0]
  rw [tq8 hf]
  refine ifK_dec (fun h8 => yq_mk (by rw [paS_0, if_pos h8]) (by rw [paB_0, decide_eq_true (.inl h8)])) (fun h8 => ?_)
  refine ifK_dec (fun h1 => yq_mk (by rw [paS_0, if_neg h8, if_neg (by omega)]) (by rw [paB_0, decide_eq_false (by omega)])) (fun h1 => ?_)
  refine ifK_dec (fun h2 => yq_mk (by rw [paS_0, if_neg h8, if_neg (by omega)]) (by rw [paB_0, decide_eq_false (by omega)])) (fun h2 => ?_)
  have hw : IntKind.wrap IntKind.i64 (p.2 - 1) = p.2 - 1 := wr_small (by omega) (by omega)
  have hz : List.take (Int.toNat (IntKind.wrap IntKind.i64 (p.2 - (1 : Int)))) (List.drop 0 (azeros [Value.int IntKind.u8 (0 : Int)] (Int.toNat (IntKind.wrap IntKind.i64 (p.2 - (1 : Int)))))) = zer (IntKind.wrap IntKind.i64 (p.2 - (1 : Int))) := rfl
  have hu : u8s (zer (IntKind.wrap IntKind.i64 (p.2 - (1 : Int)))) = true := by rw [zer_eq]; exact u8s_rep _
  have hl : (azeros [Value.int IntKind.u8 (0 : Int)] (Int.toNat (IntKind.wrap IntKind.i64 (p.2 - (1 : Int))))).length = Int.toNat (IntKind.wrap IntKind.i64 (p.2 - (1 : Int))) := by rw [az_rep, List.length_replicate]
  have hqz : leq veq0 (azeros [Value.int IntKind.u8 (0 : Int)] (Int.toNat (IntKind.wrap IntKind.i64 (p.2 - (1 : Int))))) (azeros [Value.int IntKind.u8 (0 : Int)] (Int.toNat (IntKind.wrap IntKind.i64 (p.2 - (1 : Int))))) = true := by rw [az_rep]; exact leq_rep _
  have hb : (⟨⟨bytesFrom (zer (IntKind.wrap IntKind.i64 (p.2 - (1 : Int))))⟩⟩ : ByteArray).size ≤ 256 := by
    rw [zer_eq, bf_rep]
    show (List.replicate _ (0 : UInt8)).length ≤ 256
    rw [List.length_replicate]; omega
  have leaf : YQ 0 fl p S o AHeap.empty (Value.tuple #[.string (padT p), .bool true]) AHeap.empty := yq_mk (by rw [paS_0, if_neg h8, if_pos (by omega)]) (by rw [paB_0, decide_eq_true (by omega)])
  simp only [hz, hu, hl, hqz, Nat.zero_add, Nat.le_refl, decide_true, Bool.and_self, true_and]
  repeat' first
    | exact leaf
    | with_reducible refine ifK_t rfl ?_
    | (with_reducible refine ifK_dec (fun _ => ?_) (fun h => ?_))
  all_goals (exfalso; first | exact h ⟨by omega, by omega, .inl trivial⟩ | ((try simp only [ap_size, wt1_size] at *); omega))
theorem z0h (fl : Int) (p : Pt) (n c : Nat) (xs : List Int) (T : ET) (S : ByteArray) (o : Bool) (R : RFun) (hf : 0 ≤ fl ∧ fl ≤ 255) (hd : p.d.size ≤ 1000000000000) (hq : p.code < 9223372036854775808 ∧ p.last < 9223372036854775808 ∧ p.more < 9223372036854775808) : Hd (startA frH y0Hint 30 20 43 1 169 [] R yB ([vi 0, vi fl, ptV p (slo 0 0 n c)] ++ List.replicate 166 undef) (roH1w (xs.map vi) T) (endGK frH [.tmp 6, .tmp 7] 1 [[]] (YQ 0 fl p S o (roH1w (xs.map vi) T)))) := by
  constructor
  rw [z0]
  rw [vi_ren]
  rw [tq8 hf]
  refine ifK_dec (fun h8 => yq_mk (by rw [paS_0, if_pos h8]) (by rw [paB_0, decide_eq_true (.inl h8)])) (fun h8 => ?_)
  refine ifK_dec (fun h1 => yq_mk (by rw [paS_0, if_neg h8, if_neg (by omega)]) (by rw [paB_0, decide_eq_false (by omega)])) (fun h1 => ?_)
  refine ifK_dec (fun h2 => yq_mk (by rw [paS_0, if_neg h8, if_neg (by omega)]) (by rw [paB_0, decide_eq_false (by omega)])) (fun h2 => ?_)
  have hw : IntKind.wrap IntKind.i64 (p.2 - 1) = p.2 - 1 := wr_small (by omega) (by omega)
  have hz : List.take (Int.toNat (IntKind.wrap IntKind.i64 (p.2 - (1 : Int)))) (List.drop 0 (azeros [Value.int IntKind.u8 (0 : Int)] (Int.toNat (IntKind.wrap IntKind.i64 (p.2 - (1 : Int)))))) = zer (IntKind.wrap IntKind.i64 (p.2 - (1 : Int))) := rfl
  have hu : u8s (zer (IntKind.wrap IntKind.i64 (p.2 - (1 : Int)))) = true := by rw [zer_eq]; exact u8s_rep _
  have hl : (azeros [Value.int IntKind.u8 (0 : Int)] (Int.toNat (IntKind.wrap IntKind.i64 (p.2 - (1 : Int))))).length = Int.toNat (IntKind.wrap IntKind.i64 (p.2 - (1 : Int))) := by rw [az_rep, List.length_replicate]
  have hqz : leq veq0 (azeros [Value.int IntKind.u8 (0 : Int)] (Int.toNat (IntKind.wrap IntKind.i64 (p.2 - (1 : Int))))) (azeros [Value.int IntKind.u8 (0 : Int)] (Int.toNat (IntKind.wrap IntKind.i64 (p.2 - (1 : Int))))) = true := by rw [az_rep]; exact leq_rep _
  have hb : (⟨⟨bytesFrom (zer (IntKind.wrap IntKind.i64 (p.2 - (1 : Int))))⟩⟩ : ByteArray).size ≤ 256 := by
    rw [zer_eq, bf_rep]
    show (List.replicate _ (0 : UInt8)).length ≤ 256
    rw [List.length_replicate]; omega
  have leaf : YQ 0 fl p S o (roH1w (xs.map vi) T) (Value.tuple #[.string (padT p), .bool true]) (roH1w (xs.map vi) T) := yq_mk (by rw [paS_0, if_neg h8, if_pos (by omega)]) (by rw [paB_0, decide_eq_true (by omega)])
  simp only [hz, hu, hl, hqz, Nat.zero_add, Nat.le_refl, decide_true, Bool.and_self, true_and]
  repeat' first
    | exact leaf
    | with_reducible refine ifK_t rfl ?_
    | (with_reducible refine ifK_dec (fun _ => ?_) (fun h => ?_))
  all_goals (exfalso; first | exact h ⟨by omega, by omega, .inl trivial⟩ | ((try simp only [ap_size, wt1_size] at *); omega))
theorem y1h (fl : Int) (p : Pt) (S : ByteArray) (o : Bool) (R : RFun) (hf : 0 ≤ fl ∧ fl ≤ 255) (hd : p.d.size ≤ 1000000000000) (hq : p.code < 9223372036854775808 ∧ p.last < 9223372036854775808 ∧ p.more < 9223372036854775808) : Hd (startA frH pNoHint 30 20 43 0 169 [] R yB ([vi 1, vi fl, ptV p nl] ++ List.replicate 166 undef) AHeap.empty (endGK frH [.tmp 6, .tmp 7] 0 [[]] (YQ 1 fl p S o AHeap.empty))) := by
  constructor
  rw [y1]
  obtain ⟨d, pad, code, last, weight, only, more⟩ := p
  dsimp only at hq
  cases only
  all_goals
    simp only [true_and, fiS4, or_true, true_or, and_true, tq8 hf, tq32 hf]
    repeat' first
      | with_reducible refine ifK_t rfl ?_
      | with_reducible refine ifK_f rfl ?_
      | (with_reducible refine ifK_nd (fun _ => ?_) (fun _ => ?_))
      | (with_reducible refine ifK_dec (fun _ => ?_) (fun _ => ?_))
    all_goals first
      | (refine yq_mk ?_ ?_
         · rw [paS_1]; (try dsimp only [fiveP]); repeat' (first | rfl | (exfalso; omega) | split)
         · rw [paB_1]; (try dsimp only [fiveP]); symm; first | (simp only [fiS4, Bool.and_eq_true, decide_eq_true_eq]; omega) | (simp only [fiS4, Bool.and_eq_false_iff, decide_eq_false_iff_not]; omega))
      | (exfalso; (try simp only [wr_i64, ap_size, wt1_size, wt4_size, e_size] at *); omega)
theorem z1h (fl : Int) (p : Pt) (n c : Nat) (xs : List Int) (T : ET) (S : ByteArray) (o : Bool) (R : RFun) (hf : 0 ≤ fl ∧ fl ≤ 255) (hd : p.d.size ≤ 1000000000000) (hq : p.code < 9223372036854775808 ∧ p.last < 9223372036854775808 ∧ p.more < 9223372036854775808) : Hd (startA frH pNoHint 30 20 43 1 169 [] R yB ([vi 1, vi fl, ptV p (slo 0 0 n c)] ++ List.replicate 166 undef) (roH1w (xs.map vi) T) (endGK frH [.tmp 6, .tmp 7] 1 [[]] (YQ 1 fl p S o (roH1w (xs.map vi) T)))) := by
  constructor
  rw [z1]
  rw [vi_ren]
  obtain ⟨d, pad, code, last, weight, only, more⟩ := p
  dsimp only at hq
  cases only
  all_goals
    simp only [true_and, fiS4, or_true, true_or, and_true, tq8 hf, tq32 hf]
    repeat' first
      | with_reducible refine ifK_t rfl ?_
      | with_reducible refine ifK_f rfl ?_
      | (with_reducible refine ifK_nd (fun _ => ?_) (fun _ => ?_))
      | (with_reducible refine ifK_dec (fun _ => ?_) (fun _ => ?_))
    all_goals first
      | (refine yq_mk ?_ ?_
         · rw [paS_1]; (try dsimp only [fiveP]); repeat' (first | rfl | (exfalso; omega) | split)
         · rw [paB_1]; (try dsimp only [fiveP]); symm; first | (simp only [fiS4, Bool.and_eq_true, decide_eq_true_eq]; omega) | (simp only [fiS4, Bool.and_eq_false_iff, decide_eq_false_iff_not]; omega))
      | (exfalso; (try simp only [wr_i64, ap_size, wt1_size, wt4_size, e_size] at *); omega)
theorem y2h (fl : Int) (p : Pt) (S : ByteArray) (o : Bool) (R : RFun) (hf : 0 ≤ fl ∧ fl ≤ 255) (hd : p.d.size ≤ 1000000000000) (hq : p.code < 9223372036854775808 ∧ p.last < 9223372036854775808 ∧ p.more < 9223372036854775808) : Hd (startA frH pNoHint 30 20 43 0 169 [] R yB ([vi 2, vi fl, ptV p nl] ++ List.replicate 166 undef) AHeap.empty (endGK frH [.tmp 6, .tmp 7] 0 [[]] (YQ 2 fl p S o AHeap.empty))) := by
  constructor
  rw [y2]
  obtain ⟨d, pad, code, last, weight, only, more⟩ := p
  dsimp only at hq
  cases only
  all_goals
    simp only [true_and, fiS4, or_true, true_or, and_true]
    repeat' first
      | with_reducible refine ifK_t rfl ?_
      | with_reducible refine ifK_f rfl ?_
      | (with_reducible refine ifK_nd (fun _ => ?_) (fun _ => ?_))
      | (with_reducible refine ifK_dec (fun _ => ?_) (fun _ => ?_))
    all_goals first
      | (refine yq_mk ?_ ?_
         · rw [paS_2]; (try dsimp only [fiveP]); repeat' (first | rfl | (exfalso; omega) | split)
         · rw [paB_2]; (try dsimp only [fiveP]); symm; first | (simp only [fiS4, Bool.and_eq_true, decide_eq_true_eq]; omega) | (simp only [fiS4, Bool.and_eq_false_iff, decide_eq_false_iff_not]; omega))
      | (exfalso; (try simp only [wr_i64, ap_size, wt1_size, wt4_size, e_size] at *); omega)
theorem z2h (fl : Int) (p : Pt) (n c : Nat) (xs : List Int) (T : ET) (S : ByteArray) (o : Bool) (R : RFun) (hf : 0 ≤ fl ∧ fl ≤ 255) (hd : p.d.size ≤ 1000000000000) (hq : p.code < 9223372036854775808 ∧ p.last < 9223372036854775808 ∧ p.more < 9223372036854775808) : Hd (startA frH pNoHint 30 20 43 1 169 [] R yB ([vi 2, vi fl, ptV p (slo 0 0 n c)] ++ List.replicate 166 undef) (roH1w (xs.map vi) T) (endGK frH [.tmp 6, .tmp 7] 1 [[]] (YQ 2 fl p S o (roH1w (xs.map vi) T)))) := by
  constructor
  rw [z2]
  rw [vi_ren]
  obtain ⟨d, pad, code, last, weight, only, more⟩ := p
  dsimp only at hq
  cases only
  all_goals
    simp only [true_and, fiS4, or_true, true_or, and_true]
    repeat' first
      | with_reducible refine ifK_t rfl ?_
      | with_reducible refine ifK_f rfl ?_
      | (with_reducible refine ifK_nd (fun _ => ?_) (fun _ => ?_))
      | (with_reducible refine ifK_dec (fun _ => ?_) (fun _ => ?_))
    all_goals first
      | (refine yq_mk ?_ ?_
         · rw [paS_2]; (try dsimp only [fiveP]); repeat' (first | rfl | (exfalso; omega) | split)
         · rw [paB_2]; (try dsimp only [fiveP]); symm; first | (simp only [fiS4, Bool.and_eq_true, decide_eq_true_eq]; omega) | (simp only [fiS4, Bool.and_eq_false_iff, decide_eq_false_iff_not]; omega))
      | (exfalso; (try simp only [wr_i64, ap_size, wt1_size, wt4_size, e_size] at *); omega)
theorem y3h (fl : Int) (p : Pt) (S : ByteArray) (o : Bool) (R : RFun) (hf : 0 ≤ fl ∧ fl ≤ 255) (hd : p.d.size ≤ 1000000000000) (hq : p.code < 9223372036854775808 ∧ p.last < 9223372036854775808 ∧ p.more < 9223372036854775808) : Hd (startA frH pNoHint 30 20 43 0 169 [] R yB ([vi 3, vi fl, ptV p nl] ++ List.replicate 166 undef) AHeap.empty (endGK frH [.tmp 6, .tmp 7] 0 [[]] (YQ 3 fl p S o AHeap.empty))) := by
  constructor
  rw [y3]
  obtain ⟨d, pad, code, last, weight, only, more⟩ := p
  dsimp only at hq
  skip
  all_goals
    simp only [true_and, fiS4, or_true, true_or, and_true]
    repeat' first
      | with_reducible refine ifK_t rfl ?_
      | with_reducible refine ifK_f rfl ?_
      | (with_reducible refine ifK_nd (fun _ => ?_) (fun _ => ?_))
      | (with_reducible refine ifK_dec (fun _ => ?_) (fun _ => ?_))
    all_goals first
      | (refine yq_mk ?_ ?_
         · rw [paS_3]; (try dsimp only [fiveP]); repeat' (first | rfl | (exfalso; omega) | split)
         · rw [paB_3]; (try dsimp only [fiveP]); symm; first | (simp only [fiS4, Bool.and_eq_true, decide_eq_true_eq]; omega) | (simp only [fiS4, Bool.and_eq_false_iff, decide_eq_false_iff_not]; omega))
      | (exfalso; (try simp only [wr_i64, ap_size, wt1_size, wt4_size, e_size] at *); omega)
theorem z3h (fl : Int) (p : Pt) (n c : Nat) (xs : List Int) (T : ET) (S : ByteArray) (o : Bool) (R : RFun) (hf : 0 ≤ fl ∧ fl ≤ 255) (hd : p.d.size ≤ 1000000000000) (hq : p.code < 9223372036854775808 ∧ p.last < 9223372036854775808 ∧ p.more < 9223372036854775808) : Hd (startA frH pNoHint 30 20 43 1 169 [] R yB ([vi 3, vi fl, ptV p (slo 0 0 n c)] ++ List.replicate 166 undef) (roH1w (xs.map vi) T) (endGK frH [.tmp 6, .tmp 7] 1 [[]] (YQ 3 fl p S o (roH1w (xs.map vi) T)))) := by
  constructor
  rw [z3]
  rw [vi_ren]
  obtain ⟨d, pad, code, last, weight, only, more⟩ := p
  dsimp only at hq
  skip
  all_goals
    simp only [true_and, fiS4, or_true, true_or, and_true]
    repeat' first
      | with_reducible refine ifK_t rfl ?_
      | with_reducible refine ifK_f rfl ?_
      | (with_reducible refine ifK_nd (fun _ => ?_) (fun _ => ?_))
      | (with_reducible refine ifK_dec (fun _ => ?_) (fun _ => ?_))
    all_goals first
      | (refine yq_mk ?_ ?_
         · rw [paS_3]; (try dsimp only [fiveP]); repeat' (first | rfl | (exfalso; omega) | split)
         · rw [paB_3]; (try dsimp only [fiveP]); symm; first | (simp only [fiS4, Bool.and_eq_true, decide_eq_true_eq]; omega) | (simp only [fiS4, Bool.and_eq_false_iff, decide_eq_false_iff_not]; omega))
      | (exfalso; (try simp only [wr_i64, ap_size, wt1_size, wt4_size, e_size] at *); omega)
theorem y6h (fl : Int) (p : Pt) (S : ByteArray) (o : Bool) (R : RFun) (hf : 0 ≤ fl ∧ fl ≤ 255) (hd : p.d.size ≤ 1000000000000) (hq : p.code < 9223372036854775808 ∧ p.last < 9223372036854775808 ∧ p.more < 9223372036854775808) : Hd (startA frH pNoHint 30 20 43 0 169 [] R yB ([vi 6, vi fl, ptV p nl] ++ List.replicate 166 undef) AHeap.empty (endGK frH [.tmp 6, .tmp 7] 0 [[]] (YQ 6 fl p S o AHeap.empty))) := by
  constructor
  rw [y6]
  exact yq_mk (by rw [paS_6]) (by rw [paB_6])
theorem z6h (fl : Int) (p : Pt) (n c : Nat) (xs : List Int) (T : ET) (S : ByteArray) (o : Bool) (R : RFun) (hf : 0 ≤ fl ∧ fl ≤ 255) (hd : p.d.size ≤ 1000000000000) (hq : p.code < 9223372036854775808 ∧ p.last < 9223372036854775808 ∧ p.more < 9223372036854775808) : Hd (startA frH pNoHint 30 20 43 1 169 [] R yB ([vi 6, vi fl, ptV p (slo 0 0 n c)] ++ List.replicate 166 undef) (roH1w (xs.map vi) T) (endGK frH [.tmp 6, .tmp 7] 1 [[]] (YQ 6 fl p S o (roH1w (xs.map vi) T)))) := by
  constructor
  rw [z6]
  rw [vi_ren]
  exact yq_mk (by rw [paS_6]) (by rw [paB_6])
theorem y7h (fl : Int) (p : Pt) (S : ByteArray) (o : Bool) (R : RFun) (hf : 0 ≤ fl ∧ fl ≤ 255) (hd : p.d.size ≤ 1000000000000) (hq : p.code < 9223372036854775808 ∧ p.last < 9223372036854775808 ∧ p.more < 9223372036854775808) : Hd (startA frH pNoHint 30 20 43 0 169 [] R yB ([vi 7, vi fl, ptV p nl] ++ List.replicate 166 undef) AHeap.empty (endGK frH [.tmp 6, .tmp 7] 0 [[]] (YQ 7 fl p S o AHeap.empty))) := by
  constructor
  rw [y7]
  obtain ⟨d, pad, code, last, weight, only, more⟩ := p
  dsimp only at hq
  skip
  all_goals
    simp only [true_and, fiS4, or_true, true_or, and_true]
    repeat' first
      | with_reducible refine ifK_t rfl ?_
      | with_reducible refine ifK_f rfl ?_
      | (with_reducible refine ifK_nd (fun _ => ?_) (fun _ => ?_))
      | (with_reducible refine ifK_dec (fun _ => ?_) (fun _ => ?_))
    all_goals first
      | (refine yq_mk ?_ ?_
         · rw [paS_7]; (try dsimp only [fiveP]); repeat' (first | rfl | (exfalso; omega) | split)
         · rw [paB_7]; (try dsimp only [fiveP]); symm; first | (simp only [fiS4, Bool.and_eq_true, decide_eq_true_eq]; omega) | (simp only [fiS4, Bool.and_eq_false_iff, decide_eq_false_iff_not]; omega))
      | (exfalso; (try simp only [wr_i64, ap_size, wt1_size, wt4_size, e_size] at *); omega)
theorem z7h (fl : Int) (p : Pt) (n c : Nat) (xs : List Int) (T : ET) (S : ByteArray) (o : Bool) (R : RFun) (hf : 0 ≤ fl ∧ fl ≤ 255) (hd : p.d.size ≤ 1000000000000) (hq : p.code < 9223372036854775808 ∧ p.last < 9223372036854775808 ∧ p.more < 9223372036854775808) : Hd (startA frH pNoHint 30 20 43 1 169 [] R yB ([vi 7, vi fl, ptV p (slo 0 0 n c)] ++ List.replicate 166 undef) (roH1w (xs.map vi) T) (endGK frH [.tmp 6, .tmp 7] 1 [[]] (YQ 7 fl p S o (roH1w (xs.map vi) T)))) := by
  constructor
  rw [z7]
  rw [vi_ren]
  obtain ⟨d, pad, code, last, weight, only, more⟩ := p
  dsimp only at hq
  skip
  all_goals
    simp only [true_and, fiS4, or_true, true_or, and_true]
    repeat' first
      | with_reducible refine ifK_t rfl ?_
      | with_reducible refine ifK_f rfl ?_
      | (with_reducible refine ifK_nd (fun _ => ?_) (fun _ => ?_))
      | (with_reducible refine ifK_dec (fun _ => ?_) (fun _ => ?_))
    all_goals first
      | (refine yq_mk ?_ ?_
         · rw [paS_7]; (try dsimp only [fiveP]); repeat' (first | rfl | (exfalso; omega) | split)
         · rw [paB_7]; (try dsimp only [fiveP]); symm; first | (simp only [fiS4, Bool.and_eq_true, decide_eq_true_eq]; omega) | (simp only [fiS4, Bool.and_eq_false_iff, decide_eq_false_iff_not]; omega))
      | (exfalso; (try simp only [wr_i64, ap_size, wt1_size, wt4_size, e_size] at *); omega)
theorem y8h (fl : Int) (p : Pt) (S : ByteArray) (o : Bool) (R : RFun) (hf : 0 ≤ fl ∧ fl ≤ 255) (hd : p.d.size ≤ 1000000000000) (hq : p.code < 9223372036854775808 ∧ p.last < 9223372036854775808 ∧ p.more < 9223372036854775808) : Hd (startA frH pNoHint 30 20 43 0 169 [] R yB ([vi 8, vi fl, ptV p nl] ++ List.replicate 166 undef) AHeap.empty (endGK frH [.tmp 6, .tmp 7] 0 [[]] (YQ 8 fl p S o AHeap.empty))) := by
  constructor
  rw [y8]
  obtain ⟨d, pad, code, last, weight, only, more⟩ := p
  dsimp only at hq
  skip
  all_goals
    simp only [true_and, fiS4, or_true, true_or, and_true]
    repeat' first
      | with_reducible refine ifK_t rfl ?_
      | with_reducible refine ifK_f rfl ?_
      | (with_reducible refine ifK_nd (fun _ => ?_) (fun _ => ?_))
      | (with_reducible refine ifK_dec (fun _ => ?_) (fun _ => ?_))
    all_goals first
      | (refine yq_mk ?_ ?_
         · rw [paS_8]; (try dsimp only [fiveP]); repeat' (first | rfl | (exfalso; omega) | split)
         · rw [paB_8]; (try dsimp only [fiveP]); symm; first | (simp only [fiS4, Bool.and_eq_true, decide_eq_true_eq]; omega) | (simp only [fiS4, Bool.and_eq_false_iff, decide_eq_false_iff_not]; omega))
      | (exfalso; (try simp only [wr_i64, ap_size, wt1_size, wt4_size, e_size] at *); omega)
theorem z8h (fl : Int) (p : Pt) (n c : Nat) (xs : List Int) (T : ET) (S : ByteArray) (o : Bool) (R : RFun) (hf : 0 ≤ fl ∧ fl ≤ 255) (hd : p.d.size ≤ 1000000000000) (hq : p.code < 9223372036854775808 ∧ p.last < 9223372036854775808 ∧ p.more < 9223372036854775808) : Hd (startA frH pNoHint 30 20 43 1 169 [] R yB ([vi 8, vi fl, ptV p (slo 0 0 n c)] ++ List.replicate 166 undef) (roH1w (xs.map vi) T) (endGK frH [.tmp 6, .tmp 7] 1 [[]] (YQ 8 fl p S o (roH1w (xs.map vi) T)))) := by
  constructor
  rw [z8]
  rw [vi_ren]
  obtain ⟨d, pad, code, last, weight, only, more⟩ := p
  dsimp only at hq
  skip
  all_goals
    simp only [true_and, fiS4, or_true, true_or, and_true]
    repeat' first
      | with_reducible refine ifK_t rfl ?_
      | with_reducible refine ifK_f rfl ?_
      | (with_reducible refine ifK_nd (fun _ => ?_) (fun _ => ?_))
      | (with_reducible refine ifK_dec (fun _ => ?_) (fun _ => ?_))
    all_goals first
      | (refine yq_mk ?_ ?_
         · rw [paS_8]; (try dsimp only [fiveP]); repeat' (first | rfl | (exfalso; omega) | split)
         · rw [paB_8]; (try dsimp only [fiveP]); symm; first | (simp only [fiS4, Bool.and_eq_true, decide_eq_true_eq]; omega) | (simp only [fiS4, Bool.and_eq_false_iff, decide_eq_false_iff_not]; omega))
      | (exfalso; (try simp only [wr_i64, ap_size, wt1_size, wt4_size, e_size] at *); omega)
theorem y9h (fl : Int) (p : Pt) (S : ByteArray) (o : Bool) (R : RFun) (hf : 0 ≤ fl ∧ fl ≤ 255) (hd : p.d.size ≤ 1000000000000) (hq : p.code < 9223372036854775808 ∧ p.last < 9223372036854775808 ∧ p.more < 9223372036854775808) : Hd (startA frH pNoHint 30 20 43 0 169 [] R yB ([vi 9, vi fl, ptV p nl] ++ List.replicate 166 undef) AHeap.empty (endGK frH [.tmp 6, .tmp 7] 0 [[]] (YQ 9 fl p S o AHeap.empty))) := by
  constructor
  rw [y9]
  exact yq_mk (by rw [paS_9]) (by rw [paB_9])
theorem z9h (fl : Int) (p : Pt) (n c : Nat) (xs : List Int) (T : ET) (S : ByteArray) (o : Bool) (R : RFun) (hf : 0 ≤ fl ∧ fl ≤ 255) (hd : p.d.size ≤ 1000000000000) (hq : p.code < 9223372036854775808 ∧ p.last < 9223372036854775808 ∧ p.more < 9223372036854775808) : Hd (startA frH pNoHint 30 20 43 1 169 [] R yB ([vi 9, vi fl, ptV p (slo 0 0 n c)] ++ List.replicate 166 undef) (roH1w (xs.map vi) T) (endGK frH [.tmp 6, .tmp 7] 1 [[]] (YQ 9 fl p S o (roH1w (xs.map vi) T)))) := by
  constructor
  rw [z9]
  rw [vi_ren]
  exact yq_mk (by rw [paS_9]) (by rw [paB_9])
theorem y16h (fl : Int) (p : Pt) (S : ByteArray) (o : Bool) (R : RFun) (hf : 0 ≤ fl ∧ fl ≤ 255) (hd : p.d.size ≤ 1000000000000) (hq : p.code < 9223372036854775808 ∧ p.last < 9223372036854775808 ∧ p.more < 9223372036854775808) : Hd (startA frH pNoHint 30 20 43 0 169 [] R yB ([vi 16, vi fl, ptV p nl] ++ List.replicate 166 undef) AHeap.empty (endGK frH [.tmp 6, .tmp 7] 0 [[]] (YQ 16 fl p S o AHeap.empty))) := by
  constructor
  rw [y16]
  obtain ⟨d, pad, code, last, weight, only, more⟩ := p
  dsimp only at hq
  skip
  all_goals
    simp only [true_and, fiS4, or_true, true_or, and_true]
    repeat' first
      | with_reducible refine ifK_t rfl ?_
      | with_reducible refine ifK_f rfl ?_
      | (with_reducible refine ifK_nd (fun _ => ?_) (fun _ => ?_))
      | (with_reducible refine ifK_dec (fun _ => ?_) (fun _ => ?_))
    all_goals first
      | (refine yq_mk ?_ ?_
         · rw [paS_16]; (try dsimp only [fiveP]); repeat' (first | rfl | (exfalso; omega) | split)
         · rw [paB_16]; (try dsimp only [fiveP]); symm; first | (simp only [fiS4, Bool.and_eq_true, decide_eq_true_eq]; omega) | (simp only [fiS4, Bool.and_eq_false_iff, decide_eq_false_iff_not]; omega))
      | (exfalso; (try simp only [wr_i64, ap_size, wt1_size, wt4_size, e_size] at *); omega)
theorem z16h (fl : Int) (p : Pt) (n c : Nat) (xs : List Int) (T : ET) (S : ByteArray) (o : Bool) (R : RFun) (hf : 0 ≤ fl ∧ fl ≤ 255) (hd : p.d.size ≤ 1000000000000) (hq : p.code < 9223372036854775808 ∧ p.last < 9223372036854775808 ∧ p.more < 9223372036854775808) : Hd (startA frH pNoHint 30 20 43 1 169 [] R yB ([vi 16, vi fl, ptV p (slo 0 0 n c)] ++ List.replicate 166 undef) (roH1w (xs.map vi) T) (endGK frH [.tmp 6, .tmp 7] 1 [[]] (YQ 16 fl p S o (roH1w (xs.map vi) T)))) := by
  constructor
  rw [z16]
  rw [vi_ren]
  obtain ⟨d, pad, code, last, weight, only, more⟩ := p
  dsimp only at hq
  skip
  all_goals
    simp only [true_and, fiS4, or_true, true_or, and_true]
    repeat' first
      | with_reducible refine ifK_t rfl ?_
      | with_reducible refine ifK_f rfl ?_
      | (with_reducible refine ifK_nd (fun _ => ?_) (fun _ => ?_))
      | (with_reducible refine ifK_dec (fun _ => ?_) (fun _ => ?_))
    all_goals first
      | (refine yq_mk ?_ ?_
         · rw [paS_16]; (try dsimp only [fiveP]); repeat' (first | rfl | (exfalso; omega) | split)
         · rw [paB_16]; (try dsimp only [fiveP]); symm; first | (simp only [fiS4, Bool.and_eq_true, decide_eq_true_eq]; omega) | (simp only [fiS4, Bool.and_eq_false_iff, decide_eq_false_iff_not]; omega))
      | (exfalso; (try simp only [wr_i64, ap_size, wt1_size, wt4_size, e_size] at *); omega)
abbrev OtherY (k : Int) : Prop := k ≠ 0 ∧ k ≠ 1 ∧ k ≠ 2 ∧ k ≠ 3 ∧ k ≠ 4 ∧ k ≠ 6 ∧ k ≠ 7 ∧ k ≠ 8 ∧ k ≠ 9 ∧ k ≠ 16
theorem paS_D {k fl : Int} {p : Pt} {S : ByteArray} {o : Bool} (h : OtherY k) : paS k fl p S o = nob := by
  obtain ⟨h0, h1, h2, h3, h4, h6, h7, h8, h9, h16⟩ := h
  unfold paS
  simp only [if_neg h0, if_neg h1, if_neg h2, if_neg h3, if_neg h4, if_neg h6, if_neg h7, if_neg h8, if_neg h9, if_neg h16]
theorem paB_D {k fl : Int} {p : Pt} {o : Bool} (h : OtherY k) : paB k fl p o = false := by
  obtain ⟨h0, h1, h2, h3, h4, h6, h7, h8, h9, h16⟩ := h
  unfold paB
  simp only [if_neg h0, if_neg h1, if_neg h2, if_neg h3, if_neg h4, if_neg h6, if_neg h7, if_neg h8, if_neg h9, if_neg h16]
theorem yDh (k fl : Int) (p : Pt) (S : ByteArray) (o : Bool) (R : RFun) (h : OtherY k) : Hd (startA frH yHint 30 20 43 0 169 [] R yB ([vi k, vi fl, ptV p nl] ++ List.replicate 166 undef) AHeap.empty (endGK frH [.tmp 6, .tmp 7] 0 [[]] (YQ k fl p S o AHeap.empty))) := by
  have leaf : YQ k fl p S o AHeap.empty (Value.tuple #[.string nob, .bool false]) AHeap.empty := yq_mk (paS_D h).symm (paB_D h).symm
  obtain ⟨h0, h1, h2, h3, h4, h6, h7, h8, h9, h16⟩ := h
  constructor
  rw [yD]
  simp only [decide_eq_false h0, decide_eq_false h1, decide_eq_false h2, decide_eq_false h3, decide_eq_false h4, decide_eq_false h6, decide_eq_false h7, decide_eq_false h8, decide_eq_false h9, decide_eq_false h16]
  exact ifK_f rfl (ifK_f rfl (ifK_f rfl (ifK_f rfl (ifK_f rfl (ifK_f rfl (ifK_f rfl (ifK_f rfl (ifK_f rfl (ifK_f rfl leaf)))))))))
theorem zDh (k fl : Int) (p : Pt) (n c : Nat) (xs : List Int) (T : ET) (S : ByteArray) (o : Bool) (R : RFun) (h : OtherY k) : Hd (startA frH yHint 30 20 43 1 169 [] R yB ([vi k, vi fl, ptV p (slo 0 0 n c)] ++ List.replicate 166 undef) (roH1w (xs.map vi) T) (endGK frH [.tmp 6, .tmp 7] 1 [[]] (YQ k fl p S o (roH1w (xs.map vi) T)))) := by
  have leaf : YQ k fl p S o (roH1w (xs.map vi) T) (Value.tuple #[.string nob, .bool false]) (roH1w (xs.map vi) T) := yq_mk (paS_D h).symm (paB_D h).symm
  obtain ⟨h0, h1, h2, h3, h4, h6, h7, h8, h9, h16⟩ := h
  constructor
  rw [zD, vi_ren]
  simp only [decide_eq_false h0, decide_eq_false h1, decide_eq_false h2, decide_eq_false h3, decide_eq_false h4, decide_eq_false h6, decide_eq_false h7, decide_eq_false h8, decide_eq_false h9, decide_eq_false h16]
  exact ifK_f rfl (ifK_f rfl (ifK_f rfl (ifK_f rfl (ifK_f rfl (ifK_f rfl (ifK_f rfl (ifK_f rfl (ifK_f rfl (ifK_f rfl leaf)))))))))
/-! ### Settings -/
def setFit (n : Nat) (xs : List Int) : Bool := (List.range n).all fun i => fiS (xs.getD (i * 2) 0) 2 && fiS (xs.getD (i * 2 + 1) 0) 4
theorem setFit_succ (n : Nat) (xs : List Int) {a b : Int} (h1 : xs[n * 2]? = some a) (h2 : xs[n * 2 + 1]? = some b) : setFit (n + 1) xs = (setFit n xs && (fiS a 2 && fiS b 4)) := by
  unfold setFit
  rw [List.range_succ, List.all_append]
  simp [List.getD, h1, h2]
theorem setFit_false {n i : Nat} {xs : List Int} (hi : i < n) {a b : Int} (h1 : xs[i * 2]? = some a) (h2 : xs[i * 2 + 1]? = some b) (h : (fiS a 2 && fiS b 4) = false) : setFit n xs = false := by
  unfold setFit
  rw [List.all_eq_false]
  refine ⟨i, List.mem_range.2 hi, ?_⟩
  simp only [List.getD, h1, h2, Option.getD_some]
  rw [h]; decide
def yI (p : Pt) (xs : List Int) (n c : Nat) (T : ET) (id : Nat) (μ : List Nat) (m : Nat) (vs : List Value) (H : AHeap) : Prop :=
  match id with
  | 0 => vs = [pt 1, nl, vi 0] ∧ H = y0H p n c (xs.map vi) T ∧ m = n
  | 1 => ∃ i : Nat, vs = [pt 1, slb 2 (i * 6), vi i] ∧ H = y1H p n c (xs.map vi) (bcells (encX i xs)) T ∧ i ≤ n ∧ setFit i xs = true ∧ m = n - i
  | _ => False
theorem fhAgg39 : (frH.ty 39).map (fun i => (isAggD i.desc, i.size)) = some (true, 2) := by kernel_rfl
abbrev ySeg (xs : List Int) (n c : Nat) (T : ET) (fl : Int) (p : Pt) (ms : List Nat) (m : Nat) (vs : List Value) (H : AHeap) : Prop :=
  segA frH y4Hint 30 20 43 1 169 yCuts (ofI (yI p xs n c T)) yB yP ms m [5,10,11] vs H (endGK frH [.tmp 6, .tmp 7] 1 [[]] (YQ 4 fl p ⟨⟨encX n xs⟩⟩ (setFit n xs) (roH1w (xs.map vi) T)))
end Go.Ev

/- The document's payload of settings: its loop; the summary of payload. -/
namespace Go.Ev
open Go Go.Proofs Go.RowKit
set_option linter.unusedVariables false
set_option linter.unusedSimpArgs false
set_option maxRecDepth 100000
set_option maxHeartbeats 4000000
theorem yleaf {fl : Int} {p : Pt} {n : Nat} {xs : List Int} {HL : AHeap} (h : setFit n xs = false) : YQ 4 fl p ⟨⟨encX n xs⟩⟩ (setFit n xs) HL (Value.tuple #[.string ⟨#[]⟩, .bool false]) HL :=
  yq_mk (by rw [paS_4, if_neg (by rw [h]; decide)]) (by rw [paB_4, h])
theorem yseg0 {xs : List Int} {n c : Nat} {T : ET} {fl : Int} {p : Pt} (hx : n * 2 ≤ xs.length) (hn : n ≤ 1000000000000) (m : Nat) (vs : List Value) (H : AHeap) (hI : yI p xs n c T 0 [] m vs H) : Hd (ySeg xs n c T fl p [] m vs H) := by
  obtain ⟨rfl, rfl, rfl⟩ := hI
  constructor
  unfold ySeg
  rw [y40]
  refine ifK_dec (fun h => ?_) (fun h => ?_)
  · refine ifK_dec (fun _ => ?_) (fun h' => absurd ⟨by omega, h⟩ h')
    obtain ⟨a, b, a1, a2, a3⟩ := pair_get xs 0 (by omega)
    refine ⟨a, b, ⟨by rw [aload_agg fhAgg39 rfl (by rw [List.length_map]; show 0 + 0 * 2 + 2 ≤ _; omega)]; exact congrArg (fun l => some (Value.agg ⟨l⟩)) a3⟩, ?_⟩
    rw [fiS2, fiS4]
    have hfit : ∀ b', (fiS a 2 && fiS b 4) = b' → b' = false → setFit m xs = false := fun b' h1 h2 => setFit_false (i := 0) (by omega) a1 a2 (h1.trans h2)
    have e := encX_succ 0 xs a b a1 a2
    have e0 : encX 0 xs = [] := by cases xs <;> rfl
    rw [e0, List.nil_append] at e
    simp only [vi_ren, true_and, or_true, true_or, and_true]
    refine ifK_nd (fun ha => ?_) (fun ha => yleaf (hfit _ rfl (by rw [fiS2, decide_eq_false ha, Bool.false_and])))
    refine ifK_nd (fun hb => ?_) (fun hb => yleaf (hfit _ rfl (by rw [fiS4, decide_eq_false hb, Bool.and_false])))
    refine ifK_dec (fun _ => ?_) (fun h' => absurd ⟨by omega, by omega⟩ h')
    refine ifK_dec (fun _ => ?_) (fun h' => absurd ⟨by omega, by omega⟩ h')
    refine ⟨m - 1, by omega, 1, rfl, ?_, by omega, ?_, rfl⟩
    · rw [e]; rfl
    · rw [setFit_succ 0 xs a1 a2, fiS2, fiS4, decide_eq_true ha, decide_eq_true hb]; rfl
  · have hn0 : m = 0 := by omega
    subst hn0
    rw [vi_ren]
    have e0 : encX 0 xs = [] := by cases xs <;> rfl
    exact yq_mk (by rw [paS_4, e0]; rfl) (by rw [paB_4]; rfl)
theorem yseg1 {xs : List Int} {n c : Nat} {T : ET} {fl : Int} {p : Pt} (hx : n * 2 ≤ xs.length) (hn : n ≤ 1000000000000) (m : Nat) (vs : List Value) (H : AHeap) (hI : yI p xs n c T 1 [] m vs H) : Hd (ySeg xs n c T fl p [] m vs H) := by
  obtain ⟨i, rfl, rfl, hi, hfi, rfl⟩ := hI
  have hle := encX_len i xs (by omega)
  constructor
  unfold ySeg
  rw [y41]
  refine ifK_dec (fun h => ?_) (fun h => ?_)
  · refine ifK_dec (fun _ => ?_) (fun h' => absurd ⟨by omega, h⟩ h')
    obtain ⟨a, b, a1, a2, a3⟩ := pair_get xs i (by omega)
    have hl1 : 0 + Int.toNat (i : Int) * 2 = i * 2 := by rw [Int.toNat_natCast]; omega
    rw [hl1]
    refine ⟨a, b, ⟨by rw [aload_agg fhAgg39 rfl (by rw [List.length_map]; omega), a3]⟩, ?_⟩
    rw [fiS2, fiS4]
    have hfit : ∀ b', (fiS a 2 && fiS b 4) = b' → b' = false → setFit n xs = false := fun b' h1 h2 => setFit_false (i := i) (by omega) a1 a2 (h1.trans h2)
    have e := encX_succ i xs a b a1 a2
    simp only [vi_ren, true_and, or_true, true_or, and_true]
    refine ifK_nd (fun ha => ?_) (fun ha => yleaf (hfit _ rfl (by rw [fiS2, decide_eq_false ha, Bool.false_and])))
    refine ifK_nd (fun hb => ?_) (fun hb => yleaf (hfit _ rfl (by rw [fiS4, decide_eq_false hb, Bool.and_false])))
    refine ifK_dec (fun _ => ?_) (fun h' => absurd ⟨by omega, by omega⟩ h')
    refine ifK_dec (fun _ => ?_) (fun h' => absurd ⟨by omega, by omega⟩ h')
    refine ifK_t (by simp) ?_
    have hz : ∀ x y, (wtS x 2 ++ wtS y 4).size = 6 := fun x y => by rw [ap_size]; rfl
    refine ifK_dec (fun _ => ?_) (fun h' => absurd ⟨by rw [List.length_map]; omega, by omega, by rw [hz]; omega, by rw [hz]; omega⟩ h')
    have t1 : List.take (i * 6 * 1) (List.drop 0 (bcells (encX i xs))) = bcells (encX i xs) := by rw [List.drop_zero, List.take_of_length_le (by rw [List.length_map]; omega)]
    rw [t1, hz, wr_nat (by omega)]
    refine ⟨n - (i + 1), by omega, i + 1, ?_, ?_, by omega, ?_, rfl⟩
    · rw [show i * 6 + 6 = (i + 1) * 6 by omega]
    · have hb' : bcells (encX i xs) ++ bcells (setEnc a b) = bcells (encX (i + 1) xs) := by rw [e]; unfold bcells; rw [List.map_append]
      have hb2 := congrArg (List.map (renV [0, 1, 4])) hb'
      conv at hb2 => rhs; rw [bcells_ren]
      exact congrArg (fun B => y1H p n c (xs.map vi) B T) hb2
    · rw [setFit_succ i xs a1 a2, hfi, fiS2, fiS4, decide_eq_true ha, decide_eq_true hb]; rfl
  · have hin : i = n := by omega
    subst hin
    have t1 : List.take (i * 6) (List.drop 0 (bcells (encX i xs))) = bcells (encX i xs) := by rw [List.drop_zero, List.take_of_length_le (by rw [List.length_map]; omega)]
    rw [t1, u8s_map, bytesFrom_map, vi_ren]
    refine ifK_t (by rw [Bool.and_true, List.length_map]; exact decide_eq_true (by omega)) ?_
    exact yq_mk (by rw [paS_4, if_pos hfi]) (by rw [paB_4, hfi])
def paSpec : List Value → AHeap → SpR
  | [.int .i64 k, .int .i64 fl, .agg ⟨[.string d, .int .i64 pad, .int .i64 code, .int .i64 last, .int .i64 weight, .bool only, .int .i64 more, st]⟩], HL =>
    match HL.size, st with
    | 0, .slice none 0 0 => .ret (decide (0 ≤ fl ∧ fl ≤ 255) && (decide (code < 9223372036854775808 ∧ last < 9223372036854775808 ∧ more < 9223372036854775808) && decide (d.size ≤ 1000000000000))) (.tuple #[.string (paS k fl ⟨d, pad, code, last, weight, only, more⟩ ⟨⟨[]⟩⟩ true), .bool (paB k fl ⟨d, pad, code, last, weight, only, more⟩ true)]) []
    | 1, .slice (some ⟨0, 0, none⟩) n c => match HL.get 0 with
      | some (.cells L T .ro []) => .ret (decide (0 ≤ fl ∧ fl ≤ 255) && (decide (code < 9223372036854775808 ∧ last < 9223372036854775808 ∧ more < 9223372036854775808) && (allI64 L && (decide (d.size ≤ 1000000000000) && (decide (n * 2 ≤ L.length) && decide (n ≤ 1000000000000)))))) (.tuple #[.string (paS k fl ⟨d, pad, code, last, weight, only, more⟩ ⟨⟨encX n (intsOf L)⟩⟩ (setFit n (intsOf L))), .bool (paB k fl ⟨d, pad, code, last, weight, only, more⟩ (setFit n (intsOf L)))]) []
      | _ => .fail
    | _, _ => .fail
  | _, _ => .fail
theorem body43 : Try.f43.body = some (bodyOf Try.prog 43) := by kernel_rfl
theorem nt43 : Try.f43.ntmps = 169 := by kernel_rfl
theorem rs43 : Try.f43.results.toList = [.tmp 6, .tmp 7] := by kernel_rfl
theorem dr43 : allDraw (frH.ok 43) (bodyOf Try.prog 43) = true := by kernel_rfl
theorem lo43 : loopsOn yP yB = 0 := by kernel_rfl
theorem yCases (k : Int) : k = 0 ∨ k = 1 ∨ k = 2 ∨ k = 3 ∨ k = 4 ∨ k = 6 ∨ k = 7 ∨ k = 8 ∨ k = 9 ∨ k = 16 ∨ OtherY k := by unfold OtherY; omega
theorem pay_ok : BSumOk frH.P 43 (roS wrFoot paSpec) := by
  refine sumOk_ro Try.func43 (by kernel_rfl) (by decide) ?_
  rintro args HL v os ⟨H0, args0, d, hd, hargs, rfl⟩ hs ρ w cargs hR hno ha
  unfold paSpec at hs
  split at hs
  case h_2 => cases hs
  rename_i k fl s pad code last weight only more st
  have hsz : (roH (agc d H0)).size = d.length := agc_size d H0
  have ha' : LRel ρ [vi k, vi fl, ptV ⟨s, pad, code, last, weight, only, more⟩ st] cargs.toList := ha
  generalize hp : (⟨s, pad, code, last, weight, only, more⟩ : Pt) = p at *
  have hpd : p.d = s := by rw [← hp]
  have done : ∀ (HL : AHeap) (x : Value), some (true, x, ([] : List AObj)) = some (true, v, os) → (Calls Try.prog 43 cargs w fun e w' => ∃ v' H', (v' = x ∧ H' = HL) ∧ Post ρ HL w v' H' e w') → Calls Try.prog 43 cargs w (Post ρ HL w v (pushes HL os)) := by
    intro HL x h1 h2
    cases h1
    refine h2.mono ?_
    rintro e w' ⟨v', H', ⟨rfl, rfl⟩, hp⟩
    exact hp
  split at hs
  · rename_i hz
    have hd0 : d = [] := List.eq_nil_of_length_eq_zero (by omega)
    subst hd0
    simp only [SpR.get, Option.some.injEq, Prod.mk.injEq, Bool.and_eq_true, decide_eq_true_eq] at hs
    obtain ⟨⟨hf, hq, hI⟩, rfl, rfl⟩ := hs
    replace hq : p.code < 9223372036854775808 ∧ p.last < 9223372036854775808 ∧ p.more < 9223372036854775808 := by rw [← hp]; exact hq
    rw [← hpd] at hI
    obtain rfl | rfl | rfl | rfl | rfl | rfl | rfl | rfl | rfl | rfl | hk := yCases k
    · exact done AHeap.empty _ rfl (calls_cutsG fhT fhF fhS fhM y0Hint (f := 43) (k := 30) (n := 20) Try.func43 body43 nt43 rs43 dr43 (cuts := []) (I := fun _ _ _ _ _ => False) (rts := [[]]) hR ha' (y0h fl p _ _ _ hf hI hq) trivial)
    · exact done AHeap.empty _ rfl (calls_cutsG fhT fhF fhS fhM pNoHint (f := 43) (k := 30) (n := 20) Try.func43 body43 nt43 rs43 dr43 (cuts := []) (I := fun _ _ _ _ _ => False) (rts := [[]]) hR ha' (y1h fl p _ _ _ hf hI hq) trivial)
    · exact done AHeap.empty _ rfl (calls_cutsG fhT fhF fhS fhM pNoHint (f := 43) (k := 30) (n := 20) Try.func43 body43 nt43 rs43 dr43 (cuts := []) (I := fun _ _ _ _ _ => False) (rts := [[]]) hR ha' (y2h fl p _ _ _ hf hI hq) trivial)
    · exact done AHeap.empty _ rfl (calls_cutsG fhT fhF fhS fhM pNoHint (f := 43) (k := 30) (n := 20) Try.func43 body43 nt43 rs43 dr43 (cuts := []) (I := fun _ _ _ _ _ => False) (rts := [[]]) hR ha' (y3h fl p _ _ _ hf hI hq) trivial)
    · refine done AHeap.empty _ rfl (calls_cutsG fhT fhF fhS fhM y4Hint (f := 43) (k := 30) (n := 20) Try.func43 body43 nt43 rs43 dr43 (cuts := []) (I := fun _ _ _ _ _ => False) (rts := [[]]) hR ha' ⟨?_⟩ trivial)
      show startA frH y4Hint 30 20 43 0 169 [] _ yB ([vi 4, vi fl, ptV p nl] ++ List.replicate 166 undef) AHeap.empty (endGK frH [.tmp 6, .tmp 7] 0 [[]] _)
      rw [y4N]
      exact ⟨by rw [paS_4, paB_4]; rfl, rfl⟩
    · exact done AHeap.empty _ rfl (calls_cutsG fhT fhF fhS fhM pNoHint (f := 43) (k := 30) (n := 20) Try.func43 body43 nt43 rs43 dr43 (cuts := []) (I := fun _ _ _ _ _ => False) (rts := [[]]) hR ha' (y6h fl p _ _ _ hf hI hq) trivial)
    · exact done AHeap.empty _ rfl (calls_cutsG fhT fhF fhS fhM pNoHint (f := 43) (k := 30) (n := 20) Try.func43 body43 nt43 rs43 dr43 (cuts := []) (I := fun _ _ _ _ _ => False) (rts := [[]]) hR ha' (y7h fl p _ _ _ hf hI hq) trivial)
    · exact done AHeap.empty _ rfl (calls_cutsG fhT fhF fhS fhM pNoHint (f := 43) (k := 30) (n := 20) Try.func43 body43 nt43 rs43 dr43 (cuts := []) (I := fun _ _ _ _ _ => False) (rts := [[]]) hR ha' (y8h fl p _ _ _ hf hI hq) trivial)
    · exact done AHeap.empty _ rfl (calls_cutsG fhT fhF fhS fhM pNoHint (f := 43) (k := 30) (n := 20) Try.func43 body43 nt43 rs43 dr43 (cuts := []) (I := fun _ _ _ _ _ => False) (rts := [[]]) hR ha' (y9h fl p _ _ _ hf hI hq) trivial)
    · exact done AHeap.empty _ rfl (calls_cutsG fhT fhF fhS fhM pNoHint (f := 43) (k := 30) (n := 20) Try.func43 body43 nt43 rs43 dr43 (cuts := []) (I := fun _ _ _ _ _ => False) (rts := [[]]) hR ha' (y16h fl p _ _ _ hf hI hq) trivial)
    · exact done AHeap.empty _ rfl (calls_cutsG fhT fhF fhS fhM yHint (f := 43) (k := 30) (n := 20) Try.func43 body43 nt43 rs43 dr43 (cuts := []) (I := fun _ _ _ _ _ => False) (rts := [[]]) hR ha' (yDh k fl p _ _ _ hk) trivial)
  · rename_i n c hz
    split at hs
    case h_2 => cases hs
    rename_i L T hL
    obtain ⟨a, rfl⟩ : ∃ a, d = [a] := List.length_eq_one_iff.1 (by omega)
    simp only [SpR.get, Option.some.injEq, Prod.mk.injEq, Bool.and_eq_true, decide_eq_true_eq] at hs
    obtain ⟨⟨hf, hq, hJ, hI, hn1, hn2⟩, rfl, rfl⟩ := hs
    replace hq : p.code < 9223372036854775808 ∧ p.last < 9223372036854775808 ∧ p.more < 9223372036854775808 := by rw [← hp]; exact hq
    rw [← hpd] at hI
    rw [agr1w hL] at hR ⊢
    have hx := ints_eq hJ
    generalize hxs : intsOf L = xs at *
    subst hx
    rw [List.length_map] at hn1
    obtain rfl | rfl | rfl | rfl | rfl | rfl | rfl | rfl | rfl | rfl | hk := yCases k
    · exact done (roH1w (xs.map vi) T) _ rfl (calls_cutsG fhT fhF fhS fhM y0Hint (f := 43) (k := 30) (n := 20) Try.func43 body43 nt43 rs43 dr43 (cuts := []) (I := fun _ _ _ _ _ => False) (rts := [[]]) hR ha' (z0h fl p n c xs T _ _ _ hf hI hq) trivial)
    · exact done (roH1w (xs.map vi) T) _ rfl (calls_cutsG fhT fhF fhS fhM pNoHint (f := 43) (k := 30) (n := 20) Try.func43 body43 nt43 rs43 dr43 (cuts := []) (I := fun _ _ _ _ _ => False) (rts := [[]]) hR ha' (z1h fl p n c xs T _ _ _ hf hI hq) trivial)
    · exact done (roH1w (xs.map vi) T) _ rfl (calls_cutsG fhT fhF fhS fhM pNoHint (f := 43) (k := 30) (n := 20) Try.func43 body43 nt43 rs43 dr43 (cuts := []) (I := fun _ _ _ _ _ => False) (rts := [[]]) hR ha' (z2h fl p n c xs T _ _ _ hf hI hq) trivial)
    · exact done (roH1w (xs.map vi) T) _ rfl (calls_cutsG fhT fhF fhS fhM pNoHint (f := 43) (k := 30) (n := 20) Try.func43 body43 nt43 rs43 dr43 (cuts := []) (I := fun _ _ _ _ _ => False) (rts := [[]]) hR ha' (z3h fl p n c xs T _ _ _ hf hI hq) trivial)
    · refine done (roH1w (xs.map vi) T) _ rfl (calls_cutsG fhT fhF fhS fhM y4Hint (f := 43) (k := 30) (n := 20) Try.func43 body43 nt43 rs43 dr43 (cuts := yCuts) (I := yI p xs n c T) (rts := [[]]) hR ha' ⟨?_⟩ ⟨⟨?_, ?_, trivial⟩, trivial⟩)
      · show startA frH y4Hint 30 20 43 1 169 yCuts _ yB ([vi 4, vi fl, ptV p (slo 0 0 n c)] ++ List.replicate 166 undef) (roH1w (xs.map vi) T) (endGK frH [.tmp 6, .tmp 7] 1 [[]] _)
        rw [y4S, vi_ren]
        exact ⟨n, trivial, rfl, rfl, rfl⟩
      · intro ms hms m vs H hi
        obtain rfl := List.eq_nil_of_length_eq_zero (hms.trans lo43)
        exact yseg1 hn1 hn2 m vs H hi
      · intro ms hms m vs H hi
        obtain rfl := List.eq_nil_of_length_eq_zero (hms.trans lo43)
        exact yseg0 hn1 hn2 m vs H hi
    · exact done (roH1w (xs.map vi) T) _ rfl (calls_cutsG fhT fhF fhS fhM pNoHint (f := 43) (k := 30) (n := 20) Try.func43 body43 nt43 rs43 dr43 (cuts := []) (I := fun _ _ _ _ _ => False) (rts := [[]]) hR ha' (z6h fl p n c xs T _ _ _ hf hI hq) trivial)
    · exact done (roH1w (xs.map vi) T) _ rfl (calls_cutsG fhT fhF fhS fhM pNoHint (f := 43) (k := 30) (n := 20) Try.func43 body43 nt43 rs43 dr43 (cuts := []) (I := fun _ _ _ _ _ => False) (rts := [[]]) hR ha' (z7h fl p n c xs T _ _ _ hf hI hq) trivial)
    · exact done (roH1w (xs.map vi) T) _ rfl (calls_cutsG fhT fhF fhS fhM pNoHint (f := 43) (k := 30) (n := 20) Try.func43 body43 nt43 rs43 dr43 (cuts := []) (I := fun _ _ _ _ _ => False) (rts := [[]]) hR ha' (z8h fl p n c xs T _ _ _ hf hI hq) trivial)
    · exact done (roH1w (xs.map vi) T) _ rfl (calls_cutsG fhT fhF fhS fhM pNoHint (f := 43) (k := 30) (n := 20) Try.func43 body43 nt43 rs43 dr43 (cuts := []) (I := fun _ _ _ _ _ => False) (rts := [[]]) hR ha' (z9h fl p n c xs T _ _ _ hf hI hq) trivial)
    · exact done (roH1w (xs.map vi) T) _ rfl (calls_cutsG fhT fhF fhS fhM pNoHint (f := 43) (k := 30) (n := 20) Try.func43 body43 nt43 rs43 dr43 (cuts := []) (I := fun _ _ _ _ _ => False) (rts := [[]]) hR ha' (z16h fl p n c xs T _ _ _ hf hI hq) trivial)
    · exact done (roH1w (xs.map vi) T) _ rfl (calls_cutsG fhT fhF fhS fhM yHint (f := 43) (k := 30) (n := 20) Try.func43 body43 nt43 rs43 dr43 (cuts := []) (I := fun _ _ _ _ _ => False) (rts := [[]]) hR ha' (zDh k fl p n c xs T _ _ _ hk) trivial)
  · cases hs
noncomputable def fjSumms : List (Nat × BSumm) := (43, roS wrFoot paSpec) :: fhSumms
theorem fjSO : BSumsOk Try.prog fjSumms := ⟨pay_ok, fhSO⟩
noncomputable def frJ : Env := mkEnvB Try.prog frPlans frExts fun f => look f fjSumms
theorem fjT : frJ.TOk := tOkB_of (by kernel_rfl) frX
theorem fjF : frJ.FOk frJ.ok := fOkB_of (by kernel_rfl)
theorem fjS : frJ.SOk := sOkB_of fjSO
theorem fjM : frJ.P.follows .mixedOrders = true := by kernel_rfl
end Go.Ev
