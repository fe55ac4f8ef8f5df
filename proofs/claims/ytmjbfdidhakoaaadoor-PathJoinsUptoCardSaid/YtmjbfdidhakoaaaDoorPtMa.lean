/- The program's types, the orders of its drawn regions, what its library functions come to: what the evaluator asks of a program is so. -/
import Derived.Test.YtmjbfdidhakoaaaDoorEvTf
import Derived.Test.YtmjbfdidhakoaaaDoorPtLay
namespace Go.Ev
open Go Go.Proofs
set_option maxRecDepth 100000
def ptPlans : Plans := [(3, [(11, [(0, []), (1, []), (2, []), (3, []), (4, []), (5, []), (6, []), (7, []), (8, [])]), (17, [(0, []), (1, []), (2, []), (3, []), (4, []), (5, []), (6, []), (7, []), (8, [])])]), (12, [(6, [(0, []), (1, []), (2, []), (3, []), (4, []), (5, []), (6, []), (7, []), (8, []), (9, [])])]), (13, [(9, [(0, []), (1, []), (2, []), (3, []), (4, []), (5, []), (6, []), (7, []), (8, []), (9, []), (10, []), (11, [])])]), (17, [(9, [(0, []), (1, []), (2, []), (3, []), (5, []), (6, []), (7, []), (8, []), (4, []), (9, []), (10, []), (11, [])])]), (20, [(9, [(0, []), (1, []), (2, []), (3, []), (6, []), (7, []), (8, []), (9, []), (4, []), (5, []), (10, []), (11, []), (12, [])])]), (26, [(3, [(0, []), (1, []), (2, []), (3, []), (4, []), (5, []), (6, []), (7, []), (8, []), (9, []), (10, []), (11, [])])]), (30, [(3, [(0, []), (1, []), (2, []), (3, []), (5, []), (6, []), (7, []), (8, []), (9, []), (11, []), (4, [8, 9]), (10, []), (12, [])])]), (40, [(0, [(0, []), (1, []), (2, []), (3, []), (6, []), (9, []), (10, []), (11, []), (12, []), (13, []), (4, [12, 13]), (5, []), (7, []), (8, [12, 13]), (14, []), (15, [])])])]
def ptExts : Exts := [(41, .indexByte), (47, .count), (48, .noEscape)]
theorem ptX : ExtsOk Tryd.prog ptExts := ⟨⟨_, Tryd.func41, by kernel_rfl, by kernel_rfl, by kernel_rfl, by kernel_rfl⟩, ⟨⟨_, Tryd.func47, by kernel_rfl, by kernel_rfl, by kernel_rfl, by kernel_rfl⟩, ⟨⟨_, Tryd.func48, by kernel_rfl, by kernel_rfl, by kernel_rfl, by kernel_rfl⟩, trivial⟩⟩⟩
theorem ptXt : Builder.Extra Tryd.prog Tryd.l156_ren := ⟨⟨by kernel_rfl, by kernel_rfl⟩, Tryd.underlying5, Tryd.isAgg5, Tryd.sizeOf5, Tryd.zeroValue5, by kernel_rfl, by kernel_rfl, by kernel_rfl, by decide⟩
/-! ### The examples -/
noncomputable def ptSumm0 : List (Nat × Summ) := [(19, joinSum)]
theorem ptSO0 : SumsOk Tryd.prog ptSumm0 := ⟨joinSum_ok Tryd.l156 ptXt rfl Tryd.func19 (by kernel_rfl) (by decide), trivial⟩
noncomputable def pt0 : Env := mkEnv Tryd.prog ptPlans ptExts fun f => look f ptSumm0
theorem ptAw : SumOk Tryd.prog 14 (pureS awG) :=
  sumOk_true (E := pt0) (tOk_of (by kernel_rfl) ptX) (fOk_of (by kernel_rfl)) (sOk_of ptSO0) (by kernel_rfl) (k := 600) Tryd.func14 (by kernel_rfl) (by decide) (by kernel_rfl)
/-! ### Split and Join of texts that need not be known -/
theorem ptSplit : BSumOk Tryd.prog 18 (newS (spSpec 9)) := split_ok Tryd.l146 (by kernel_rfl) Tryd.func18 (by kernel_rfl) (by decide)
theorem ptJoin : BSumOk Tryd.prog 19 (roS jnFoot jnSpec) := jn_ok Tryd.l156 ptXt Tryd.func19 (by kernel_rfl) (by decide)
noncomputable def paSumms : List (Nat × BSumm) := [(18, newS (spSpec 9)), (19, roS jnFoot jnSpec), (14, liftS (pureS awG))]
theorem paSO : BSumsOk Tryd.prog paSumms := ⟨ptSplit, ptJoin, ptAw.lift, trivial⟩
noncomputable def ptA : Env := mkEnvB Tryd.prog ptPlans ptExts fun f => look f paSumms
theorem paT : ptA.TOk := tOkB_of (by kernel_rfl) ptX
theorem paF : ptA.FOk ptA.ok := fOkB_of (by kernel_rfl)
theorem paO : ptA.SOk := sOkB_of paSO
theorem paM : ptA.P.follows .mixedOrders = true := by kernel_rfl
end Go.Ev

/- path.worth, path.undo, path.Escape, stringslite.Cut: what their ways come to; no condition. -/
namespace Go.Ev
open Go Go.Proofs Go.RowKit
set_option linter.unusedVariables false
set_option maxRecDepth 100000
set_option maxHeartbeats 4000000
theorem wothR (b : Int) (K : Value → Prop) :
   evalK ptA (fun _ _ => none) 30 28 [.int .u8 b] AHeap.empty (fun v _ => K v)
   = (ifK (decide ((97 : Int) ≤ b)) (ifK (decide (b ≤ (102 : Int))) (K (Value.int IntKind.i64 (Lib.indexByte [(48 : UInt8), (49 : UInt8), (50 : UInt8), (51 : UInt8), (52 : UInt8), (53 : UInt8), (54 : UInt8), (55 : UInt8), (56 : UInt8), (57 : UInt8), (65 : UInt8), (66 : UInt8), (67 : UInt8), (68 : UInt8), (69 : UInt8), (70 : UInt8)] (Nat.toUInt8 (Int.toNat (IntKind.wrap IntKind.u8 (b - (32 : Int)))))))) (K (Value.int IntKind.i64 (Lib.indexByte [(48 : UInt8), (49 : UInt8), (50 : UInt8), (51 : UInt8), (52 : UInt8), (53 : UInt8), (54 : UInt8), (55 : UInt8), (56 : UInt8), (57 : UInt8), (65 : UInt8), (66 : UInt8), (67 : UInt8), (68 : UInt8), (69 : UInt8), (70 : UInt8)] (Nat.toUInt8 (Int.toNat b)))))) (K (Value.int IntKind.i64 (Lib.indexByte [(48 : UInt8), (49 : UInt8), (50 : UInt8), (51 : UInt8), (52 : UInt8), (53 : UInt8), (54 : UInt8), (55 : UInt8), (56 : UInt8), (57 : UInt8), (65 : UInt8), (66 : UInt8), (67 : UInt8), (68 : UInt8), (69 : UInt8), (70 : UInt8)] (Nat.toUInt8 (Int.toNat b)))))) := by kernel_rfl
theorem cutR (s : ByteArray) (K : Value → Prop) :
   evalK ptA (fun _ _ => none) 30 15 [.string s, .string ⟨#[63]⟩] AHeap.empty (fun v _ => K v)
   = (ifK (seq (⟨#[(63 : UInt8)]⟩ : ByteArray) s) (ifK (decide ((0 : Int) ≤ IntKind.wrap IntKind.i64 ((0 : Int) + (↑(ByteArray.size (⟨#[(63 : UInt8)]⟩ : ByteArray)) : Int)) ∧ IntKind.wrap IntKind.i64 ((0 : Int) + (↑(ByteArray.size (⟨#[(63 : UInt8)]⟩ : ByteArray)) : Int)) ≤ (↑(ByteArray.size s) : Int) ∧ (↑(ByteArray.size s) : Int) ≤ (↑(ByteArray.size s) : Int))) (K (Value.tuple { toList := [Value.string (ByteArray.extract s (Int.toNat (0 : Int)) (Int.toNat (0 : Int))), Value.string (ByteArray.extract s (Int.toNat (IntKind.wrap IntKind.i64 ((0 : Int) + (↑(ByteArray.size (⟨#[(63 : UInt8)]⟩ : ByteArray)) : Int)))) (Int.toNat (↑(ByteArray.size s) : Int))), Value.bool true] })) False) (ifK (decide ((0 : Int) ≤ Lib.indexByte (Array.toList s.1) (Nat.toUInt8 (Int.toNat (byteAt (⟨#[(63 : UInt8)]⟩ : ByteArray) (0 : Int)))))) (ifK (decide ((0 : Int) ≤ (0 : Int) ∧ (0 : Int) ≤ Lib.indexByte (Array.toList s.1) (Nat.toUInt8 (Int.toNat (byteAt (⟨#[(63 : UInt8)]⟩ : ByteArray) (0 : Int)))) ∧ Lib.indexByte (Array.toList s.1) (Nat.toUInt8 (Int.toNat (byteAt (⟨#[(63 : UInt8)]⟩ : ByteArray) (0 : Int)))) ≤ (↑(ByteArray.size s) : Int))) (ifK (decide ((0 : Int) ≤ IntKind.wrap IntKind.i64 (Lib.indexByte (Array.toList s.1) (Nat.toUInt8 (Int.toNat (byteAt (⟨#[(63 : UInt8)]⟩ : ByteArray) (0 : Int)))) + (↑(ByteArray.size (⟨#[(63 : UInt8)]⟩ : ByteArray)) : Int)) ∧ IntKind.wrap IntKind.i64 (Lib.indexByte (Array.toList s.1) (Nat.toUInt8 (Int.toNat (byteAt (⟨#[(63 : UInt8)]⟩ : ByteArray) (0 : Int)))) + (↑(ByteArray.size (⟨#[(63 : UInt8)]⟩ : ByteArray)) : Int)) ≤ (↑(ByteArray.size s) : Int) ∧ (↑(ByteArray.size s) : Int) ≤ (↑(ByteArray.size s) : Int))) (K (Value.tuple { toList := [Value.string (ByteArray.extract s (Int.toNat (0 : Int)) (Int.toNat (Lib.indexByte (Array.toList s.1) (Nat.toUInt8 (Int.toNat (byteAt (⟨#[(63 : UInt8)]⟩ : ByteArray) (0 : Int))))))), Value.string (ByteArray.extract s (Int.toNat (IntKind.wrap IntKind.i64 (Lib.indexByte (Array.toList s.1) (Nat.toUInt8 (Int.toNat (byteAt (⟨#[(63 : UInt8)]⟩ : ByteArray) (0 : Int)))) + (↑(ByteArray.size (⟨#[(63 : UInt8)]⟩ : ByteArray)) : Int)))) (Int.toNat (↑(ByteArray.size s) : Int))), Value.bool true] })) False) False) (K (Value.tuple { toList := [Value.string s, Value.string (⟨#[]⟩ : ByteArray), Value.bool false] })))) := by kernel_rfl
theorem hasR (s : ByteArray) (K : Value → Prop) :
   evalK ptA (fun _ _ => none) 30 16 [.string s, .string ⟨#[47]⟩] AHeap.empty (fun v _ => K v)
   = (ifK (decide ((↑(ByteArray.size (⟨#[(47 : UInt8)]⟩ : ByteArray)) : Int) ≤ (↑(ByteArray.size s) : Int))) (ifK (decide ((0 : Int) ≤ (0 : Int) ∧ (0 : Int) ≤ (↑(ByteArray.size (⟨#[(47 : UInt8)]⟩ : ByteArray)) : Int) ∧ (↑(ByteArray.size (⟨#[(47 : UInt8)]⟩ : ByteArray)) : Int) ≤ (↑(ByteArray.size s) : Int))) (ifK (seq (ByteArray.extract s (Int.toNat (0 : Int)) (Int.toNat (↑(ByteArray.size (⟨#[(47 : UInt8)]⟩ : ByteArray)) : Int))) (⟨#[(47 : UInt8)]⟩ : ByteArray)) (K (Value.bool true)) (K (Value.bool false))) False) (K (Value.bool false))) := by kernel_rfl
end Go.Ev

/- The summaries of path.worth, of strings.Cut at a question mark, of strings.HasPrefix at a slash. -/
namespace Go.Ev
open Go Go.Proofs Go.RowKit
set_option linter.unusedVariables false
set_option linter.unusedSimpArgs false
set_option maxRecDepth 100000
set_option maxHeartbeats 4000000
theorem ifKb {c : Bool} {a b : Prop} (h1 : c = true → a) (h2 : c = false → b) : ifK c a b := by
  cases c with
  | true => exact h1 rfl
  | false => exact h2 rfl
abbrev vi (x : Int) : Value := .int .i64 x
abbrev hexL : List UInt8 := [48, 49, 50, 51, 52, 53, 54, 55, 56, 57, 65, 66, 67, 68, 69, 70]
def woth (b : Int) : Int := if 97 ≤ b ∧ b ≤ 102 then Lib.indexByte hexL (Nat.toUInt8 (Int.toNat (IntKind.wrap IntKind.u8 (b - (32 : Int))))) else Lib.indexByte hexL (Nat.toUInt8 (Int.toNat b))
def wothG : List Value → Option (Bool × Value)
  | [.int .u8 b] => some (true, vi (woth b))
  | _ => none
theorem woth_ok : SumOk ptA.P 28 (pureS wothG) := by
  refine sumOk_evalK paT paF paO paM (fun _ _ => none) 30 Tryd.func28 (by kernel_rfl) (by decide) fun args v hg => ?_
  unfold wothG at hg
  split at hg
  case h_2 => cases hg
  rename_i b
  simp only [Option.some.injEq, Prod.mk.injEq, true_and] at hg
  subst hg
  refine ⟨rfl, rfl, ?_⟩
  rw [wothR]
  have t : ∀ x, woth b = x → vi x = vi (woth b) := fun x h => by rw [h]
  refine ifK_dec (fun h1 => ifK_dec (fun h2 => t _ ?_) (fun h2 => t _ ?_)) (fun h1 => t _ ?_)
  · unfold woth; rw [if_pos ⟨h1, h2⟩]
  · unfold woth; rw [if_neg (fun h => h2 h.2)]
  · unfold woth; rw [if_neg (fun h => h1 h.1)]
/-- What stands ahead of the first c, and behind it. -/
def headC (c : UInt8) (s : ByteArray) : ByteArray := ⟨⟨s.data.toList.takeWhile (· != c)⟩⟩
def tailC (c : UInt8) (s : ByteArray) : ByteArray := ⟨⟨(s.data.toList.dropWhile (· != c)).drop 1⟩⟩
def hasC (c : UInt8) (s : ByteArray) : Bool := s.data.toList.contains c
theorem idx_spec : ∀ (l : List UInt8) (c : UInt8), (Lib.indexByte l c = -1 ∧ l.contains c = false ∧ l.takeWhile (· != c) = l ∧ (l.dropWhile (· != c)).drop 1 = []) ∨ (∃ n : Nat, Lib.indexByte l c = n ∧ n < l.length ∧ l.contains c = true ∧ l.takeWhile (· != c) = l.take n ∧ (l.dropWhile (· != c)).drop 1 = l.drop (n + 1)) := by
  intro l c
  induction l with
  | nil => exact .inl ⟨rfl, rfl, rfl, rfl⟩
  | cons b l ih =>
    by_cases h : b = c
    · subst h
      refine .inr ⟨0, ?_, by simp, by simp, by simp, by simp⟩
      simp [Lib.indexByte]
    · have hb : (b != c) = true := by simpa using h
      rcases ih with ⟨h1, h2, h3, h4⟩ | ⟨n, h1, h2, h3, h4, h5⟩
      · refine .inl ⟨?_, ?_, ?_, ?_⟩
        · simp [Lib.indexByte, h, h1]
        · rw [List.contains_cons, h2]; simp; exact fun e => h e.symm
        · rw [List.takeWhile_cons, hb, if_pos rfl, h3]
        · rw [List.dropWhile_cons, hb, if_pos rfl, h4]
      · refine .inr ⟨n + 1, ?_, by simp; exact h2, ?_, ?_, ?_⟩
        · simp [Lib.indexByte, h, h1]
        · rw [List.contains_cons, h3]; simp
        · rw [List.takeWhile_cons, hb, if_pos rfl, h4]; rfl
        · rw [List.dropWhile_cons, hb, if_pos rfl, h5]; rfl
theorem u8_63 : Nat.toUInt8 (Int.toNat (byteAt (⟨#[(63 : UInt8)]⟩ : ByteArray) (0 : Int))) = 63 := rfl
theorem sz_63 : (↑(ByteArray.size (⟨#[(63 : UInt8)]⟩ : ByteArray)) : Int) = 1 := rfl
theorem sz_47 : (↑(ByteArray.size (⟨#[(47 : UInt8)]⟩ : ByteArray)) : Int) = 1 := rfl
def cutG : List Value → Option (Bool × Value)
  | [.string s, .string ⟨⟨[c]⟩⟩] => some (decide (c = 63 ∧ s.size ≤ 1000000000000), .tuple #[.string (headC 63 s), .string (tailC 63 s), .bool (hasC 63 s)])
  | _ => none
theorem cut_ok : SumOk ptA.P 15 (pureS cutG) := by
  refine sumOk_evalK paT paF paO paM (fun _ _ => none) 30 Tryd.func15 (by kernel_rfl) (by decide) fun args v hg => ?_
  unfold cutG at hg
  split at hg
  case h_2 => cases hg
  rename_i s c
  simp only [Option.some.injEq, Prod.mk.injEq] at hg
  obtain ⟨hb, rfl⟩ := hg
  obtain ⟨rfl, hb⟩ := of_decide_eq_true hb
  refine ⟨rfl, rfl, ?_⟩
  have hl := ba_len s
  have e := cutR s
  refine (cutR s _).mpr ?_
  rw [u8_63, sz_63]
  have hL : Array.toList s.1 = s.data.toList := rfl
  rw [hL]
  have leaf : ∀ (A B : ByteArray) (b : Bool), A.data.toList = s.data.toList.takeWhile (· != 63) → B.data.toList = (s.data.toList.dropWhile (· != 63)).drop 1 → b = hasC 63 s → (Value.tuple #[.string A, .string B, .bool b]) = .tuple #[.string (headC 63 s), .string (tailC 63 s), .bool (hasC 63 s)] := by
    intro A B b h1 h2 h3
    have e1 : A = headC 63 s := ba_ext h1
    have e2 : B = tailC 63 s := ba_ext h2
    rw [e1, e2, h3]
  refine ifKb (fun h => ?_) (fun h => ?_)
  · have hs := seq_iff.1 h
    subst hs
    refine ifK_dec (fun _ => ?_) (fun h' => absurd (by decide) h')
    exact leaf _ _ _ rfl rfl rfl
  · rcases idx_spec s.data.toList 63 with ⟨h1, h2, h3, h4⟩ | ⟨n, h1, h2, h3, h4, h5⟩
    · rw [h1]
      refine ifK_dec (fun h' => absurd h' (by decide)) (fun _ => ?_)
      exact leaf _ _ _ h3.symm h4.symm h2.symm
    · rw [h1]
      have hw : IntKind.wrap IntKind.i64 ((n : Int) + 1) = ((n + 1 : Nat) : Int) := by rw [wr_i64]; omega
      rw [hw]
      refine ifK_dec (fun _ => ?_) (fun h' => absurd (by omega) h')
      refine ifK_dec (fun _ => ?_) (fun h' => absurd ⟨by omega, by omega, by omega⟩ h')
      refine ifK_dec (fun _ => ?_) (fun h' => absurd ⟨by omega, by omega, by omega⟩ h')
      refine leaf _ _ _ ?_ ?_ h3.symm
      · rw [toList_ext, h4]; rfl
      · rw [toList_ext, h5, Int.toNat_natCast, Int.toNat_natCast, List.take_of_length_le (by omega)]
def hasP (s : ByteArray) : Bool := s.data.toList.head? == some 47
def hasPG : List Value → Option (Bool × Value)
  | [.string s, .string ⟨⟨[c]⟩⟩] => some (decide (c = 47), .bool (hasP s))
  | _ => none
theorem has_ok : SumOk ptA.P 16 (pureS hasPG) := by
  refine sumOk_evalK paT paF paO paM (fun _ _ => none) 30 Tryd.func16 (by kernel_rfl) (by decide) fun args v hg => ?_
  unfold hasPG at hg
  split at hg
  case h_2 => cases hg
  rename_i s c
  simp only [Option.some.injEq, Prod.mk.injEq] at hg
  obtain ⟨hb, rfl⟩ := hg
  obtain rfl := of_decide_eq_true hb
  refine ⟨rfl, rfl, ?_⟩
  refine (hasR s _).mpr ?_
  rw [sz_47]
  have hl := ba_len s
  have t : ∀ b, hasP s = b → Value.bool b = Value.bool (hasP s) := fun b h => by rw [h]
  match hq : s.data.toList with
  | [] =>
    rw [hq] at hl
    refine ifK_dec (fun h => absurd h (by simp at hl; omega)) (fun _ => t _ (by unfold hasP; rw [hq]; rfl))
  | a :: l =>
    rw [hq] at hl
    refine ifK_dec (fun _ => ?_) (fun h => absurd (by simp at hl; omega) h)
    refine ifK_dec (fun _ => ?_) (fun h' => absurd ⟨by omega, by omega, by simp at hl; omega⟩ h')
    refine ifKb (fun h => t _ ?_) (fun h => t _ ?_)
    · rw [seq_iff', toList_ext, hq] at h
      unfold hasP
      rw [hq]
      simpa using h
    · have h' : ¬ (seq (s.extract (Int.toNat 0) (Int.toNat 1)) (⟨#[(47 : UInt8)]⟩ : ByteArray) = true) := by rw [h]; decide
      rw [seq_iff', toList_ext, hq] at h'
      unfold hasP
      rw [hq]
      simpa using h'
noncomputable def pwSumms : List (Nat × BSumm) := (28, liftS (pureS wothG)) :: (15, liftS (pureS cutG)) :: (16, liftS (pureS hasPG)) :: paSumms
theorem pwSO : BSumsOk Tryd.prog pwSumms := ⟨woth_ok.lift, cut_ok.lift, has_ok.lift, paSO⟩
noncomputable def ptW : Env := mkEnvB Tryd.prog ptPlans ptExts fun f => look f pwSumms
theorem pwT : ptW.TOk := tOkB_of (by kernel_rfl) ptX
theorem pwF : ptW.FOk ptW.ok := fOkB_of (by kernel_rfl)
theorem pwO : ptW.SOk := sOkB_of pwSO
theorem pwM : ptW.P.follows .mixedOrders = true := by kernel_rfl
end Go.Ev
