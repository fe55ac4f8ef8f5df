/- The program's types, the orders of its drawn regions, what its library functions come to: what the evaluator asks of a program is so. -/
import Derived.Test.YtmjbfdidhakoaaaDoorEvTf
import Derived.Test.YtmjbfdidhakoaaaDoorPtLay
namespace Go.Ev
open Go Go.Proofs
set_option maxRecDepth 100000
def ptPlans : Plans := [(3, [(11, [(0, []), (1, []), (2, []), (3, []), (4, []), (5, []), (6, []), (7, []), (8, [])]), (17, [(0, []), (1, []), (2, []), (3, []), (4, []), (5, []), (6, []), (7, []), (8, [])])]), (12, [(6, [(0, []), (1, []), (2, []), (3, []), (4, []), (5, []), (6, []), (7, []), (8, []), (9, [])])]), (13, [(9, [(0, []), (1, []), (2, []), (3, []), (4, []), (5, []), (6, []), (7, []), (8, []), (9, []), (10, []), (11, [])])]), (17, [(9, [(0, []), (1, []), (2, []), (3, []), (5, []), (6, []), (7, []), (8, []), (4, []), (9, []), (10, []), (11, [])])]), (20, [(9, [(0, []), (1, []), (2, []), (3, []), (6, []), (7, []), (8, []), (9, []), (4, []), (5, []), (10, []), (11, []), (12, [])])]), (26, [(3, [(0, []), (1, []), (2, []), (3, []), (4, []), (5, []), (6, []), (7, []), (8, []), (9, []), (10, []), (11, [])])]), (30, [(3, [(0, []), (1, []), (2, []), (3, []), (5, []), (6, []), (7, []), (8, []), (9, []), (11, []), (4, [8, 9]), (10, []), (12, [])])]), (40, [(0, [(0, []), (1, []), (2, []), (3, []), (6, []), (9, []), (10, []), (11, []), (12, []), (13, []), (4, [12, 13]), (5, []), (7, []), (8, [12, 13]), (14, []), (15, [])])])]
def ptExts : Exts := [(41, .indexByte), (47, .count), (48, .noEscape)]
theorem ptX : ExtsOk Tryd.prog ptExts := ⟨⟨_, Tryd.func41, by kernel_rfl, by kernel_rfl, by kernel_rfl, by kernel_rfl⟩, ⟨⟨_, Tryd.func47, by kernel_rfl, by kernel_rfl, by kernel_rfl, by kernel_rfl⟩, ⟨⟨_, Tryd.func48, by kernel_rfl, by kernel_rfl, by kernel_rfl, by kernel_rfl⟩, trivial⟩⟩⟩
theorem ptXt : Builder.Extra Tryd.prog Tryd.l156_ren := ⟨⟨by kernel_rfl, by kernel_rfl⟩, Tryd.underlying5, Tryd.isAgg5, Tryd.sizeOf5, Tryd.zeroValue5, by kernel_rfl, by kernel_rfl, by kernel_rfl, by decide⟩
/-! ### The examples -/
noncomputable def ptSumm0 : List (Nat × Summ) := [(19, joinSum)]
theorem ptSO0 : SumsOk Tryd.prog ptSumm0 := ⟨joinSum_ok Tryd.l156 ptXt rfl Tryd.func19 (by kernel_rfl) (by decide), trivial⟩
noncomputable def pt0 : Env := mkEnv Tryd.prog ptPlans ptExts fun f => look f ptSumm0
theorem ptAw : SumOk Tryd.prog 14 (pureS awG) :=
  sumOk_true (E := pt0) (tOk_of (by kernel_rfl) ptX) (fOk_of (by kernel_rfl)) (sOk_of ptSO0) (by kernel_rfl) (k := 600) Tryd.func14 (by kernel_rfl) (by decide) (by kernel_rfl)
/-! ### Split and Join of texts that need not be known -/
theorem ptSplit : BSumOk Tryd.prog 18 (newS (spSpec 9)) := split_ok Tryd.l146 (by kernel_rfl) Tryd.func18 (by kernel_rfl) (by decide)
theorem ptJoin : BSumOk Tryd.prog 19 (roS jnFoot jnSpec) := jn_ok Tryd.l156 ptXt Tryd.func19 (by kernel_rfl) (by decide)
noncomputable def paSumms : List (Nat × BSumm) := [(18, newS (spSpec 9)), (19, roS jnFoot jnSpec), (14, liftS (pureS awG))]
theorem paSO : BSumsOk Tryd.prog paSumms := ⟨ptSplit, ptJoin, ptAw.lift, trivial⟩
noncomputable def ptA : Env := mkEnvB Tryd.prog ptPlans ptExts fun f => look f paSumms
theorem paT : ptA.TOk := tOkB_of (by kernel_rfl) ptX
theorem paF : ptA.FOk ptA.ok := fOkB_of (by kernel_rfl)
theorem paO : ptA.SOk := sOkB_of paSO
theorem paM : ptA.P.follows .mixedOrders = true := by kernel_rfl
end Go.Ev

/- path.worth, path.undo, path.Escape, stringslite.Cut: what their ways come to; no condition. -/
namespace Go.Ev
open Go Go.Proofs Go.RowKit
set_option linter.unusedVariables false
set_option maxRecDepth 100000
set_option maxHeartbeats 4000000
theorem wothR (b : Int) (K : Value → Prop) :
   evalK ptA (fun _ _ => none) 30 28 [.int .u8 b] AHeap.empty (fun v _ => K v)
   = (ifK (decide ((97 : Int) ≤ b)) (ifK (decide (b ≤ (102 : Int))) (K (Value.int IntKind.i64 (Lib.indexByte [(48 : UInt8), (49 : UInt8), (50 : UInt8), (51 : UInt8), (52 : UInt8), (53 : UInt8), (54 : UInt8), (55 : UInt8), (56 : UInt8), (57 : UInt8), (65 : UInt8), (66 : UInt8), (67 : UInt8), (68 : UInt8), (69 : UInt8), (70 : UInt8)] (Nat.toUInt8 (Int.toNat (IntKind.wrap IntKind.u8 (b - (32 : Int)))))))) (K (Value.int IntKind.i64 (Lib.indexByte [(48 : UInt8), (49 : UInt8), (50 : UInt8), (51 : UInt8), (52 : UInt8), (53 : UInt8), (54 : UInt8), (55 : UInt8), (56 : UInt8), (57 : UInt8), (65 : UInt8), (66 : UInt8), (67 : UInt8), (68 : UInt8), (69 : UInt8), (70 : UInt8)] (Nat.toUInt8 (Int.toNat b)))))) (K (Value.int IntKind.i64 (Lib.indexByte [(48 : UInt8), (49 : UInt8), (50 : UInt8), (51 : UInt8), (52 : UInt8), (53 : UInt8), (54 : UInt8), (55 : UInt8), (56 : UInt8), (57 : UInt8), (65 : UInt8), (66 : UInt8), (67 : UInt8), (68 : UInt8), (69 : UInt8), (70 : UInt8)] (Nat.toUInt8 (Int.toNat b)))))) := by kernel_rfl
theorem cutR (s : ByteArray) (K : Value → Prop) :
   evalK ptA (fun _ _ => none) 30 15 [.string s, .string ⟨#[63]⟩] AHeap.empty (fun v _ => K v)
   = (ifK (seq (⟨#[(63 : UInt8)]⟩ : ByteArray) s) (ifK (decide ((0 : Int) ≤ IntKind.wrap IntKind.i64 ((0 : Int) + (↑(ByteArray.size (⟨#[(63 : UInt8)]⟩ : ByteArray)) : Int)) ∧ IntKind.wrap IntKind.i64 ((0 : Int) + (↑(ByteArray.size (⟨#[(63 : UInt8)]⟩ : ByteArray)) : Int)) ≤ (↑(ByteArray.size s) : Int) ∧ (↑(ByteArray.size s) : Int) ≤ (↑(ByteArray.size s) : Int))) (K (Value.tuple { toList := [Value.string (ByteArray.extract s (Int.toNat (0 : Int)) (Int.toNat (0 : Int))), Value.string (ByteArray.extract s (Int.toNat (IntKind.wrap IntKind.i64 ((0 : Int) + (↑(ByteArray.size (⟨#[(63 : UInt8)]⟩ : ByteArray)) : Int)))) (Int.toNat (↑(ByteArray.size s) : Int))), Value.bool true] })) False) (ifK (decide ((0 : Int) ≤ Lib.indexByte (Array.toList s.1) (Nat.toUInt8 (Int.toNat (byteAt (⟨#[(63 : UInt8)]⟩ : ByteArray) (0 : Int)))))) (ifK (decide ((0 : Int) ≤ (0 : Int) ∧ (0 : Int) ≤ Lib.indexByte (Array.toList s.1) (Nat.toUInt8 (Int.toNat (byteAt (⟨#[(63 : UInt8)]⟩ : ByteArray) (0 : Int)))) ∧ Lib.indexByte (Array.toList s.1) (Nat.toUInt8 (Int.toNat (byteAt (⟨#[(63 : UInt8)]⟩ : ByteArray) (0 : Int)))) ≤ (↑(ByteArray.size s) : Int))) (ifK (decide ((0 : Int) ≤ IntKind.wrap IntKind.i64 (Lib.indexByte (Array.toList s.1) (Nat.toUInt8 (Int.toNat (byteAt (⟨#[(63 : UInt8)]⟩ : ByteArray) (0 : Int)))) + (↑(ByteArray.size (⟨#[(63 : UInt8)]⟩ : ByteArray)) : Int)) ∧ IntKind.wrap IntKind.i64 (Lib.indexByte (Array.toList s.1) (Nat.toUInt8 (Int.toNat (byteAt (⟨#[(63 : UInt8)]⟩ : ByteArray) (0 : Int)))) + (↑(ByteArray.size (⟨#[(63 : UInt8)]⟩ : ByteArray)) : Int)) ≤ (↑(ByteArray.size s) : Int) ∧ (↑(ByteArray.size s) : Int) ≤ (↑(ByteArray.size s) : Int))) (K (Value.tuple { toList := [Value.string (ByteArray.extract s (Int.toNat (0 : Int)) (Int.toNat (Lib.indexByte (Array.toList s.1) (Nat.toUInt8 (Int.toNat (byteAt (⟨#[(63 : UInt8)]⟩ : ByteArray) (0 : Int))))))), Value.string (ByteArray.extract s (Int.toNat (IntKind.wrap IntKind.i64 (Lib.indexByte (Array.toList s.1) (Nat.toUInt8 (Int.toNat (byteAt (⟨#[(63 : UInt8)]⟩ : ByteArray) (0 : Int)))) + (↑(ByteArray.size (⟨#[(63 : UInt8)]⟩ : ByteArray)) : Int)))) (Int.toNat (↑(ByteArray.size s) : Int))), Value.bool true] })) False) False) (K (Value.tuple { toList := [Value.string s, Value.string (⟨#[]⟩ : ByteArray), Value.bool false] })))) := by kernel_rfl
theorem hasR (s : ByteArray) (K : Value → Prop) :
   evalK ptA (fun _ _ => none) 30 16 [.string s, .string ⟨#[47]⟩] AHeap.empty (fun v _ => K v)
   = (ifK (decide ((↑(ByteArray.size (⟨#[(47 : UInt8)]⟩ : ByteArray)) : Int) ≤ (↑(ByteArray.size s) : Int))) (ifK (decide ((0 : Int) ≤ (0 : Int) ∧ (0 : Int) ≤ (↑(ByteArray.size (⟨#[(47 : UInt8)]⟩ : ByteArray)) : Int) ∧ (↑(ByteArray.size (⟨#[(47 : UInt8)]⟩ : ByteArray)) : Int) ≤ (↑(ByteArray.size s) : Int))) (ifK (seq (ByteArray.extract s (Int.toNat (0 : Int)) (Int.toNat (↑(ByteArray.size (⟨#[(47 : UInt8)]⟩ : ByteArray)) : Int))) (⟨#[(47 : UInt8)]⟩ : ByteArray)) (K (Value.bool true)) (K (Value.bool false))) False) (K (Value.bool false))) := by kernel_rfl
end Go.Ev

/- The summaries of path.worth, of strings.Cut at a question mark, of strings.HasPrefix at a slash. -/
namespace Go.Ev
open Go Go.Proofs Go.RowKit
set_option linter.unusedVariables false
set_option linter.unusedSimpArgs false
set_option maxRecDepth 100000
set_option maxHeartbeats 4000000
theorem ifKb {c : Bool} {a b : Prop} (h1 : c = true → a) (h2 : c = false → b) : ifK c a b := by
  cases c with
  | true => exact h1 rfl
  | false => exact h2 rfl
abbrev vi (x : Int) : Value := .int .i64 x
abbrev hexL : List UInt8 := [48, 49, 50, 51, 52, 53, 54, 55, 56, 57, 65, 66, 67, 68, 69, 70]
def woth (b : Int) : Int := if 97 ≤ b ∧ b ≤ 102 then Lib.indexByte hexL (Nat.toUInt8 (Int.toNat (IntKind.wrap IntKind.u8 (b - (32 : Int))))) else Lib.indexByte hexL (Nat.toUInt8 (Int.toNat b))
def wothG : List Value → Option (Bool × Value)
  | [.int .u8 b] => some (true, vi (woth b))
  | _ => none
theorem woth_ok : SumOk ptA.P 28 (pureS wothG) := by
  refine sumOk_evalK paT paF paO paM (fun _ _ => none) 30 Tryd.func28 (by kernel_rfl) (by decide) fun args v hg => ?_
  unfold wothG at hg
  split at hg
  case h_2 => cases hg
  rename_i b
  simp only [Option.some.injEq, Prod.mk.injEq, true_and] at hg
  subst hg
  refine ⟨rfl, rfl, ?_⟩
  rw [wothR]
  have t : ∀ x, woth b = x → vi x = vi (woth b) := fun x h => by rw [h]
  refine ifK_dec (fun h1 => ifK_dec (fun h2 => t _ ?_) (fun h2 => t _ ?_)) (fun h1 => t _ ?_)
  · unfold woth; rw [if_pos ⟨h1, h2⟩]
  · unfold woth; rw [if_neg (fun h => h2 h.2)]
  · unfold woth; rw [if_neg (fun h => h1 h.1)]
/-- What stands ahead of the first c, and behind it. -/
def headC (c : UInt8) (s : ByteArray) : ByteArray := ⟨⟨s.data.toList.takeWhile (· != c)⟩⟩
def tailC (c : UInt8) (s : ByteArray) : ByteArray := ⟨⟨(s.data.toList.dropWhile (· != c)).drop 1⟩⟩
def hasC (c : UInt8) (s : ByteArray) : Bool := s.data.toList.contains c
theorem idx_spec : ∀ (l : List UInt8) (c : UInt8), (Lib.indexByte l c = -1 ∧ l.contains c = false ∧ l.takeWhile (· != c) = l ∧ (l.dropWhile (· != c)).drop 1 = []) ∨ (∃ n : Nat, Lib.indexByte l c = n ∧ n < l.length ∧ l.contains c = true ∧ l.takeWhile (· != c) = l.take n ∧ (l.dropWhile (· != c)).drop 1 = l.drop (n + 1)) := by
  intro l c
  induction l with
  | nil => exact .inl ⟨rfl, rfl, rfl, rfl⟩
  | cons b l ih =>
    by_cases h : b = c
    · subst h
      refine .inr ⟨0, ?_, by simp, by simp, by simp, by simp⟩
      simp [Lib.indexByte]
    · have hb : (b != c) = true := by simpa using h
      rcases ih with ⟨h1, h2, h3, h4⟩ | ⟨n, h1, h2, h3, h4, h5⟩
      · refine .inl ⟨?_, ?_, ?_, ?_⟩
        · simp [Lib.indexByte, h, h1]
        · rw [List.contains_cons, h2]; simp; exact fun e => h e.symm
        · rw [List.takeWhile_cons, hb, if_pos rfl, h3]
        · rw [List.dropWhile_cons, hb, if_pos rfl, h4]
      · refine .inr ⟨n + 1, ?_, by simp; exact h2, ?_, ?_, ?_⟩
        · simp [Lib.indexByte, h, h1]
        · rw [List.contains_cons, h3]; simp
        · rw [List.takeWhile_cons, hb, if_pos rfl, h4]; rfl
        · rw [List.dropWhile_cons, hb, if_pos rfl, h5]; rfl
theorem u8_63 : Nat.toUInt8 (Int.toNat (byteAt (⟨#[(63 : UInt8)]⟩ : ByteArray) (0 : Int))) = 63 := rfl
theorem sz_63 : (↑(ByteArray.size (⟨#[(63 : UInt8)]⟩ : ByteArray)) : Int) = 1 := rfl
theorem sz_47 : (↑(ByteArray.size (⟨#[(47 : UInt8)]⟩ : ByteArray)) : Int) = 1 := rfl
def cutG : List Value → Option (Bool × Value)
  | [.string s, .string ⟨⟨[c]⟩⟩] => some (decide (c = 63 ∧ s.size ≤ 1000000000000), .tuple #[.string (headC 63 s), .string (tailC 63 s), .bool (hasC 63 s)])
  | _ => none
theorem cut_ok : SumOk ptA.P 15 (pureS cutG) := by
  refine sumOk_evalK paT paF paO paM (fun _ _ => none) 30 Tryd.func15 (by kernel_rfl) (by decide) fun args v hg => ?_
  unfold cutG at hg
  split at hg
  case h_2 => cases hg
  rename_i s c
  simp only [Option.some.injEq, Prod.mk.injEq] at hg
  obtain ⟨hb, rfl⟩ := hg
  obtain ⟨rfl, hb⟩ := of_decide_eq_true hb
  refine ⟨rfl, rfl, ?_⟩
  have hl := ba_len s
  have e := cutR s
  refine (cutR s _).mpr ?_
  rw [u8_63, sz_63]
  have hL : Array.toList s.1 = s.data.toList := rfl
  rw [hL]
  have leaf : ∀ (A B : ByteArray) (b : Bool), A.data.toList = s.data.toList.takeWhile (· != 63) → B.data.toList = (s.data.toList.dropWhile (· != 63)).drop 1 → b = hasC 63 s → (Value.tuple #[.string A, .string B, .bool b]) = .tuple #[.string (headC 63 s), .string (tailC 63 s), .bool (hasC 63 s)] := by
    intro A B b h1 h2 h3
    have e1 : A = headC 63 s := ba_ext h1
    have e2 : B = tailC 63 s := ba_ext h2
    rw [e1, e2, h3]
  refine ifKb (fun h => ?_) (fun h => ?_)
  · have hs := seq_iff.1 h
    subst hs
    refine ifK_dec (fun _ => ?_) (fun h' => absurd (by decide) h')
    exact leaf _ _ _ rfl rfl rfl
  · rcases idx_spec s.data.toList 63 with ⟨h1, h2, h3, h4⟩ | ⟨n, h1, h2, h3, h4, h5⟩
    · rw [h1]
      refine ifK_dec (fun h' => absurd h' (by decide)) (fun _ => ?_)
      exact leaf _ _ _ h3.symm h4.symm h2.symm
    · rw [h1]
      have hw : IntKind.wrap IntKind.i64 ((n : Int) + 1) = ((n + 1 : Nat) : Int) := by rw [wr_i64]; omega
      rw [hw]
      refine ifK_dec (fun _ => ?_) (fun h' => absurd (by omega) h')
      refine ifK_dec (fun _ => ?_) (fun h' => absurd ⟨by omega, by omega, by omega⟩ h')
      refine ifK_dec (fun _ => ?_) (fun h' => absurd ⟨by omega, by omega, by omega⟩ h')
      refine leaf _ _ _ ?_ ?_ h3.symm
      · rw [toList_ext, h4]; rfl
      · rw [toList_ext, h5, Int.toNat_natCast, Int.toNat_natCast, List.take_of_length_le (by omega)]
def hasP (s : ByteArray) : Bool := s.data.toList.head? == some 47
def hasPG : List Value → Option (Bool × Value)
  | [.string s, .string ⟨⟨[c]⟩⟩] => some (decide (c = 47), .bool (hasP s))
  | _ => none
theorem has_ok : SumOk ptA.P 16 (pureS hasPG) := by
  refine sumOk_evalK paT paF paO paM (fun _ _ => none) 30 Tryd.func16 (by kernel_rfl) (by decide) fun args v hg => ?_
  unfold hasPG at hg
  split at hg
  case h_2 => cases hg
  rename_i s c
  simp only [Option.some.injEq, Prod.mk.injEq] at hg
  obtain ⟨hb, rfl⟩ := hg
  obtain rfl := of_decide_eq_true hb
  refine ⟨rfl, rfl, ?_⟩
  refine (hasR s _).mpr ?_
  rw [sz_47]
  have hl := ba_len s
  have t : ∀ b, hasP s = b → Value.bool b = Value.bool (hasP s) := fun b h => by rw [h]
  match hq : s.data.toList with
  | [] =>
    rw [hq] at hl
    refine ifK_dec (fun h => absurd h (by simp at hl; omega)) (fun _ => t _ (by unfold hasP; rw [hq]; rfl))
  | a :: l =>
    rw [hq] at hl
    refine ifK_dec (fun _ => ?_) (fun h => absurd (by simp at hl; omega) h)
    refine ifK_dec (fun _ => ?_) (fun h' => absurd ⟨by omega, by omega, by simp at hl; omega⟩ h')
    refine ifKb (fun h => t _ ?_) (fun h => t _ ?_)
    · rw [seq_iff', toList_ext, hq] at h
      unfold hasP
      rw [hq]
      simpa using h
    · have h' : ¬ (seq (s.extract (Int.toNat 0) (Int.toNat 1)) (⟨#[(47 : UInt8)]⟩ : ByteArray) = true) := by rw [h]; decide
      rw [seq_iff', toList_ext, hq] at h'
      unfold hasP
      rw [hq]
      simpa using h'
noncomputable def pwSumms : List (Nat × BSumm) := (28, liftS (pureS wothG)) :: (15, liftS (pureS cutG)) :: (16, liftS (pureS hasPG)) :: paSumms
theorem pwSO : BSumsOk Tryd.prog pwSumms := ⟨woth_ok.lift, cut_ok.lift, has_ok.lift, paSO⟩
noncomputable def ptW : Env := mkEnvB Tryd.prog ptPlans ptExts fun f => look f pwSumms
theorem pwT : ptW.TOk := tOkB_of (by kernel_rfl) ptX
theorem pwF : ptW.FOk ptW.ok := fOkB_of (by kernel_rfl)
theorem pwO : ptW.SOk := sOkB_of pwSO
theorem pwM : ptW.P.follows .mixedOrders = true := by kernel_rfl
end Go.Ev

/- path.undo: what its ways come to; no condition. -/
namespace Go.Ev
open Go Go.Proofs Go.RowKit
set_option linter.unusedVariables false
set_option maxRecDepth 100000
set_option maxHeartbeats 4000000
noncomputable abbrev uB : Code := bodyOf Tryd.prog 17
abbrev nl : Value := .slice none 0 0
abbrev slb (b n : Nat) : Value := .slice (some ⟨b, 0, none⟩) n n
def uHint : FuncId → Tmp → Option Hint := fun f t => (look f [(17, [(24, Hint.full), (60, Hint.full)])]).bind (look t)
def uP : List Bool := [true, true, false, true, false]
def uCuts : Cuts := [(uP, [⟨1, [0,4,5], [(4,[])], false⟩, ⟨0, [0,4,5], [], false⟩])]
def uH (B : List Value) : AHeap := { size := 1, tr := .node (some (.cells B ⟨1, some 5, true⟩ .live [])) .nil .nil }
theorem unSt (s : ByteArray) (R : RFun) (Q : Value → AHeap → Prop) :
   startA ptW uHint 30 20 17 0 65 uCuts R uB ([.string s] ++ List.replicate 64 undef) AHeap.empty (endGK ptW [.tmp 2, .tmp 3] 0 [[]] Q)
   = (R 0 none [] [Value.string s, Value.slice none 0 0, vi (0 : Int)] { size := 0, tr := Tr.nil }) := by kernel_rfl
theorem un0 (s : ByteArray) (m : Nat) (i : Int) (R : RFun) (Q : Value → AHeap → Prop) :
   segA ptW uHint 30 20 17 0 65 uCuts R uB uP [] m [0,4,5] [.string s, nl, vi i] AHeap.empty (endGK ptW [.tmp 2, .tmp 3] 0 [[]] Q)
   = (ifK (decide (i < (↑(ByteArray.size s) : Int))) (ifK (decide ((0 : Int) ≤ i ∧ i < (↑(ByteArray.size s) : Int))) (ifK (!decide (byteAt s i = (37 : Int))) (ifK (decide ((0 : Int) ≤ i ∧ i < (↑(ByteArray.size s) : Int))) (R 1 (some m) [] [Value.string s, Value.slice (some { block := 0, off := 0 }) 1 1, vi (IntKind.wrap IntKind.i64 (i + (1 : Int)))] { size := 1, tr := Tr.node (some (AObj.cells [Value.int IntKind.u8 (byteAt s i)] (⟨1, some 5, true⟩ : ET) St.live [])) Tr.nil Tr.nil }) False) (ifK (decide (IntKind.wrap IntKind.i64 ((↑(ByteArray.size s) : Int) - i) < (3 : Int))) (Q (Value.tuple { toList := [Value.string (⟨#[]⟩ : ByteArray), Value.bool false] }) { size := 0, tr := Tr.nil }) (ifK (decide ((0 : Int) ≤ IntKind.wrap IntKind.i64 (i + (1 : Int)) ∧ IntKind.wrap IntKind.i64 (i + (1 : Int)) < (↑(ByteArray.size s) : Int))) (ifK (decide ((0 : Int) ≤ IntKind.wrap IntKind.i64 (i + (2 : Int)) ∧ IntKind.wrap IntKind.i64 (i + (2 : Int)) < (↑(ByteArray.size s) : Int))) (ifK (decide (woth (byteAt s (IntKind.wrap IntKind.i64 (i + (1 : Int)))) < (2 : Int))) (Q (Value.tuple { toList := [Value.string (⟨#[]⟩ : ByteArray), Value.bool false] }) { size := 0, tr := Tr.nil }) (ifK (decide (woth (byteAt s (IntKind.wrap IntKind.i64 (i + (2 : Int)))) < (0 : Int))) (Q (Value.tuple { toList := [Value.string (⟨#[]⟩ : ByteArray), Value.bool false] }) { size := 0, tr := Tr.nil }) (ifK (decide (IntKind.wrap IntKind.u8 (IntKind.wrap IntKind.i64 (↑(BitVec.toNat (BitVec.ofInt (IntKind.bits IntKind.i64) (IntKind.wrap IntKind.i64 (woth (byteAt s (IntKind.wrap IntKind.i64 (i + (1 : Int)))) * (2 : Int) ^ min (Int.toNat (4 : Int)) (IntKind.bits IntKind.i64))) ||| BitVec.ofInt (IntKind.bits IntKind.i64) (woth (byteAt s (IntKind.wrap IntKind.i64 (i + (2 : Int))))))) : Int)) = (127 : Int))) (Q (Value.tuple { toList := [Value.string (⟨#[]⟩ : ByteArray), Value.bool false] }) { size := 0, tr := Tr.nil }) (ifK (decide (IntKind.wrap IntKind.u8 (IntKind.wrap IntKind.i64 (↑(BitVec.toNat (BitVec.ofInt (IntKind.bits IntKind.i64) (IntKind.wrap IntKind.i64 (woth (byteAt s (IntKind.wrap IntKind.i64 (i + (1 : Int)))) * (2 : Int) ^ min (Int.toNat (4 : Int)) (IntKind.bits IntKind.i64))) ||| BitVec.ofInt (IntKind.bits IntKind.i64) (woth (byteAt s (IntKind.wrap IntKind.i64 (i + (2 : Int))))))) : Int)) = (47 : Int))) (Q (Value.tuple { toList := [Value.string (⟨#[]⟩ : ByteArray), Value.bool false] }) { size := 0, tr := Tr.nil }) (R 1 (some m) [] [Value.string s, Value.slice (some { block := 0, off := 0 }) 1 1, vi (IntKind.wrap IntKind.i64 (IntKind.wrap IntKind.i64 (i + (2 : Int)) + (1 : Int)))] { size := 1, tr := Tr.node (some (AObj.cells [Value.int IntKind.u8 (IntKind.wrap IntKind.u8 (IntKind.wrap IntKind.i64 (↑(BitVec.toNat (BitVec.ofInt (IntKind.bits IntKind.i64) (IntKind.wrap IntKind.i64 (woth (byteAt s (IntKind.wrap IntKind.i64 (i + (1 : Int)))) * (2 : Int) ^ min (Int.toNat (4 : Int)) (IntKind.bits IntKind.i64))) ||| BitVec.ofInt (IntKind.bits IntKind.i64) (woth (byteAt s (IntKind.wrap IntKind.i64 (i + (2 : Int))))))) : Int)))] (⟨1, some 5, true⟩ : ET) St.live [])) Tr.nil Tr.nil }))))) False) False))) False) (Q (Value.tuple { toList := [Value.string (⟨⟨[]⟩⟩ : ByteArray), Value.bool true] }) { size := 0, tr := Tr.nil })) := by kernel_rfl
theorem un1 (s : ByteArray) (m n : Nat) (i : Int) (B : List Value) (R : RFun) (Q : Value → AHeap → Prop) :
   segA ptW uHint 30 20 17 0 65 uCuts R uB uP [] m [0,4,5] [.string s, slb 0 n, vi i] (uH B) (endGK ptW [.tmp 2, .tmp 3] 0 [[]] Q)
   = (ifK (decide (i < (↑(ByteArray.size s) : Int))) (ifK (decide ((0 : Int) ≤ i ∧ i < (↑(ByteArray.size s) : Int))) (ifK (!decide (byteAt s i = (37 : Int))) (ifK (decide ((0 : Int) ≤ i ∧ i < (↑(ByteArray.size s) : Int))) (ifK (n == n) (ifK (decide (0 + n * 1 = List.length B ∧ n ≤ n ∧ (n + 1) * 1 ≤ 140737488355328 ∧ n + 1 < 4611686018427387904)) (R 1 (some m) [] [Value.string s, Value.slice (some { block := 0, off := 0 }) (n + 1) (n + 1), vi (IntKind.wrap IntKind.i64 (i + (1 : Int)))] { size := 1, tr := Tr.node (some (AObj.cells (List.map (renV [2]) (List.take (n * 1) (List.drop 0 B) ++ [Value.int IntKind.u8 (byteAt s i)])) (⟨1, some 5, true⟩ : ET) St.live [])) Tr.nil Tr.nil }) False) False) False) (ifK (decide (IntKind.wrap IntKind.i64 ((↑(ByteArray.size s) : Int) - i) < (3 : Int))) (Q (Value.tuple { toList := [Value.string (⟨#[]⟩ : ByteArray), Value.bool false] }) { size := 0, tr := Tr.nil }) (ifK (decide ((0 : Int) ≤ IntKind.wrap IntKind.i64 (i + (1 : Int)) ∧ IntKind.wrap IntKind.i64 (i + (1 : Int)) < (↑(ByteArray.size s) : Int))) (ifK (decide ((0 : Int) ≤ IntKind.wrap IntKind.i64 (i + (2 : Int)) ∧ IntKind.wrap IntKind.i64 (i + (2 : Int)) < (↑(ByteArray.size s) : Int))) (ifK (decide (woth (byteAt s (IntKind.wrap IntKind.i64 (i + (1 : Int)))) < (2 : Int))) (Q (Value.tuple { toList := [Value.string (⟨#[]⟩ : ByteArray), Value.bool false] }) { size := 0, tr := Tr.nil }) (ifK (decide (woth (byteAt s (IntKind.wrap IntKind.i64 (i + (2 : Int)))) < (0 : Int))) (Q (Value.tuple { toList := [Value.string (⟨#[]⟩ : ByteArray), Value.bool false] }) { size := 0, tr := Tr.nil }) (ifK (decide (IntKind.wrap IntKind.u8 (IntKind.wrap IntKind.i64 (↑(BitVec.toNat (BitVec.ofInt (IntKind.bits IntKind.i64) (IntKind.wrap IntKind.i64 (woth (byteAt s (IntKind.wrap IntKind.i64 (i + (1 : Int)))) * (2 : Int) ^ min (Int.toNat (4 : Int)) (IntKind.bits IntKind.i64))) ||| BitVec.ofInt (IntKind.bits IntKind.i64) (woth (byteAt s (IntKind.wrap IntKind.i64 (i + (2 : Int))))))) : Int)) = (127 : Int))) (Q (Value.tuple { toList := [Value.string (⟨#[]⟩ : ByteArray), Value.bool false] }) { size := 0, tr := Tr.nil }) (ifK (decide (IntKind.wrap IntKind.u8 (IntKind.wrap IntKind.i64 (↑(BitVec.toNat (BitVec.ofInt (IntKind.bits IntKind.i64) (IntKind.wrap IntKind.i64 (woth (byteAt s (IntKind.wrap IntKind.i64 (i + (1 : Int)))) * (2 : Int) ^ min (Int.toNat (4 : Int)) (IntKind.bits IntKind.i64))) ||| BitVec.ofInt (IntKind.bits IntKind.i64) (woth (byteAt s (IntKind.wrap IntKind.i64 (i + (2 : Int))))))) : Int)) = (47 : Int))) (Q (Value.tuple { toList := [Value.string (⟨#[]⟩ : ByteArray), Value.bool false] }) { size := 0, tr := Tr.nil }) (ifK (n == n) (ifK (decide (0 + n * 1 = List.length B ∧ n ≤ n ∧ (n + 1) * 1 ≤ 140737488355328 ∧ n + 1 < 4611686018427387904)) (R 1 (some m) [] [Value.string s, Value.slice (some { block := 0, off := 0 }) (n + 1) (n + 1), vi (IntKind.wrap IntKind.i64 (IntKind.wrap IntKind.i64 (i + (2 : Int)) + (1 : Int)))] { size := 1, tr := Tr.node (some (AObj.cells (List.map (renV [2]) (List.take (n * 1) (List.drop 0 B) ++ [Value.int IntKind.u8 (IntKind.wrap IntKind.u8 (IntKind.wrap IntKind.i64 (↑(BitVec.toNat (BitVec.ofInt (IntKind.bits IntKind.i64) (IntKind.wrap IntKind.i64 (woth (byteAt s (IntKind.wrap IntKind.i64 (i + (1 : Int)))) * (2 : Int) ^ min (Int.toNat (4 : Int)) (IntKind.bits IntKind.i64))) ||| BitVec.ofInt (IntKind.bits IntKind.i64) (woth (byteAt s (IntKind.wrap IntKind.i64 (i + (2 : Int))))))) : Int)))])) (⟨1, some 5, true⟩ : ET) St.live [])) Tr.nil Tr.nil }) False) False))))) False) False))) False) (ifK (decide (0 + n ≤ List.length B) && u8s (List.take n (List.drop 0 B))) (Q (Value.tuple { toList := [Value.string (⟨⟨bytesFrom (List.take n (List.drop 0 B))⟩⟩ : ByteArray), Value.bool true] }) { size := 0, tr := Tr.nil }) False)) := by kernel_rfl
end Go.Ev

/- The summary of path.undo. -/
namespace Go.Ev
open Go Go.Proofs Go.RowKit
set_option linter.unusedVariables false
set_option linter.unusedSimpArgs false
set_option maxRecDepth 100000
set_option maxHeartbeats 4000000
theorem ifK_nd {p : Prop} [Decidable p] {a b : Prop} (h1 : p → b) (h2 : ¬p → a) : ifK (!decide p) a b := by
  by_cases h : p
  · rw [decide_eq_true h]; exact h1 h
  · rw [decide_eq_false h]; exact h2 h
def hexR (x y : Int) : Int := IntKind.wrap IntKind.u8 (IntKind.wrap IntKind.i64 (↑(BitVec.toNat (BitVec.ofInt (IntKind.bits IntKind.i64) (IntKind.wrap IntKind.i64 (x * (2 : Int) ^ min (Int.toNat (4 : Int)) (IntKind.bits IntKind.i64))) ||| BitVec.ofInt (IntKind.bits IntKind.i64) y)) : Int))
theorem hexR_bd (x y : Int) : 0 ≤ hexR x y ∧ hexR x y < 256 := by unfold hexR; rw [wr_u8]; omega
def hexC (h o : UInt8) : UInt8 := UInt8.ofNat (hexR (woth h.toNat) (woth o.toNat)).toNat
theorem hexC_nat (h o : UInt8) : ((hexC h o).toNat : Int) = hexR (woth h.toNat) (woth o.toNat) := by
  have := hexR_bd (woth h.toNat) (woth o.toNat)
  unfold hexC
  rw [UInt8.toNat_ofNat']
  omega
theorem u8_eq {a : UInt8} {n : Nat} (hn : n < 256) : (a.toNat : Int) = n ↔ a = UInt8.ofNat n := by
  constructor
  · intro h
    apply UInt8.toNat_inj.1
    rw [UInt8.toNat_ofNat']
    omega
  · rintro rfl
    rw [UInt8.toNat_ofNat']
    omega
def unGo : List UInt8 → List UInt8 → Option (List UInt8)
  | [], out => some out
  | b :: l, out =>
    if b = 37 then
      match l with
      | h :: o :: l' => if woth h.toNat < 2 ∨ woth o.toNat < 0 ∨ hexC h o = 127 ∨ hexC h o = 47 then none else unGo l' (out ++ [hexC h o])
      | _ => none
    else unGo l (out ++ [b])
theorem unGo_nil (out : List UInt8) : unGo [] out = some out := by rw [unGo]
theorem unGo_b {b : UInt8} (hb : b ≠ 37) (l out : List UInt8) : unGo (b :: l) out = unGo l (out ++ [b]) := by rw [unGo.eq_def]; simp only; rw [if_neg hb]
theorem unGo_short {l : List UInt8} (h : l.length < 2) (out : List UInt8) : unGo (37 :: l) out = none := by
  rw [unGo.eq_def]; simp only
  rw [if_pos trivial]
  match l, h with
  | [], _ => rfl
  | [a], _ => rfl
theorem unGo_bad {h o : UInt8} (hh : woth h.toNat < 2 ∨ woth o.toNat < 0 ∨ hexC h o = 127 ∨ hexC h o = 47) (l out : List UInt8) : unGo (37 :: h :: o :: l) out = none := by
  rw [unGo.eq_def]; simp only
  rw [if_pos trivial, if_pos hh]
theorem unGo_hex {h o : UInt8} (hh : ¬ (woth h.toNat < 2 ∨ woth o.toNat < 0 ∨ hexC h o = 127 ∨ hexC h o = 47)) (l out : List UInt8) : unGo (37 :: h :: o :: l) out = unGo l (out ++ [hexC h o]) := by
  rw [unGo.eq_def]; simp only
  rw [if_pos trivial, if_neg hh]
def undoF (s : ByteArray) : Option (List UInt8) := unGo s.data.toList []
def unOk (s : ByteArray) : Bool := (undoF s).isSome
def unO (s : ByteArray) : ByteArray := ⟨⟨(undoF s).getD []⟩⟩
def unS (s : ByteArray) (b : Bool) : SpR := .br (unOk s) (.ret b (.tuple #[.string (unO s), .bool true]) []) (.ret b (.tuple #[.string ⟨#[]⟩, .bool false]) [])
abbrev UQ (s : ByteArray) (v : Value) (H : AHeap) : Prop := ∃ os, (unS s true).get = some (true, v, os) ∧ H = pushes AHeap.empty os
theorem uq_some {s : ByteArray} {B : List UInt8} (h : undoF s = some B) : UQ s (.tuple #[.string ⟨⟨B⟩⟩, .bool true]) AHeap.empty := by
  refine ⟨[], ?_, rfl⟩
  unfold unS unOk unO
  simp only [SpR.get]
  rw [h]; rfl
theorem uq_none {s : ByteArray} (h : undoF s = none) : UQ s (.tuple #[.string ⟨#[]⟩, .bool false]) AHeap.empty := by
  refine ⟨[], ?_, rfl⟩
  unfold unS unOk unO
  simp only [SpR.get]
  rw [h]; rfl
def uI (s : ByteArray) (id : Nat) (μ : List Nat) (m : Nat) (vs : List Value) (H : AHeap) : Prop :=
  match id with
  | 0 => vs = [.string s, nl, vi 0] ∧ H = AHeap.empty ∧ m = s.size
  | 1 => ∃ (i : Nat) (B : List UInt8), vs = [.string s, slb 0 B.length, vi i] ∧ H = uH (bcells B) ∧ i ≤ s.size ∧ B.length ≤ i ∧ unGo (s.data.toList.drop i) B = undoF s ∧ m = s.size - i
  | _ => False
abbrev uSeg (s : ByteArray) (m : Nat) (vs : List Value) (H : AHeap) : Prop := segA ptW uHint 30 20 17 0 65 uCuts (ofI (uI s)) uB uP [] m [0,4,5] vs H (endGK ptW [.tmp 2, .tmp 3] 0 [[]] (UQ s))
theorem dropAt {s : ByteArray} {i : Nat} (h : i < s.size) : ∃ b : UInt8, byteAt s (i : Int) = b.toNat ∧ s.data.toList.drop i = b :: s.data.toList.drop (i + 1) := by
  obtain ⟨b, h1, h2⟩ := list_byte h
  refine ⟨b, h2, ?_⟩
  have hl : i < s.data.toList.length := by rw [ba_len]; exact h
  rw [List.drop_eq_getElem_cons hl]
  rw [List.getElem?_eq_getElem hl] at h1
  rw [Option.some.inj h1]
theorem hexR_def (x y : Int) : IntKind.wrap IntKind.u8 (IntKind.wrap IntKind.i64 (↑(BitVec.toNat (BitVec.ofInt (IntKind.bits IntKind.i64) (IntKind.wrap IntKind.i64 (x * (2 : Int) ^ min (Int.toNat (4 : Int)) (IntKind.bits IntKind.i64))) ||| BitVec.ofInt (IntKind.bits IntKind.i64) y)) : Int)) = hexR x y := rfl
theorem useg1 {s : ByteArray} (hs : s.size ≤ 1000000000000) (m : Nat) (vs : List Value) (H : AHeap) (hI : uI s 1 [] m vs H) : Hd (uSeg s m vs H) := by
  obtain ⟨i, B, rfl, rfl, hi, hB, hgo, rfl⟩ := hI
  have hbl : (bcells B).length = B.length := List.length_map _
  have ht : List.take (B.length * 1) (List.drop 0 (bcells B)) = bcells B := by rw [List.drop_zero, List.take_of_length_le (by omega)]
  have ht1 : List.take B.length (List.drop 0 (bcells B)) = bcells B := by rw [List.drop_zero, List.take_of_length_le (by omega)]
  constructor
  unfold uSeg
  rw [un1]
  refine ifK_dec (fun h => ?_) (fun h => ?_)
  · obtain ⟨b, hb, hd⟩ := dropAt (s := s) (i := i) (by omega)
    rw [hd] at hgo
    have hw1 : IntKind.wrap IntKind.i64 ((i : Int) + 1) = ((i + 1 : Nat) : Int) := by rw [wr_i64]; omega
    have hw2 : IntKind.wrap IntKind.i64 ((i : Int) + 2) = ((i + 2 : Nat) : Int) := by rw [wr_i64]; omega
    have hw3 : IntKind.wrap IntKind.i64 (((i + 2 : Nat) : Int) + 1) = ((i + 3 : Nat) : Int) := by rw [wr_i64]; omega
    have hw4 : IntKind.wrap IntKind.i64 ((s.size : Int) - i) = (s.size : Int) - i := by rw [wr_i64]; omega
    simp only [hb, hw1, hw2, hw3, hw4, ht, hexR_def]
    refine ifK_dec (fun _ => ?_) (fun h' => absurd ⟨by omega, h⟩ h')
    refine ifK_nd (fun h37 => ?_) (fun h37 => ?_)
    · have e37 : b = 37 := (u8_eq (n := 37) (by decide)).1 h37
      subst e37
      refine ifK_dec (fun h3 => ?_) (fun h3 => ?_)
      · refine uq_none ?_
        rw [← hgo, unGo_short]
        rw [List.length_drop, ba_len]; omega
      · obtain ⟨x, hx, hdx⟩ := dropAt (s := s) (i := i + 1) (by omega)
        obtain ⟨y, hy, hdy⟩ := dropAt (s := s) (i := i + 2) (by omega)
        rw [hdx, hdy] at hgo
        simp only [hx, hy, ← hexC_nat]
        refine ifK_dec (fun _ => ?_) (fun h' => absurd ⟨by omega, by omega⟩ h')
        refine ifK_dec (fun _ => ?_) (fun h' => absurd ⟨by omega, by omega⟩ h')
        refine ifK_dec (fun q1 => uq_none (by rw [← hgo, unGo_bad (.inl q1)])) (fun q1 => ?_)
        refine ifK_dec (fun q2 => uq_none (by rw [← hgo, unGo_bad (.inr (.inl q2))])) (fun q2 => ?_)
        refine ifK_dec (fun q3 => uq_none (by rw [← hgo, unGo_bad (.inr (.inr (.inl ((u8_eq (n := 127) (by decide)).1 q3))))])) (fun q3 => ?_)
        refine ifK_dec (fun q4 => uq_none (by rw [← hgo, unGo_bad (.inr (.inr (.inr ((u8_eq (n := 47) (by decide)).1 q4))))])) (fun q4 => ?_)
        rw [unGo_hex (fun hh => by
          rcases hh with hh | hh | hh | hh
          · exact q1 hh
          · exact q2 hh
          · exact q3 ((u8_eq (n := 127) (by decide)).2 hh)
          · exact q4 ((u8_eq (n := 47) (by decide)).2 hh))] at hgo
        refine ifK_t (by simp) ?_
        refine ifK_dec (fun _ => ?_) (fun h' => absurd ⟨by omega, by omega, by omega, by omega⟩ h')
        refine ⟨s.size - (i + 3), by omega, i + 3, B ++ [hexC x y], ?_, ?_, by omega, by simp; omega, hgo, rfl⟩
        · rw [List.length_append]; rfl
        · have e : bcells B ++ [Value.int .u8 (hexC x y).toNat] = bcells (B ++ [hexC x y]) := by unfold bcells; rw [List.map_append]; rfl
          exact congrArg uH ((congrArg (List.map (renV [2])) e).trans (bcells_ren _ _))
    · have e37 : b ≠ 37 := fun h => h37 ((u8_eq (n := 37) (by decide)).2 h)
      rw [unGo_b e37] at hgo
      refine ifK_dec (fun _ => ?_) (fun h' => absurd ⟨by omega, h⟩ h')
      refine ifK_t (by simp) ?_
      refine ifK_dec (fun _ => ?_) (fun h' => absurd ⟨by omega, by omega, by omega, by omega⟩ h')
      refine ⟨s.size - (i + 1), by omega, i + 1, B ++ [b], ?_, ?_, by omega, by simp; omega, hgo, rfl⟩
      · rw [List.length_append]; rfl
      · have e : bcells B ++ [Value.int .u8 b.toNat] = bcells (B ++ [b]) := by unfold bcells; rw [List.map_append]; rfl
        exact congrArg uH ((congrArg (List.map (renV [2])) e).trans (bcells_ren _ _))
  · have hie : i = s.size := by omega
    rw [ht1, u8s_map, bytesFrom_map]
    refine ifK_t (by rw [Bool.and_true]; exact decide_eq_true (by omega)) ?_
    refine uq_some ?_
    rw [← hgo, hie, List.drop_of_length_le (by rw [ba_len]; exact Nat.le_refl _), unGo_nil]
theorem useg0 {s : ByteArray} (hs : s.size ≤ 1000000000000) (m : Nat) (vs : List Value) (H : AHeap) (hI : uI s 0 [] m vs H) : Hd (uSeg s m vs H) := by
  obtain ⟨rfl, rfl, rfl⟩ := hI
  have hgo : unGo (s.data.toList.drop 0) [] = undoF s := rfl
  constructor
  unfold uSeg
  rw [un0]
  refine ifK_dec (fun h => ?_) (fun h => ?_)
  · obtain ⟨b, hb, hd⟩ := dropAt (s := s) (i := 0) (by omega)
    rw [hd] at hgo
    have hw1 : IntKind.wrap IntKind.i64 ((0 : Int) + 1) = ((0 + 1 : Nat) : Int) := by decide
    have hw2 : IntKind.wrap IntKind.i64 ((0 : Int) + 2) = ((0 + 2 : Nat) : Int) := by decide
    have hw3 : IntKind.wrap IntKind.i64 (((0 + 2 : Nat) : Int) + 1) = ((0 + 3 : Nat) : Int) := by decide
    have hw4 : IntKind.wrap IntKind.i64 ((s.size : Int) - 0) = (s.size : Int) := by rw [wr_i64]; omega
    have hb' : byteAt s 0 = b.toNat := hb
    simp only [hb', hw1, hw2, hw3, hw4, hexR_def]
    refine ifK_dec (fun _ => ?_) (fun h' => absurd ⟨by omega, h⟩ h')
    refine ifK_nd (fun h37 => ?_) (fun h37 => ?_)
    · have e37 : b = 37 := (u8_eq (n := 37) (by decide)).1 h37
      subst e37
      refine ifK_dec (fun h3 => ?_) (fun h3 => ?_)
      · refine uq_none ?_
        rw [← hgo, unGo_short]
        rw [List.length_drop, ba_len]; omega
      · obtain ⟨x, hx, hdx⟩ := dropAt (s := s) (i := 0 + 1) (by omega)
        obtain ⟨y, hy, hdy⟩ := dropAt (s := s) (i := 0 + 2) (by omega)
        rw [hdx, hdy] at hgo
        simp only [hx, hy, ← hexC_nat]
        refine ifK_dec (fun _ => ?_) (fun h' => absurd ⟨by omega, by omega⟩ h')
        refine ifK_dec (fun _ => ?_) (fun h' => absurd ⟨by omega, by omega⟩ h')
        refine ifK_dec (fun q1 => uq_none (by rw [← hgo, unGo_bad (.inl q1)])) (fun q1 => ?_)
        refine ifK_dec (fun q2 => uq_none (by rw [← hgo, unGo_bad (.inr (.inl q2))])) (fun q2 => ?_)
        refine ifK_dec (fun q3 => uq_none (by rw [← hgo, unGo_bad (.inr (.inr (.inl ((u8_eq (n := 127) (by decide)).1 q3))))])) (fun q3 => ?_)
        refine ifK_dec (fun q4 => uq_none (by rw [← hgo, unGo_bad (.inr (.inr (.inr ((u8_eq (n := 47) (by decide)).1 q4))))])) (fun q4 => ?_)
        rw [unGo_hex (fun hh => by
          rcases hh with hh | hh | hh | hh
          · exact q1 hh
          · exact q2 hh
          · exact q3 ((u8_eq (n := 127) (by decide)).2 hh)
          · exact q4 ((u8_eq (n := 47) (by decide)).2 hh))] at hgo
        exact ⟨s.size - 3, by omega, 3, [hexC x y], rfl, rfl, by omega, by simp, hgo, rfl⟩
    · have e37 : b ≠ 37 := fun h => h37 ((u8_eq (n := 37) (by decide)).2 h)
      rw [unGo_b e37] at hgo
      refine ifK_dec (fun _ => ?_) (fun h' => absurd ⟨by omega, h⟩ h')
      exact ⟨s.size - 1, by omega, 1, [b], rfl, rfl, by omega, by simp, hgo, rfl⟩
  · refine uq_some ?_
    have : s.data.toList = [] := List.length_eq_zero_iff.1 (by rw [ba_len]; omega)
    rw [← hgo, List.drop_zero, this, unGo_nil]
theorem body17 : Tryd.f17.body = some (bodyOf Tryd.prog 17) := by kernel_rfl
theorem nt17 : Tryd.f17.ntmps = 65 := by kernel_rfl
theorem rs17 : Tryd.f17.results.toList = [.tmp 2, .tmp 3] := by kernel_rfl
theorem dr17 : allDraw (ptW.ok 17) (bodyOf Tryd.prog 17) = true := by kernel_rfl
theorem lo17 : loopsOn uP uB = 0 := by kernel_rfl
def unSpec : List Value → SpR
  | [.string s] => unS s (decide (s.size ≤ 1000000000000))
  | _ => .fail
theorem unS_true {s : ByteArray} {b : Bool} {v : Value} {os : List AObj} (h : (unS s b).get = some (true, v, os)) : b = true := by
  unfold unS at h
  simp only [SpR.get] at h
  cases hb : unOk s <;> simp [hb] at h <;> exact h.1
theorem un_ok : BSumOk ptW.P 17 (newS unSpec) := by
  refine sumOk_new Tryd.func17 (by kernel_rfl) (by decide) fun args v os hs w cargs ha => ?_
  unfold unSpec at hs
  split at hs
  case h_2 => cases hs
  rename_i s
  have hb := unS_true hs
  have hsz := of_decide_eq_true hb
  rw [hb] at hs
  refine (calls_cutsG pwT pwF pwO pwM uHint (f := 17) (k := 30) (n := 20) Tryd.func17 body17 nt17 rs17 dr17 (cuts := uCuts) (I := uI s) (rts := [[]]) (Q := UQ s) (args := [.string s]) (Rel.empty w) ha ⟨?_⟩ ⟨⟨?_, ?_, trivial⟩, trivial⟩).mono ?_
  · show startA ptW uHint 30 20 17 0 65 uCuts _ uB ([.string s] ++ List.replicate 64 undef) AHeap.empty (endGK ptW [.tmp 2, .tmp 3] 0 [[]] _)
    rw [unSt]
    exact ⟨s.size, trivial, rfl, rfl, rfl⟩
  · intro ms hms m vs H hi
    obtain rfl := List.eq_nil_of_length_eq_zero (hms.trans lo17)
    exact useg1 hsz m vs H hi
  · intro ms hms m vs H hi
    obtain rfl := List.eq_nil_of_length_eq_zero (hms.trans lo17)
    exact useg0 hsz m vs H hi
  · rintro e w' ⟨v', H', ⟨os', h1, rfl⟩, hp⟩
    rw [h1] at hs
    simp only [Option.some.injEq, Prod.mk.injEq, true_and] at hs
    obtain ⟨rfl, rfl⟩ := hs
    exact hp
end Go.Ev
