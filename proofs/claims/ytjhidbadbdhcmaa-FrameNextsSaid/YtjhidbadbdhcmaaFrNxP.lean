/- The law FrameNexts answers true. -/
import Derived.Test.YtjhidbadbdhcmaaFrNx
namespace Go.Ev
open Go Go.Proofs Go.RowKit
set_option linter.unusedVariables false
set_option maxRecDepth 100000
set_option maxHeartbeats 4000000
theorem ifK_b {c : Bool} {a b : Prop} (h1 : c = true → a) (h2 : c = false → b) : ifK c a b := by
  cases c
  · exact h2 rfl
  · exact h1 rfl
theorem big3_expr (s : ByteArray) : IntKind.wrap IntKind.i64 (↑(BitVec.toNat (BitVec.ofInt (IntKind.bits IntKind.i64) (IntKind.wrap IntKind.i64 (↑(BitVec.toNat (BitVec.ofInt (IntKind.bits IntKind.i64) (IntKind.wrap IntKind.i64 (IntKind.wrap IntKind.i64 (byteAt s (0 : Int)) * (2 : Int) ^ min (Int.toNat (16 : Int)) (IntKind.bits IntKind.i64))) ||| BitVec.ofInt (IntKind.bits IntKind.i64) (IntKind.wrap IntKind.i64 (IntKind.wrap IntKind.i64 (byteAt s (1 : Int)) * (2 : Int) ^ min (Int.toNat (8 : Int)) (IntKind.bits IntKind.i64))))) : Int)) ||| BitVec.ofInt (IntKind.bits IntKind.i64) (IntKind.wrap IntKind.i64 (byteAt s (2 : Int))))) : Int) = big3 s := by
  have h0 := byteAt_bd s 0; have h1 := byteAt_bd s 1; have h2 := byteAt_bd s 2
  simp only [p16, p8, wr_byte]
  rw [wr_small (x := byteAt s 0 * 65536) (by omega) (by omega), wr_small (x := byteAt s 1 * 256) (by omega) (by omega)]
  rw [or_add (x := byteAt s 0 * 65536) (y := byteAt s 1 * 256) 16 (by omega) (byteAt s 0) (by omega) (by omega) (by omega) (by omega) (by omega)]
  rw [or_add (x := byteAt s 0 * 65536 + byteAt s 1 * 256) (y := byteAt s 2) 8 (by omega) (byteAt s 0 * 256 + byteAt s 1) (by omega) (by omega) (by omega) (by omega) (by omega)]
  rfl
theorem big3_extract {s : ByteArray} {h : Nat} (h3 : 3 ≤ h) (hs : h ≤ s.size) : big3 (s.extract 0 h) = big3 s := by
  unfold big3
  rw [byteAt_extract (by omega) (by simp; omega) hs, byteAt_extract (by omega) (by simp; omega) hs, byteAt_extract (by omega) (by simp; omega) hs]
  simp
theorem big4_extract {s : ByteArray} {l h h' : Nat} (h3 : l + 4 ≤ h) (h4 : l + 4 ≤ h') (hs : h ≤ s.size) (hs' : h' ≤ s.size) : big4 (s.extract l h) = big4 (s.extract l h') := by
  unfold big4
  rw [byteAt_extract (by omega) (by simp; omega) hs, byteAt_extract (by omega) (by simp; omega) hs, byteAt_extract (by omega) (by simp; omega) hs, byteAt_extract (by omega) (by simp; omega) hs,
    byteAt_extract (by omega) (by simp; omega) hs', byteAt_extract (by omega) (by simp; omega) hs', byteAt_extract (by omega) (by simp; omega) hs', byteAt_extract (by omega) (by simp; omega) hs']
theorem tn (n : Nat) : Int.toNat (n : Int) = n := Int.toNat_natCast n
theorem nexts (s : ByteArray) (m : Int) (hs : s.size ≤ 140737488355327) : evalK frA noHint 30 3 [.string s, vi m] AHeap.empty (fun v _ => v = .bool true) := by
  refine (resNx s m (fun v => v = .bool true)).mpr ?_
  by_cases h3 : s.size < 3
  · have h3' : (s.size : Int) < 3 := by omega
    rw [decide_eq_true h3']
    exact rfl
  have e3 : s.extract (Int.toNat 0) (Int.toNat 3) = s.extract 0 3 := rfl
  have hN : numF (s.extract (Int.toNat 0) (Int.toNat 3)) = big3 s := by
    rw [e3, num3 (by rw [extract_size _ (by omega)]), big3_extract (by omega) (by omega)]
  have hb := big3_bd s
  have hw : IntKind.wrap IntKind.i64 (9 + big3 s) = 9 + big3 s := wr_small (by omega) (by omega)
  have hsz3 : (s.extract (Int.toNat 0) (Int.toNat 3)).size = 3 := extract_size s (by show 3 ≤ _; omega)
  simp only [big3_expr, tn]
  simp only [hN, hw, wr_byte, hsz3]
  by_cases h9 : s.size < 9
  · repeat' first
      | exact rfl
      | exact trivial
      | refine ifK_dec (fun _ => ?_) (fun _ => ?_)
      | (refine And.intro ?_ ?_; · first | rfl | trivial)
    all_goals (exfalso; omega)
  have hsz5 : (s.extract (Int.toNat 5) s.size).size = s.size - 5 := extract_size s (Nat.le_refl _)
  have e5 : s.extract (Int.toNat 5) (Int.toNat 9) = s.extract 5 9 := rfl
  have e5' : s.extract (Int.toNat 5) s.size = s.extract 5 s.size := rfl
  have hsz59 : (s.extract (Int.toNat 5) (Int.toNat 9)).size = 4 := extract_size s (by show 9 ≤ _; omega)
  have hN5 : numF (s.extract (Int.toNat 5) (Int.toNat 9)) = big4 (s.extract 5 s.size) := by
    rw [e5, num4 (by rw [extract_size _ (by omega)]), big4_extract (by omega) (by omega) (by omega) (Nat.le_refl _)]
  have hb4 := big4_bd (s.extract 5 s.size)
  have hT : Int.tmod (big4 (s.extract 5 s.size)) 2147483648 = big4 (s.extract 5 s.size) % 2147483648 := Int.tmod_eq_emod_of_nonneg hb4.1
  rw [e5'] at hsz5
  simp only [e5', hN5, hT, hsz5, hsz59, andNot_top hb4.1 hb4.2]
  have hsz9 : 9 + big3 s ≤ s.size → (s.extract (Int.toNat 9) (Int.toNat (9 + big3 s))).size ≤ 140737488355328 := by
    intro h
    rw [extract_size s (by omega)]
    omega
  generalize s.extract (Int.toNat 9) (Int.toNat (9 + big3 s)) = X at *
  generalize big4 (s.extract 5 s.size) % 2147483648 = Y at *
  generalize byteAt s 3 = b3 at *
  generalize byteAt s 4 = b4 at *
  repeat' first
    | exact rfl
    | exact trivial
    | refine ifK_dec (fun _ => ?_) (fun _ => ?_)
    | refine ifK_b (fun _ => ?_) (fun _ => ?_)
    | (refine And.intro ?_ ?_; · first | rfl | trivial)
  all_goals first
    | (exfalso; omega)
    | (rename_i h; exfalso; simp [seq_self] at h)
end Go.Ev
