/- The law FrameThere: that what it comes to is true; no condition but that a text is no longer than memory. -/
import Derived.Test.YtjhidbadbdhcmaaFrTh
namespace Go.Ev
open Go Go.Proofs Go.RowKit
set_option linter.unusedVariables false
set_option maxRecDepth 100000
theorem and127 {x : Int} (h0 : 0 ≤ x) (h1 : x < 256) : IntKind.wrap .u8 ((BitVec.ofInt (IntKind.bits .u8) x &&& BitVec.ofInt (IntKind.bits .u8) 127).toNat : Int) = x % 128 := by
  have e : (BitVec.ofInt 8 x &&& BitVec.ofInt 8 127).toNat = x.toNat % 128 := by
    rw [BitVec.toNat_and]
    have a : (BitVec.ofInt 8 x).toNat = x.toNat := by rw [BitVec.toNat_ofInt]; omega
    have b : (BitVec.ofInt 8 127).toNat = 2 ^ 7 - 1 := by decide
    rw [a, b, Nat.and_two_pow_sub_one_eq_mod]
  show IntKind.wrap .u8 ((BitVec.ofInt 8 x &&& BitVec.ofInt 8 127).toNat : Int) = _
  rw [e, wr_u8]
  omega
theorem u8i_of {b : UInt8} {x : Int} (h : x % 256 = b.toNat) : u8i x = b := by
  unfold u8i
  rw [h, Int.toNat_natCast, UInt8.ofNat_toNat]
theorem there (s : ByteArray) (hs : s.size ≤ 140737488355327) : Evals frN thHint 30 9 [.string s] := by
  constructor
  rw [resThere s (fun v => v = .bool true)]
  have hb3 := big3_bd s
  by_cases hok : NxOk s s.size
  case neg =>
    have e1 : nxE s s.size ≠ 0 := by
      unfold nxE
      intro h
      split at h
      · cases h
      split at h
      · cases h
      split at h
      · cases h
      exact hok ⟨by omega, by omega, by omega⟩
    have e2 : nxN s s.size = 0 := by unfold nxN; rw [if_neg hok]
    have e3 : nxK s s.size = 0 := by unfold nxK; rw [if_neg hok]
    have e4 : nxF s s.size = 0 := by unfold nxF; rw [if_neg hok]
    have e5 : nxS s s.size = 0 := by unfold nxS; rw [if_neg hok]
    have e6 : nxP s s.size = ⟨#[]⟩ := by unfold nxP; rw [if_neg hok]
    rw [decide_eq_false e1, e2, e3, e4, e5, e6]
    exact rfl
  obtain ⟨k1, k2, k3⟩ := hok
  have hok : NxOk s s.size := ⟨k1, k2, k3⟩
  have e1 : nxE s s.size = 0 := by unfold nxE; rw [if_neg (by omega), if_neg (by omega), if_neg (by omega)]
  have e2 : nxN s s.size = 9 + big3 s := by unfold nxN; rw [if_pos hok]
  have e3 : nxK s s.size = byteAt s 3 := by unfold nxK; rw [if_pos hok]
  have e4 : nxF s s.size = byteAt s 4 := by unfold nxF; rw [if_pos hok]
  have e5 : nxS s s.size = big4 (s.extract 5 s.size) % 2147483648 := by unfold nxS; rw [if_pos hok]
  have e6 : nxP s s.size = s.extract 9 (9 + big3 s).toNat := by unfold nxP; rw [if_pos hok]
  rw [e1, e2, e3, e4, e5, e6]
  obtain ⟨N, hN⟩ : ∃ N : Nat, big3 s = N := ⟨(big3 s).toNat, by omega⟩
  have g3 := byteAt_bd s 3
  have g4 := byteAt_bd s 4
  have g5 := byteAt_bd s 5
  have hP : (s.extract 9 (9 + big3 s).toNat).size = N := by rw [extract_size s (by omega)]; omega
  have hF : FrOk (byteAt s 3) (byteAt s 4) (big4 (s.extract 5 s.size) % 2147483648) := by refine ⟨?_, ?_, ?_, ?_, ?_, ?_⟩ <;> omega
  have w1 : wrE (byteAt s 3) (byteAt s 4) (big4 (s.extract 5 s.size) % 2147483648) (s.extract 9 (9 + big3 s).toNat) = 0 := by unfold wrE; rw [if_pos hF, if_neg (by omega)]
  have w2 : wrB (byteAt s 3) (byteAt s 4) (big4 (s.extract 5 s.size) % 2147483648) (s.extract 9 (9 + big3 s).toNat) = ⟨⟨head9 (byteAt s 3) (byteAt s 4) (big4 (s.extract 5 s.size) % 2147483648) N⟩⟩ ++ s.extract 9 (9 + big3 s).toNat := by
    unfold wrB; rw [if_pos hF, if_neg (by omega), hP]
  have hsz : (wrB (byteAt s 3) (byteAt s 4) (big4 (s.extract 5 s.size) % 2147483648) (s.extract 9 (9 + big3 s).toNat)).size = 9 + N := by
    rw [← ba_len, w2, ba_list, List.length_append, head_len, ba_len, hP]
  have z0 : (Int.toNat 0) = 0 := rfl
  have z5 : (Int.toNat 5) = 5 := rfl
  have z9 : (Int.toNat (9 + big3 s)) = 9 + N := by omega
  have hX : (s.extract 0 (9 + N)).size = 9 + N := by rw [extract_size s (by omega)]; omega
  have hl : s.data.toList.length = s.size := ba_len s
  rw [w1, hsz, z0, z9, z5, bytesOf_len, hX]
  refine ifK_f (by simp) (ifK_f (by simp) ?_)
  refine ifK_dec (fun h => by omega) (fun _ => ifK_dec (fun h => by omega) (fun _ => ifK_f ?_ ?_))
  · rw [hN]; simp
  refine ifK_dec (fun _ => ?_) (fun h => by omega)
  refine ifK_dec (fun _ => ?_) (fun h => by omega)
  refine ifK_dec (fun _ => ?_) (fun h => by omega)
  obtain ⟨b5, q1, q2⟩ := list_byte (s := s) (i := 5) (by omega)
  have q5 : (byteAt s 5) = b5.toNat := q2
  have hb5 := b5.toNat_lt
  refine ⟨(b5.toNat : Int), ⟨?_⟩, ?_⟩
  · show (bytesOf (s.extract 0 (9 + N)))[5]? = some (.int .u8 b5.toNat)
    rw [bytesOf_eq, List.getElem?_map, toList_ext, List.drop_zero, List.getElem?_take_of_lt (by omega), q1]
    rfl
  rw [and127 (by omega) (by omega)]
  have hspl : ∀ v, splice (bytesOf (s.extract 0 (9 + N))) (0 + 5 * 1) [v] = (bytesOf (s.extract 0 (9 + N))).set 5 v := fun v => rfl
  have hset := bcells_set (s.extract 0 (9 + N)).data.toList 5 ((b5.toNat : Int) % 128) (by omega) (by omega)
  rw [← bytesOf_eq] at hset
  simp only [hspl, hset]
  have hlen : ((s.extract 0 (9 + N)).data.toList.set 5 (UInt8.ofNat (Int.toNat ((b5.toNat : Int) % 128)))).length = 9 + N := by rw [List.length_set, ba_len, hX]
  have htk : List.take (9 + N) (List.drop 0 (bcells ((s.extract 0 (9 + N)).data.toList.set 5 (UInt8.ofNat (Int.toNat ((b5.toNat : Int) % 128)))))) = bcells ((s.extract 0 (9 + N)).data.toList.set 5 (UInt8.ofNat (Int.toNat ((b5.toNat : Int) % 128)))) := by
    rw [List.drop_zero, List.take_of_length_le (by rw [List.length_map, hlen]; omega)]
  rw [htk, u8s_map, bytesFrom_map]
  refine ifK_dec (fun _ => ?_) (fun h => by omega)
  refine ifK_dec (fun _ => ?_) (fun h => absurd (by show 0 + 5 * 1 + 1 ≤ 9 + N; omega) h)
  refine ifK_t ?_ (ifK_t ?_ (by first | trivial | rfl))
  · simp only [List.length_map, hlen, Bool.and_true, decide_eq_true_eq]; omega
  rw [z9] at w2
  rw [seq_iff', w2, ba_list]
  show head9 (byteAt s 3) (byteAt s 4) (big4 (s.extract 5 s.size) % 2147483648) N ++ (s.extract 9 (9 + N)).data.toList = (s.extract 0 (9 + N)).data.toList.set 5 (UInt8.ofNat (Int.toNat ((b5.toNat : Int) % 128)))
  rw [toList_ext, toList_ext, List.drop_zero]
  obtain ⟨b0, f0, f0'⟩ := list_byte (s := s) (i := 0) (by omega)
  obtain ⟨b1, f1, f1'⟩ := list_byte (s := s) (i := 1) (by omega)
  obtain ⟨b2, f2, f2'⟩ := list_byte (s := s) (i := 2) (by omega)
  obtain ⟨b3, f3, f3'⟩ := list_byte (s := s) (i := 3) (by omega)
  obtain ⟨b4, f4, f4'⟩ := list_byte (s := s) (i := 4) (by omega)
  obtain ⟨b6, f6, f6'⟩ := list_byte (s := s) (i := 6) (by omega)
  obtain ⟨b7, f7, f7'⟩ := list_byte (s := s) (i := 7) (by omega)
  obtain ⟨b8, f8, f8'⟩ := list_byte (s := s) (i := 8) (by omega)
  have c0 : byteAt s 0 = b0.toNat := f0'
  have c1 : byteAt s 1 = b1.toNat := f1'
  have c2 : byteAt s 2 = b2.toNat := f2'
  have c3 : byteAt s 3 = b3.toNat := f3'
  have c4 : byteAt s 4 = b4.toNat := f4'
  have c6 : byteAt s 6 = b6.toNat := f6'
  have c7 : byteAt s 7 = b7.toNat := f7'
  have c8 : byteAt s 8 = b8.toNat := f8'
  have l0 := b0.toNat_lt; have l1 := b1.toNat_lt; have l2 := b2.toNat_lt; have l3 := b3.toNat_lt; have l4 := b4.toNat_lt
  have l6 := b6.toNat_lt; have l7 := b7.toNat_lt; have l8 := b8.toNat_lt
  have hB4 : big4 (s.extract 5 s.size) = (b5.toNat : Int) * 16777216 + b6.toNat * 65536 + b7.toNat * 256 + b8.toNat := by
    unfold big4
    rw [byteAt_extract (by omega) (by simp; omega) (Nat.le_refl _), byteAt_extract (by omega) (by simp; omega) (Nat.le_refl _), byteAt_extract (by omega) (by simp; omega) (Nat.le_refl _), byteAt_extract (by omega) (by simp; omega) (Nat.le_refl _)]
    rw [← q5, ← c6, ← c7, ← c8]
    rfl
  have hB3 : (N : Int) = (b0.toNat : Int) * 65536 + b1.toNat * 256 + b2.toNat := by
    rw [← hN, ← c0, ← c1, ← c2]; rfl
  -- the list, byte by byte
  have hT : s.data.toList.take (9 + N) = b0 :: b1 :: b2 :: b3 :: b4 :: b5 :: b6 :: b7 :: b8 :: (s.data.toList.take (9 + N)).drop 9 := by
    apply List.ext_getElem?
    intro i
    by_cases hi : i < 9
    · rw [List.getElem?_take_of_lt (by omega)]
      obtain rfl | rfl | rfl | rfl | rfl | rfl | rfl | rfl | rfl : i = 0 ∨ i = 1 ∨ i = 2 ∨ i = 3 ∨ i = 4 ∨ i = 5 ∨ i = 6 ∨ i = 7 ∨ i = 8 := by omega
      · exact f0
      · exact f1
      · exact f2
      · exact f3
      · exact f4
      · exact q1
      · exact f6
      · exact f7
      · exact f8
    · obtain ⟨j, rfl⟩ : ∃ j, i = j + 9 := ⟨i - 9, by omega⟩
      show _ = (List.drop 9 (List.take (9 + N) s.data.toList))[j]?
      rw [List.getElem?_drop, Nat.add_comm 9 j]
  generalize (s.data.toList.take (9 + N)).drop 9 = T at hT ⊢
  rw [hT]
  have hd : head9 (byteAt s 3) (byteAt s 4) (big4 (s.extract 5 s.size) % 2147483648) N = [b0, b1, b2, b3, b4, UInt8.ofNat (Int.toNat ((b5.toNat : Int) % 128)), b6, b7, b8] := by
    unfold head9
    have hm : ((b5.toNat : Int) * 16777216 + b6.toNat * 65536 + b7.toNat * 256 + b8.toNat) % 2147483648 = ((b5.toNat : Int) % 128) * 16777216 + b6.toNat * 65536 + b7.toNat * 256 + b8.toNat := by omega
    rw [hB4, hB3, c3, c4, hm]
    clear hB4 hB3 hm hT q2 q5 f0' f1' f2' f3' f4' f6' f7' f8' c0 c1 c2 c6 c7 c8 g3 g4 g5 hF hb3
    rw [u8i_of (b := b0) (by omega), u8i_of (b := b1) (by omega), u8i_of (b := b2) (by omega), u8i_of (b := b3) (by omega), u8i_of (b := b4) (by omega)]
    rw [u8i_of (b := UInt8.ofNat (Int.toNat ((b5.toNat : Int) % 128))) (by rw [UInt8.toNat_ofNat']; omega)]
    rw [u8i_of (b := b6) (by omega), u8i_of (b := b7) (by omega), u8i_of (b := b8) (by omega)]
  rw [hd]
  rfl
end Go.Ev
