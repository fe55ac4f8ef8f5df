/- Numbers of bytes: shifts, sums and bits of them. -/
import Derived.Test.YtkomaolfjmgppaaDoorEvSe
namespace Go.Ev
open Go RowKit
set_option linter.unusedVariables false

theorem byteAt_bd (s : ByteArray) (i : Int) : 0 ≤ byteAt s i ∧ byteAt s i < 256 := by
  unfold byteAt
  split
  · rename_i b _; have := b.toNat_lt; omega
  · omega
theorem wr_small {x : Int} (h0 : 0 ≤ x) (h1 : x < 9223372036854775808) : IntKind.wrap .i64 x = x := by rw [wr_i64]; omega
theorem wr8_small {x : Int} (h0 : 0 ≤ x) (h1 : x < 256) : IntKind.wrap .u8 x = x := by rw [wr_u8]; omega
theorem wr_byte (s : ByteArray) (i : Int) : IntKind.wrap .i64 (byteAt s i) = byteAt s i := by have := byteAt_bd s i; exact wr_small this.1 (by omega)
theorem ofInt_toNat {x : Int} (h0 : 0 ≤ x) (h1 : x < 9223372036854775808) : (BitVec.ofInt 64 x).toNat = x.toNat := by
  rw [BitVec.toNat_ofInt]
  omega
theorem or_add {x y : Int} (k : Nat) (hk : k ≤ 62) (q : Int) (hx : x = q * 2 ^ k) (hq : 0 ≤ q) (hy : 0 ≤ y) (hy' : y < 2 ^ k) (hs : x + y < 9223372036854775808) :
    IntKind.wrap .i64 ((BitVec.ofInt (IntKind.bits .i64) x ||| BitVec.ofInt (IntKind.bits .i64) y).toNat : Int) = x + y := by
  have h0 : 0 ≤ x := by rw [hx]; exact Int.mul_nonneg hq (by exact_mod_cast Nat.zero_le (2 ^ k))
  have e : (BitVec.ofInt 64 x ||| BitVec.ofInt 64 y).toNat = x.toNat + y.toNat := by
    rw [BitVec.toNat_or, ofInt_toNat h0 (by omega), ofInt_toNat hy (by omega)]
    have hxn : x.toNat = 2 ^ k * q.toNat := by
      have : x = ((2 ^ k * q.toNat : Nat) : Int) := by
        rw [hx]; push_cast; rw [Int.toNat_of_nonneg hq, Int.mul_comm]
      omega
    rw [hxn, ← Nat.two_pow_add_eq_or_of_lt]
    have : ((y.toNat : Nat) : Int) < ((2 ^ k : Nat) : Int) := by push_cast; rw [Int.toNat_of_nonneg hy]; exact hy'
    exact_mod_cast this
  show IntKind.wrap .i64 ((BitVec.ofInt 64 x ||| BitVec.ofInt 64 y).toNat : Int) = x + y
  rw [e]
  rw [wr_small (by omega) (by omega)]
  omega
/-- A number of four bytes without its highest bit. -/
theorem andNot_top {x : Int} (h0 : 0 ≤ x) (h1 : x < 4294967296) :
    IntKind.wrap .i64 ((BitVec.ofInt (IntKind.bits .i64) x &&& ~~~BitVec.ofInt (IntKind.bits .i64) 2147483648).toNat : Int) = x % 2147483648 := by
  have e : (BitVec.ofInt 64 x &&& ~~~BitVec.ofInt 64 2147483648).toNat = x.toNat % 2147483648 := by
    rw [BitVec.toNat_and, ofInt_toNat h0 (by omega)]
    have hM : (~~~BitVec.ofInt 64 2147483648).toNat = 18446744071562067967 := by decide
    rw [hM]
    by_cases hb : x.toNat < 2147483648
    · rw [Nat.mod_eq_of_lt hb]
      have : x.toNat &&& 2147483647 = x.toNat := by
        have := Nat.and_two_pow_sub_one_of_lt_two_pow (n := 31) (x := x.toNat) (by omega)
        simpa using this
      rw [← this, Nat.and_assoc]
      congr 1
    · obtain ⟨l, hl, hx⟩ : ∃ l, l < 2147483648 ∧ x.toNat = 2147483648 + l := ⟨x.toNat - 2147483648, by omega, by omega⟩
      have hor : x.toNat = 2147483648 ||| l := by
        have := Nat.two_pow_add_eq_or_of_lt (i := 31) (b := l) (by omega) 1
        rw [hx]; simpa using this
      have hl2 : l &&& 2147483647 = l := by
        have := Nat.and_two_pow_sub_one_of_lt_two_pow (n := 31) (x := l) (by omega)
        simpa using this
      rw [hor, Nat.and_or_distrib_right]
      have a1 : 2147483648 &&& 18446744071562067967 = 0 := by decide
      have a2 : l &&& 18446744071562067967 = l := by
        rw [← hl2, Nat.and_assoc]
        congr 1
      rw [a1, a2, ← hor, hx]
      simp only [Nat.zero_or]
      omega
  show IntKind.wrap .i64 ((BitVec.ofInt 64 x &&& ~~~BitVec.ofInt 64 2147483648).toNat : Int) = _
  rw [e, wr_small (by omega) (by omega)]
  omega
theorem and_top {x : Int} (h0 : 0 ≤ x) (h1 : x < 4294967296) :
    IntKind.wrap .i64 ((BitVec.ofInt (IntKind.bits .i64) x &&& BitVec.ofInt (IntKind.bits .i64) 2147483648).toNat : Int) = if 2147483648 ≤ x then 2147483648 else 0 := by
  have e : (BitVec.ofInt 64 x &&& BitVec.ofInt 64 2147483648).toNat = if 2147483648 ≤ x.toNat then 2147483648 else 0 := by
    rw [BitVec.toNat_and, ofInt_toNat h0 (by omega)]
    have hM : (BitVec.ofInt 64 2147483648).toNat = 2147483648 := by decide
    rw [hM]
    by_cases hb : x.toNat < 2147483648
    · rw [if_neg (by omega)]
      have : x.toNat &&& 2147483647 = x.toNat := by
        have := Nat.and_two_pow_sub_one_of_lt_two_pow (n := 31) (x := x.toNat) (by omega)
        simpa using this
      rw [← this, Nat.and_assoc]
      have : 2147483647 &&& 2147483648 = 0 := by decide
      rw [this, Nat.and_zero]
    · rw [if_pos (by omega)]
      obtain ⟨l, hl, hx⟩ : ∃ l, l < 2147483648 ∧ x.toNat = 2147483648 + l := ⟨x.toNat - 2147483648, by omega, by omega⟩
      have hor : x.toNat = 2147483648 ||| l := by
        have := Nat.two_pow_add_eq_or_of_lt (i := 31) (b := l) (by omega) 1
        rw [hx]; simpa using this
      have hl2 : l &&& 2147483647 = l := by
        have := Nat.and_two_pow_sub_one_of_lt_two_pow (n := 31) (x := l) (by omega)
        simpa using this
      rw [hor, Nat.and_or_distrib_right]
      have a2 : l &&& 2147483648 = 0 := by
        rw [← hl2, Nat.and_assoc]
        have : 2147483647 &&& 2147483648 = 0 := by decide
        rw [this, Nat.and_zero]
      rw [a2, Nat.and_self, Nat.or_zero]
  show IntKind.wrap .i64 ((BitVec.ofInt 64 x &&& BitVec.ofInt 64 2147483648).toNat : Int) = _
  rw [e, wr_small (by omega) (by split <;> omega)]
  split <;> split <;> omega
/-- A part's bytes are the whole's. -/
theorem byteAt_extract {s : ByteArray} {l h : Nat} {i : Int} (h0 : 0 ≤ i) (h1 : l + i.toNat < h) (h2 : h ≤ s.size) : byteAt (s.extract l h) i = byteAt s (l + i) := by
  unfold byteAt
  have e : (s.extract l h).data.toList[i.toNat]? = s.data.toList[(l + i : Int).toNat]? := by
    rw [ByteArray.data_extract, Array.toList_extract, List.extract_eq_take_drop, List.getElem?_take_of_lt (by omega), List.getElem?_drop]
    congr 1; omega
  rw [e]
theorem extract_size (s : ByteArray) {l h : Nat} (h1 : h ≤ s.size) : (s.extract l h).size = h - l := by
  rw [ByteArray.size_extract]; omega
theorem field_int {H : Type} {enc : TypeId × Value → H} {P : Program} {W : World} {base : Nat} {sp : Nat → Bool} {held : Bool} {n : Nat} {t : TypeId} {k : IntKind} (ht : P.underlying t = some (.int k)) (hc : P.cellsOf t = 1) {cs : Array Value} {o : Nat} {x : DataW H × List MemPlace}
    (h : DataW.trod enc P W base sp held n t ((cs.toList.drop o).take (P.cellsOf t)) = some x) : ∃ z : Int, cs[o]? = some (.int k z) ∧ x = (.lit (.int k z), []) ∧ (Lit.int k z).wf = true := by
  obtain ⟨z, h1, h2, h3⟩ := DataW.trod_int ht h
  refine ⟨z, ?_, h2, h3⟩
  rw [hc] at h1
  have : ((cs.toList.drop o).take 1)[0]? = some (.int k z) := by rw [h1]; rfl
  simpa using this
theorem field_bool {H : Type} {enc : TypeId × Value → H} {P : Program} {W : World} {base : Nat} {sp : Nat → Bool} {held : Bool} {n : Nat} {t : TypeId} (ht : P.underlying t = some .bool) (hc : P.cellsOf t = 1) {cs : Array Value} {o : Nat} {x : DataW H × List MemPlace}
    (h : DataW.trod enc P W base sp held n t ((cs.toList.drop o).take (P.cellsOf t)) = some x) : ∃ z : Bool, cs[o]? = some (.bool z) ∧ x = (.lit (.bool z), []) ∧ True := by
  obtain ⟨z, h1, h2⟩ := DataW.trod_bool ht h
  refine ⟨z, ?_, h2, trivial⟩
  rw [hc] at h1
  have : ((cs.toList.drop o).take 1)[0]? = some (.bool z) := by rw [h1]; rfl
  simpa using this
theorem seq_self (s : ByteArray) : seq s s = true := by unfold seq; simp
theorem list_byte {s : ByteArray} {i : Nat} (h : i < s.size) : ∃ b : UInt8, s.data.toList[i]? = some b ∧ byteAt s i = b.toNat := by
  have : i < s.data.toList.length := by rw [Array.length_toList]; exact h
  refine ⟨_, List.getElem?_eq_getElem this, ?_⟩
  unfold byteAt
  rw [Int.toNat_natCast, List.getElem?_eq_getElem this]
end Go.Ev
