/- Texts as lists of bytes; rows of bytes; tests. -/
import Derived.Test.YtkomaolfjmgppaaDoorEvTb
namespace Go.Ev
open Go RowKit
set_option linter.unusedVariables false

theorem ifK_t {c : Bool} {a b : Prop} (h : c = true) (k : a) : ifK c a b := by rw [h]; exact k
theorem ifK_f {c : Bool} {a b : Prop} (h : c = false) (k : b) : ifK c a b := by rw [h]; exact k
theorem ifK_bool {c : Bool} {a b : Prop} (h1 : c = true → a) (h2 : c = false → b) : ifK c a b := by
  cases c
  · exact h2 rfl
  · exact h1 rfl
/-- Both ways the same. -/
theorem ifK_both {c : Bool} {a : Prop} (h : a) : ifK c a a := by cases c <;> exact h
theorem ba_ext {a b : ByteArray} (h : a.data.toList = b.data.toList) : a = b := by
  apply ByteArray.ext
  exact Array.ext' h
theorem ba_list (L : List UInt8) (s : ByteArray) : ((⟨⟨L⟩⟩ : ByteArray) ++ s).data.toList = L ++ s.data.toList := by
  rw [ByteArray.data_append]; simp
theorem ba_list2 (s t : ByteArray) : (s ++ t).data.toList = s.data.toList ++ t.data.toList := by
  rw [ByteArray.data_append]; simp
theorem ba_len (s : ByteArray) : s.data.toList.length = s.size := Array.length_toList
theorem ba_mk (s : ByteArray) : (⟨⟨s.data.toList⟩⟩ : ByteArray) = s := rfl
theorem toList_ext (s : ByteArray) (l h : Nat) : (s.extract l h).data.toList = (s.data.toList.take h).drop l := by
  rw [ByteArray.data_extract, Array.toList_extract, List.extract_eq_take_drop, List.drop_take]
theorem seq_iff' {a b : ByteArray} : seq a b = true ↔ a.data.toList = b.data.toList := by unfold seq; simp
theorem byteAt_of {s : ByteArray} {i : Nat} {b : UInt8} (h : s.data.toList[i]? = some b) : byteAt s i = b.toNat := by
  unfold byteAt
  rw [Int.toNat_natCast, h]
/-- Bytes as cells. -/
abbrev bcells (l : List UInt8) : List Value := l.map fun b => Value.int .u8 b.toNat
theorem bytesOf_eq (s : ByteArray) : bytesOf s = bcells s.data.toList := rfl
theorem bytesOf_len (s : ByteArray) : (bytesOf s).length = s.size := by
  unfold bytesOf; rw [List.length_map]; exact Array.length_toList
theorem u8s_map (l : List UInt8) : u8s (bcells l) = true := by
  induction l with
  | nil => rfl
  | cons b l ih => exact ih
theorem bytesFrom_map (l : List UInt8) : bytesFrom (bcells l) = l := by
  induction l with
  | nil => rfl
  | cons b l ih =>
    show UInt8.ofNat (Int.toNat (b.toNat : Int)) :: bytesFrom _ = _
    rw [ih, Int.toNat_natCast, UInt8.ofNat_toNat]
theorem bcells_ren (d : List Nat) (l : List UInt8) : (bcells l).map (renV d) = bcells l := by
  unfold bcells; rw [List.map_map]; rfl
theorem bcells_set (l : List UInt8) (i : Nat) (x : Int) (h0 : 0 ≤ x) (h1 : x < 256) : (bcells l).set i (.int .u8 x) = bcells (l.set i (UInt8.ofNat x.toNat)) := by
  unfold bcells
  rw [List.map_set]
  congr 1
  rw [UInt8.toNat_ofNat']
  congr 1
  omega
end Go.Ev
