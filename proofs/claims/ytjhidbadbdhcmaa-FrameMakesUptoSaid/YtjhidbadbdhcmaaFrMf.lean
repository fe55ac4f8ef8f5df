/- What a frame says: one answer for the program and for the document. -/
import Derived.Test.YtjhidbadbdhcmaaFrMe
namespace Go.Ev
open Go Go.Proofs Go.RowKit
set_option linter.unusedVariables false
set_option linter.unusedSimpArgs false
set_option maxRecDepth 100000
set_option maxHeartbeats 4000000
structure Out where
  p : Pt
  is : Bool
  conn : Bool
  code : Int
abbrev zPt : Pt := ⟨noBytes, 0, 0, 0, 0, false, 0⟩
abbrev oF (conn : Bool) (c : Int) : Out := ⟨zPt, true, conn, c⟩
abbrev oS (p : Pt) : Out := ⟨p, false, false, 0⟩
abbrev top1 (t : ByteArray) : Bool := if 2147483648 ≤ big4 t then true else false
def pln (t : ByteArray) (pad : Int) : Out := if (t.size : Int) < pad then oF true 1 else oS ⟨t.extract 0 ((t.size : Int) - pad).toNat, 0, 0, 0, 0, false, 0⟩
def pri (t : ByteArray) (pad : Int) : Out :=
  if t.size < 5 then oF true 6 else
  if ((t.extract 5 t.size).size : Int) < pad then oF true 1 else
  oS ⟨(t.extract 5 t.size).extract 0 (((t.extract 5 t.size).size : Int) - pad).toNat, 0, 0, big4 t % 2147483648, byteAt t 4 + 1, top1 t, 0⟩
def pad0 (fl : Int) (s : ByteArray) : Out :=
  if fl / 8 % 2 = 1 then
    if s.size = 0 then oF true 6 else
    if ((s.extract 1 s.size).size : Int) < byteAt s 0 then oF true 1 else
    oS ⟨(s.extract 1 s.size).extract 0 (((s.extract 1 s.size).size : Int) - byteAt s 0).toNat, 1 + byteAt s 0, 0, 0, 0, false, 0⟩
  else oS ⟨s.extract 0 s.size, 0, 0, 0, 0, false, 0⟩
def pad1 (fl : Int) (s : ByteArray) : Out :=
  if fl / 8 % 2 = 1 then
    if s.size = 0 then oF true 6 else
    if fl / 32 % 2 = 1 then pri (s.extract 1 s.size) (byteAt s 0) else pln (s.extract 1 s.size) (byteAt s 0)
  else if fl / 32 % 2 = 1 then pri s 0 else pln s 0
def par2 (s : ByteArray) : Out := if s.size = 5 then oS ⟨noBytes, 0, 0, big4 s % 2147483648, byteAt s 4 + 1, top1 s, 0⟩ else oF false 6
def par3 (s : ByteArray) : Out := if s.size = 4 then oS ⟨noBytes, 0, big4 s, 0, 0, false, 0⟩ else oF true 6
def par4 (fl : Int) (s : ByteArray) : Out := if setSix s fl = true then oF true 6 else if setCode s = 0 then oS zPt else oF true (setCode s)
def par6 (s : ByteArray) : Out := if s.size = 8 then oS ⟨s, 0, 0, 0, 0, false, 0⟩ else oF true 6
def par7 (s : ByteArray) : Out := if s.size < 8 then oF true 6 else oS ⟨s.extract 8 s.size, 0, big4 (s.extract 4 s.size), big4 s % 2147483648, 0, false, 0⟩
def par8 (st : Int) (s : ByteArray) : Out := if s.size = 4 then (if big4 s % 2147483648 = 0 then oF (if st = 0 then true else false) 1 else oS ⟨noBytes, 0, 0, 0, 0, false, big4 s % 2147483648⟩) else oF true 6
def par16 (s : ByteArray) : Out := if s.size < 4 then oF true 6 else if big4 s % 2147483648 = 0 then oF true 1 else oS ⟨s.extract 4 s.size, 0, 0, big4 s % 2147483648, 0, false, 0⟩
/-- What a frame says, and what is wrong with it (but for the settings that it says). -/
def parO (k fl st : Int) (s : ByteArray) : Out :=
  if k = 0 then (if st = 0 then oF true 1 else pad0 fl s) else
  if k = 1 then (if st = 0 then oF true 1 else pad1 fl s) else
  if k = 2 then (if st = 0 then oF true 1 else par2 s) else
  if k = 3 then (if st = 0 then oF true 1 else par3 s) else
  if k = 4 then (if st = 0 then par4 fl s else oF true 1) else
  if k = 5 then oF true 1 else
  if k = 6 then (if st = 0 then par6 s else oF true 1) else
  if k = 7 then (if st = 0 then par7 s else oF true 1) else
  if k = 8 then par8 st s else
  if k = 9 then (if st = 0 then oF true 1 else oS ⟨s, 0, 0, 0, 0, false, 0⟩) else
  if k = 16 then (if st = 0 then par16 s else oF true 1) else oS zPt
/-- Are there settings? -/
def parR (k fl st : Int) (s : ByteArray) : Bool := decide (k = 4 ∧ st = 0 ∧ setSix s fl = false ∧ setCode s = 0 ∧ s.size / 6 ≠ 0)
abbrev outV (o : Out) (st : Value) : Value := .tuple #[ptV o.p st, .agg ⟨wrongL o.is o.conn o.code⟩]
def setObj (s : ByteArray) : AObj := .cells ((setRow s (s.size / 6)).flatMap setCel) ⟨2, some 39, true⟩ .live []
def parS (k fl st : Int) (s : ByteArray) (b : Bool) : SpR := .br (parR k fl st s) (.ret b (outV (parO k fl st s) (slb 0 (s.size / 6))) [setObj s]) (.ret b (outV (parO k fl st s) nl) [])
abbrev PQ (k fl st : Int) (s : ByteArray) (v : Value) (H : AHeap) : Prop := ∃ os, (parS k fl st s true).get = some (true, v, os) ∧ H = pushes AHeap.empty os
theorem pq_mk {k fl st : Int} {s d : ByteArray} {pad code last weight more c : Int} {only is conn : Bool} (hk : parR k fl st s = false) (h : parO k fl st s = ⟨⟨d, pad, code, last, weight, only, more⟩, is, conn, c⟩) :
    PQ k fl st s (.tuple #[.agg ⟨partsL d pad code last weight only more nl⟩, .agg ⟨wrongL is conn c⟩]) { size := 0, tr := Tr.nil } := by
  refine ⟨[], ?_, rfl⟩
  unfold parS
  simp only [SpR.get, hk, h]
theorem noR {k fl st : Int} {s : ByteArray} (h : k ≠ 4) : parR k fl st s = false := by unfold parR; simp [h]
theorem ifK_nd {p : Prop} [Decidable p] {a b : Prop} (h1 : p → b) (h2 : ¬p → a) : ifK (!decide p) a b := by
  by_cases h : p
  · rw [decide_eq_true h]; exact h1 h
  · rw [decide_eq_false h]; exact h2 h
theorem bitT {p : Prop} [Decidable p] {x : Int} (hx : x ≠ 0) : (!decide ((if p then x else 0) = 0)) = decide p := by
  by_cases h : p <;> simp [h, hx]
theorem id31 (t : ByteArray) : IntKind.wrap IntKind.i64 (↑(BitVec.toNat (BitVec.ofInt (IntKind.bits IntKind.i64) (big4 t) &&& ~~~BitVec.ofInt (IntKind.bits IntKind.i64) 2147483648)) : Int) = big4 t % 2147483648 := andNot_top (big4_bd t).1 (big4_bd t).2
theorem topT (t : ByteArray) : IntKind.wrap IntKind.i64 (↑(BitVec.toNat (BitVec.ofInt (IntKind.bits IntKind.i64) (big4 t) &&& BitVec.ofInt (IntKind.bits IntKind.i64) 2147483648)) : Int) = if 2147483648 ≤ big4 t then 2147483648 else 0 := and_top (big4_bd t).1 (big4_bd t).2
theorem wr_b1 (t : ByteArray) (i : Int) : IntKind.wrap IntKind.i64 (byteAt t i + 1) = byteAt t i + 1 := by have := byteAt_bd t i; exact wr_small (by omega) (by omega)
theorem wr_1b (t : ByteArray) (i : Int) : IntKind.wrap IntKind.i64 (1 + byteAt t i) = 1 + byteAt t i := by have := byteAt_bd t i; exact wr_small (by omega) (by omega)
theorem wr_sub {n : Nat} (hn : n ≤ 1000000000000) (t : ByteArray) (i : Int) : IntKind.wrap IntKind.i64 ((n : Int) - byteAt t i) = (n : Int) - byteAt t i := by have := byteAt_bd t i; rw [wr_i64]; omega
theorem wr_sub0 {n : Nat} (hn : n ≤ 1000000000000) : IntKind.wrap IntKind.i64 ((n : Int) - 0) = (n : Int) := by rw [wr_i64]; omega
theorem tzc (n : Nat) : Int.toNat (n : Int) = n := by cases n <;> rfl
theorem sub0c (n : Nat) : Int.toNat ((n : Int) - 0) = n := by rw [Int.sub_zero]; cases n <;> rfl
theorem tz0 : Int.toNat 0 = 0 := by decide
theorem tz1 : Int.toNat 1 = 1 := by decide
theorem tz4 : Int.toNat 4 = 4 := by decide
theorem tz5 : Int.toNat 5 = 5 := by decide
theorem tz8 : Int.toNat 8 = 8 := by decide
abbrev pEnd (k fl st : Int) (s : ByteArray) : KF := endGK frP [.cell 2 32, .cell 3 34] 0 sRoots (PQ k fl st s)
abbrev pHd (k fl st : Int) (s : ByteArray) (R : RFun) : Prop := Hd (startA frP pNoHint 30 20 15 0 162 [] R pB ([.agg #[vi k, vi fl, vi st, .string s]] ++ List.replicate 161 undef) AHeap.empty (pEnd k fl st s))
abbrev qHd (k fl st : Int) (s : ByteArray) (R : RFun) : Prop := Hd (startA frP pNoHint 30 20 16 0 81 [] R qB ([.agg #[vi k, vi fl, vi st, .string s]] ++ List.replicate 80 undef) AHeap.empty (pEnd k fl st s))

theorem parO_0 (fl st : Int) (s : ByteArray) : parO 0 fl st s = (if st = 0 then oF true 1 else pad0 fl s) := by unfold parO; simp
theorem parO_1 (fl st : Int) (s : ByteArray) : parO 1 fl st s = (if st = 0 then oF true 1 else pad1 fl s) := by unfold parO; simp
theorem parO_2 (fl st : Int) (s : ByteArray) : parO 2 fl st s = (if st = 0 then oF true 1 else par2 s) := by unfold parO; simp
theorem parO_3 (fl st : Int) (s : ByteArray) : parO 3 fl st s = (if st = 0 then oF true 1 else par3 s) := by unfold parO; simp
theorem parO_4 (fl st : Int) (s : ByteArray) : parO 4 fl st s = (if st = 0 then par4 fl s else oF true 1) := by unfold parO; simp
theorem parO_5 (fl st : Int) (s : ByteArray) : parO 5 fl st s = (oF true 1) := by unfold parO; simp
theorem parO_6 (fl st : Int) (s : ByteArray) : parO 6 fl st s = (if st = 0 then par6 s else oF true 1) := by unfold parO; simp
theorem parO_7 (fl st : Int) (s : ByteArray) : parO 7 fl st s = (if st = 0 then par7 s else oF true 1) := by unfold parO; simp
theorem parO_8 (fl st : Int) (s : ByteArray) : parO 8 fl st s = (par8 st s) := by unfold parO; simp
theorem parO_9 (fl st : Int) (s : ByteArray) : parO 9 fl st s = (if st = 0 then oF true 1 else oS ⟨s, 0, 0, 0, 0, false, 0⟩) := by unfold parO; simp
theorem parO_16 (fl st : Int) (s : ByteArray) : parO 16 fl st s = (if st = 0 then par16 s else oF true 1) := by unfold parO; simp
theorem tmodB (t : ByteArray) : Int.tmod (big4 t) 2147483648 = big4 t % 2147483648 := Int.tmod_eq_emod_of_nonneg (big4_bd t).1
theorem big4_top (t : ByteArray) : ∃ r, big4 t = byteAt t 0 * 16777216 + r ∧ 0 ≤ r ∧ r < 16777216 := by
  have h1 := byteAt_bd t 1; have h2 := byteAt_bd t 2; have h3 := byteAt_bd t 3
  exact ⟨byteAt t 1 * 65536 + byteAt t 2 * 256 + byteAt t 3, by unfold big4; omega, by omega, by omega⟩
theorem num04 {t : ByteArray} (h : 4 ≤ t.size) : numF (t.extract 0 4) = big4 t := by
  rw [num4 (by rw [extract_size t h]), big4_ext (by omega) h]
  rfl
theorem num48 {t : ByteArray} (h : 8 ≤ t.size) : numF (t.extract 4 8) = big4 (t.extract 4 t.size) := by
  rw [num4 (by rw [extract_size t h]), big4_ext (by omega) h, big4_ext (by omega) (Nat.le_refl _)]
theorem ph2 (fl st : Int) (s : ByteArray) (R : RFun) (hb : s.size ≤ 1000000000000) : pHd 2 fl st s R := by
  constructor
  rw [pk2]
  try simp only [wr_byte, wr_b1, wr_1b, id31, topT, bit8, bit32, seq_nil, bitT (show (2147483648 : Int) ≠ 0 by decide), bitT (show (8 : Int) ≠ 0 by decide), bitT (show (32 : Int) ≠ 0 by decide), tzc, tz0, tz1, tz4, tz5, tz8, true_and]
  repeat' first
    | (with_reducible refine pq_mk (noR (by decide)) ?_; rw [parO_2]; (try unfold par2); (try simp only [top1]); (repeat' (first | rfl | (exfalso; omega) | split)); done)
    | with_reducible refine ifK_nd (fun _ => ?_) (fun _ => ?_)
    | with_reducible refine ifK_dec (fun _ => ?_) (fun _ => ?_)
  all_goals (exfalso; omega)
theorem ph3 (fl st : Int) (s : ByteArray) (R : RFun) (hb : s.size ≤ 1000000000000) : pHd 3 fl st s R := by
  constructor
  rw [pk3]
  try simp only [wr_byte, wr_b1, wr_1b, id31, topT, bit8, bit32, seq_nil, bitT (show (2147483648 : Int) ≠ 0 by decide), bitT (show (8 : Int) ≠ 0 by decide), bitT (show (32 : Int) ≠ 0 by decide), tzc, tz0, tz1, tz4, tz5, tz8, true_and]
  repeat' first
    | (with_reducible refine pq_mk (noR (by decide)) ?_; rw [parO_3]; (try unfold par3); (try simp only [top1]); (repeat' (first | rfl | (exfalso; omega) | split)); done)
    | with_reducible refine ifK_nd (fun _ => ?_) (fun _ => ?_)
    | with_reducible refine ifK_dec (fun _ => ?_) (fun _ => ?_)
  all_goals (exfalso; omega)
theorem ph5 (fl st : Int) (s : ByteArray) (R : RFun) (hb : s.size ≤ 1000000000000) : pHd 5 fl st s R := by
  constructor
  rw [pk5]
  try simp only [wr_byte, wr_b1, wr_1b, id31, topT, bit8, bit32, seq_nil, bitT (show (2147483648 : Int) ≠ 0 by decide), bitT (show (8 : Int) ≠ 0 by decide), bitT (show (32 : Int) ≠ 0 by decide), tzc, tz0, tz1, tz4, tz5, tz8, true_and]
  repeat' first
    | (with_reducible refine pq_mk (noR (by decide)) ?_; rw [parO_5]; (try unfold par2); (try simp only [top1]); (repeat' (first | rfl | (exfalso; omega) | split)); done)
    | with_reducible refine ifK_nd (fun _ => ?_) (fun _ => ?_)
    | with_reducible refine ifK_dec (fun _ => ?_) (fun _ => ?_)
  all_goals (exfalso; omega)
theorem ph6 (fl st : Int) (s : ByteArray) (R : RFun) (hb : s.size ≤ 1000000000000) : pHd 6 fl st s R := by
  constructor
  rw [pk6]
  try simp only [wr_byte, wr_b1, wr_1b, id31, topT, bit8, bit32, seq_nil, bitT (show (2147483648 : Int) ≠ 0 by decide), bitT (show (8 : Int) ≠ 0 by decide), bitT (show (32 : Int) ≠ 0 by decide), tzc, tz0, tz1, tz4, tz5, tz8, true_and]
  repeat' first
    | (with_reducible refine pq_mk (noR (by decide)) ?_; rw [parO_6]; (try unfold par6); (try simp only [top1]); (repeat' (first | rfl | (exfalso; omega) | split)); done)
    | with_reducible refine ifK_nd (fun _ => ?_) (fun _ => ?_)
    | with_reducible refine ifK_dec (fun _ => ?_) (fun _ => ?_)
  all_goals (exfalso; omega)
theorem ph8 (fl st : Int) (s : ByteArray) (R : RFun) (hb : s.size ≤ 1000000000000) : pHd 8 fl st s R := by
  constructor
  rw [pk8]
  try simp only [wr_byte, wr_b1, wr_1b, id31, topT, bit8, bit32, seq_nil, bitT (show (2147483648 : Int) ≠ 0 by decide), bitT (show (8 : Int) ≠ 0 by decide), bitT (show (32 : Int) ≠ 0 by decide), tzc, tz0, tz1, tz4, tz5, tz8, true_and]
  repeat' first
    | (with_reducible refine pq_mk (noR (by decide)) ?_; rw [parO_8]; (try unfold par8); (try simp only [top1]); (repeat' (first | rfl | (exfalso; omega) | split)); done)
    | with_reducible refine ifK_nd (fun _ => ?_) (fun _ => ?_)
    | with_reducible refine ifK_dec (fun _ => ?_) (fun _ => ?_)
  all_goals (exfalso; omega)
theorem ph9 (fl st : Int) (s : ByteArray) (R : RFun) (hb : s.size ≤ 1000000000000) : pHd 9 fl st s R := by
  constructor
  rw [pk9]
  try simp only [wr_byte, wr_b1, wr_1b, id31, topT, bit8, bit32, seq_nil, bitT (show (2147483648 : Int) ≠ 0 by decide), bitT (show (8 : Int) ≠ 0 by decide), bitT (show (32 : Int) ≠ 0 by decide), tzc, tz0, tz1, tz4, tz5, tz8, true_and]
  repeat' first
    | (with_reducible refine pq_mk (noR (by decide)) ?_; rw [parO_9]; (try unfold par2); (try simp only [top1]); (repeat' (first | rfl | (exfalso; omega) | split)); done)
    | with_reducible refine ifK_nd (fun _ => ?_) (fun _ => ?_)
    | with_reducible refine ifK_dec (fun _ => ?_) (fun _ => ?_)
  all_goals (exfalso; omega)
theorem ph16 (fl st : Int) (s : ByteArray) (R : RFun) (hb : s.size ≤ 1000000000000) : pHd 16 fl st s R := by
  constructor
  rw [pk16]
  have hx : (s.extract 4 s.size).size = s.size - 4 := extract_size s (Nat.le_refl _)
  have hx8 : (s.extract 8 s.size).size = s.size - 8 := extract_size s (Nat.le_refl _)
  try simp only [wr_byte, wr_b1, wr_1b, id31, topT, bit8, bit32, seq_nil, bitT (show (2147483648 : Int) ≠ 0 by decide), bitT (show (8 : Int) ≠ 0 by decide), bitT (show (32 : Int) ≠ 0 by decide), tzc, tz0, tz1, tz4, tz5, tz8, true_and]
  repeat' first
    | (with_reducible refine pq_mk (noR (by decide)) ?_; rw [parO_16]; (try unfold par16); (try simp only [top1]); (repeat' (first | rfl | (exfalso; omega) | split)); done)
    | with_reducible refine ifK_nd (fun _ => ?_) (fun _ => ?_)
    | with_reducible refine ifK_dec (fun _ => ?_) (fun _ => ?_)
  all_goals (exfalso; omega)
theorem ph7 (fl st : Int) (s : ByteArray) (R : RFun) (hb : s.size ≤ 1000000000000) : pHd 7 fl st s R := by
  constructor
  rw [pk7]
  have hx : (s.extract 4 s.size).size = s.size - 4 := extract_size s (Nat.le_refl _)
  have hx8 : (s.extract 8 s.size).size = s.size - 8 := extract_size s (Nat.le_refl _)
  try simp only [wr_byte, wr_b1, wr_1b, id31, topT, bit8, bit32, seq_nil, bitT (show (2147483648 : Int) ≠ 0 by decide), bitT (show (8 : Int) ≠ 0 by decide), bitT (show (32 : Int) ≠ 0 by decide), tzc, tz0, tz1, tz4, tz5, tz8, true_and]
  repeat' first
    | (with_reducible refine pq_mk (noR (by decide)) ?_; rw [parO_7]; (try unfold par7); (try simp only [top1]); (repeat' (first | rfl | (exfalso; omega) | split)); done)
    | with_reducible refine ifK_nd (fun _ => ?_) (fun _ => ?_)
    | with_reducible refine ifK_dec (fun _ => ?_) (fun _ => ?_)
  all_goals (exfalso; omega)
end Go.Ev

/- What a frame says, kind 0. -/
namespace Go.Ev
open Go Go.Proofs Go.RowKit
set_option linter.unusedVariables false
set_option linter.unusedSimpArgs false
set_option maxRecDepth 100000
set_option maxHeartbeats 4000000
theorem ph0 (fl st : Int) (s : ByteArray) (R : RFun) (hb : s.size ≤ 1000000000000) : pHd 0 fl st s R := by
  constructor
  rw [pk0]
  have hx : (s.extract 1 s.size).size = s.size - 1 := extract_size s (Nat.le_refl _)
  have hy : (s.extract 5 s.size).size = s.size - 5 := extract_size s (Nat.le_refl _)
  have hz : ((s.extract 1 s.size).extract 5 (s.extract 1 s.size).size).size = s.size - 1 - 5 := by rw [extract_size _ (Nat.le_refl _), hx]
  have g0 := byteAt_bd s 0
  have wa := wr_sub (n := (s.extract 1 s.size).size) (by omega) s 0
  have wb := wr_sub (n := ((s.extract 1 s.size).extract 5 (s.extract 1 s.size).size).size) (by omega) s 0
  have wc := wr_sub0 (n := s.size) hb
  have wd := wr_sub0 (n := (s.extract 5 s.size).size) (by omega)
  try simp only [wr_byte, wr_b1, wr_1b, id31, topT, bit8, bit32, seq_nil, bitT (show (2147483648 : Int) ≠ 0 by decide), bitT (show (8 : Int) ≠ 0 by decide), bitT (show (32 : Int) ≠ 0 by decide), tzc, tz0, tz1, tz4, tz5, tz8, true_and, wa, wb, wc, wd]
  repeat' first
    | (with_reducible refine pq_mk (noR (by decide)) ?_; rw [parO_0]; (try unfold pad0); (try simp only [top1]); (repeat' (first | rfl | (exfalso; omega) | split)); done)
    | with_reducible refine ifK_nd (fun _ => ?_) (fun _ => ?_)
    | with_reducible refine ifK_dec (fun _ => ?_) (fun _ => ?_)
  all_goals (exfalso; omega)
end Go.Ev

/- What a frame says, kind 1. -/
namespace Go.Ev
open Go Go.Proofs Go.RowKit
set_option linter.unusedVariables false
set_option linter.unusedSimpArgs false
set_option maxRecDepth 100000
set_option maxHeartbeats 4000000
theorem ph1 (fl st : Int) (s : ByteArray) (R : RFun) (hb : s.size ≤ 1000000000000) : pHd 1 fl st s R := by
  constructor
  rw [pk1]
  have hx : (s.extract 1 s.size).size = s.size - 1 := extract_size s (Nat.le_refl _)
  have hy : (s.extract 5 s.size).size = s.size - 5 := extract_size s (Nat.le_refl _)
  have hz : ((s.extract 1 s.size).extract 5 (s.extract 1 s.size).size).size = s.size - 1 - 5 := by rw [extract_size _ (Nat.le_refl _), hx]
  have g0 := byteAt_bd s 0
  have wa := wr_sub (n := (s.extract 1 s.size).size) (by omega) s 0
  have wb := wr_sub (n := ((s.extract 1 s.size).extract 5 (s.extract 1 s.size).size).size) (by omega) s 0
  have wc := wr_sub0 (n := s.size) hb
  have wd := wr_sub0 (n := (s.extract 5 s.size).size) (by omega)
  try simp only [wr_byte, wr_b1, wr_1b, id31, topT, bit8, bit32, seq_nil, bitT (show (2147483648 : Int) ≠ 0 by decide), bitT (show (8 : Int) ≠ 0 by decide), bitT (show (32 : Int) ≠ 0 by decide), tzc, tz0, tz1, tz4, tz5, tz8, true_and, wa, wb, wc, wd]
  repeat' first
    | (with_reducible refine pq_mk (noR (by decide)) ?_; rw [parO_1]; (try unfold pad1 pri pln); (try simp only [top1, sub0c]); (repeat' (first | rfl | (exfalso; omega) | split)); done)
    | with_reducible refine ifK_nd (fun _ => ?_) (fun _ => ?_)
    | with_reducible refine ifK_dec (fun _ => ?_) (fun _ => ?_)
  all_goals (exfalso; omega)
end Go.Ev

/- What a frame says: the document's answer. -/
namespace Go.Ev
open Go Go.Proofs Go.RowKit
set_option linter.unusedVariables false
set_option linter.unusedSimpArgs false
set_option maxRecDepth 100000
set_option maxHeartbeats 4000000
theorem qh2 (fl st : Int) (s : ByteArray) (R : RFun) (hb : s.size ≤ 1000000000000) : qHd 2 fl st s R := by
  constructor
  rw [qk2]
  by_cases hn : 4 ≤ s.size
  · obtain ⟨r, hr1, hr2, hr3⟩ := big4_top s
    have g0 := byteAt_bd s 0
    have z1 : (s.extract 0 4).size = 4 := by rw [extract_size s (by omega)]
    try simp only [wr_byte, wr_b1, wr_1b, id31, topT, bit8, bit32, seq_nil, bitT (show (2147483648 : Int) ≠ 0 by decide), bitT (show (8 : Int) ≠ 0 by decide), bitT (show (32 : Int) ≠ 0 by decide), tzc, tz0, tz1, tz4, tz5, tz8, true_and, tmodB, num04 hn]
    repeat' first
      | (with_reducible refine pq_mk (noR (by decide)) ?_; rw [parO_2]; (try unfold par2); (try simp only [top1, sub0c]); (repeat' (first | rfl | (exfalso; omega) | split)); done)
      | with_reducible refine ifK_nd (fun _ => ?_) (fun _ => ?_)
      | with_reducible refine ifK_dec (fun _ => ?_) (fun _ => ?_)
    all_goals (exfalso; omega)
  · have z1 : (s.extract 0 4).size ≤ 4 := by
      rw [ByteArray.size_extract]; omega
    try simp only [wr_byte, wr_b1, wr_1b, id31, topT, bit8, bit32, seq_nil, bitT (show (2147483648 : Int) ≠ 0 by decide), bitT (show (8 : Int) ≠ 0 by decide), bitT (show (32 : Int) ≠ 0 by decide), tzc, tz0, tz1, tz4, tz5, tz8, true_and, tmodB]
    repeat' first
      | (with_reducible refine pq_mk (noR (by decide)) ?_; rw [parO_2]; (try unfold par2); (try simp only [top1, sub0c]); (repeat' (first | rfl | (exfalso; omega) | split)); done)
      | with_reducible refine ifK_nd (fun _ => ?_) (fun _ => ?_)
      | with_reducible refine ifK_dec (fun _ => ?_) (fun _ => ?_)
    all_goals (exfalso; omega)
theorem qh3 (fl st : Int) (s : ByteArray) (R : RFun) (hb : s.size ≤ 1000000000000) : qHd 3 fl st s R := by
  constructor
  rw [qk3]
  by_cases hn : s.size = 4
  · obtain ⟨r, hr1, hr2, hr3⟩ := big4_top s
    have g0 := byteAt_bd s 0
    have z1 : (s.extract 0 4).size = 4 := by rw [extract_size s (by omega)]
    try simp only [wr_byte, wr_b1, wr_1b, id31, topT, bit8, bit32, seq_nil, bitT (show (2147483648 : Int) ≠ 0 by decide), bitT (show (8 : Int) ≠ 0 by decide), bitT (show (32 : Int) ≠ 0 by decide), tzc, tz0, tz1, tz4, tz5, tz8, true_and, tmodB, num4 hn]
    repeat' first
      | (with_reducible refine pq_mk (noR (by decide)) ?_; rw [parO_3]; (try unfold par3); (try simp only [top1, sub0c]); (repeat' (first | rfl | (exfalso; omega) | split)); done)
      | with_reducible refine ifK_nd (fun _ => ?_) (fun _ => ?_)
      | with_reducible refine ifK_dec (fun _ => ?_) (fun _ => ?_)
    all_goals (exfalso; omega)
  · have z1 : (s.extract 0 4).size ≤ 4 := by
      rw [ByteArray.size_extract]; omega
    try simp only [wr_byte, wr_b1, wr_1b, id31, topT, bit8, bit32, seq_nil, bitT (show (2147483648 : Int) ≠ 0 by decide), bitT (show (8 : Int) ≠ 0 by decide), bitT (show (32 : Int) ≠ 0 by decide), tzc, tz0, tz1, tz4, tz5, tz8, true_and, tmodB]
    repeat' first
      | (with_reducible refine pq_mk (noR (by decide)) ?_; rw [parO_3]; (try unfold par3); (try simp only [top1, sub0c]); (repeat' (first | rfl | (exfalso; omega) | split)); done)
      | with_reducible refine ifK_nd (fun _ => ?_) (fun _ => ?_)
      | with_reducible refine ifK_dec (fun _ => ?_) (fun _ => ?_)
    all_goals (exfalso; omega)
theorem qh5 (fl st : Int) (s : ByteArray) (R : RFun) (hb : s.size ≤ 1000000000000) : qHd 5 fl st s R := by
  constructor
  rw [qk5]
  try simp only [wr_byte, wr_b1, wr_1b, id31, topT, bit8, bit32, seq_nil, bitT (show (2147483648 : Int) ≠ 0 by decide), bitT (show (8 : Int) ≠ 0 by decide), bitT (show (32 : Int) ≠ 0 by decide), tzc, tz0, tz1, tz4, tz5, tz8, true_and, tmodB]
  repeat' first
    | (with_reducible refine pq_mk (noR (by decide)) ?_; rw [parO_5]; (try unfold par2); (try simp only [top1, sub0c]); (repeat' (first | rfl | (exfalso; omega) | split)); done)
    | with_reducible refine ifK_nd (fun _ => ?_) (fun _ => ?_)
    | with_reducible refine ifK_dec (fun _ => ?_) (fun _ => ?_)
  all_goals (exfalso; omega)
theorem qh6 (fl st : Int) (s : ByteArray) (R : RFun) (hb : s.size ≤ 1000000000000) : qHd 6 fl st s R := by
  constructor
  rw [qk6]
  try simp only [wr_byte, wr_b1, wr_1b, id31, topT, bit8, bit32, seq_nil, bitT (show (2147483648 : Int) ≠ 0 by decide), bitT (show (8 : Int) ≠ 0 by decide), bitT (show (32 : Int) ≠ 0 by decide), tzc, tz0, tz1, tz4, tz5, tz8, true_and, tmodB]
  repeat' first
    | (with_reducible refine pq_mk (noR (by decide)) ?_; rw [parO_6]; (try unfold par6); (try simp only [top1, sub0c]); (repeat' (first | rfl | (exfalso; omega) | split)); done)
    | with_reducible refine ifK_nd (fun _ => ?_) (fun _ => ?_)
    | with_reducible refine ifK_dec (fun _ => ?_) (fun _ => ?_)
  all_goals (exfalso; omega)
theorem qh8 (fl st : Int) (s : ByteArray) (R : RFun) (hb : s.size ≤ 1000000000000) : qHd 8 fl st s R := by
  constructor
  rw [qk8]
  by_cases hn : s.size = 4
  · obtain ⟨r, hr1, hr2, hr3⟩ := big4_top s
    have g0 := byteAt_bd s 0
    have z1 : (s.extract 0 4).size = 4 := by rw [extract_size s (by omega)]
    try simp only [wr_byte, wr_b1, wr_1b, id31, topT, bit8, bit32, seq_nil, bitT (show (2147483648 : Int) ≠ 0 by decide), bitT (show (8 : Int) ≠ 0 by decide), bitT (show (32 : Int) ≠ 0 by decide), tzc, tz0, tz1, tz4, tz5, tz8, true_and, tmodB, num4 hn]
    repeat' first
      | (with_reducible refine pq_mk (noR (by decide)) ?_; rw [parO_8]; (try unfold par8); (try simp only [top1, sub0c]); (repeat' (first | rfl | (exfalso; omega) | split)); done)
      | with_reducible refine ifK_nd (fun _ => ?_) (fun _ => ?_)
      | with_reducible refine ifK_dec (fun _ => ?_) (fun _ => ?_)
    all_goals (exfalso; omega)
  · have z1 : (s.extract 0 4).size ≤ 4 := by
      rw [ByteArray.size_extract]; omega
    try simp only [wr_byte, wr_b1, wr_1b, id31, topT, bit8, bit32, seq_nil, bitT (show (2147483648 : Int) ≠ 0 by decide), bitT (show (8 : Int) ≠ 0 by decide), bitT (show (32 : Int) ≠ 0 by decide), tzc, tz0, tz1, tz4, tz5, tz8, true_and, tmodB]
    repeat' first
      | (with_reducible refine pq_mk (noR (by decide)) ?_; rw [parO_8]; (try unfold par8); (try simp only [top1, sub0c]); (repeat' (first | rfl | (exfalso; omega) | split)); done)
      | with_reducible refine ifK_nd (fun _ => ?_) (fun _ => ?_)
      | with_reducible refine ifK_dec (fun _ => ?_) (fun _ => ?_)
    all_goals (exfalso; omega)
theorem qh9 (fl st : Int) (s : ByteArray) (R : RFun) (hb : s.size ≤ 1000000000000) : qHd 9 fl st s R := by
  constructor
  rw [qk9]
  try simp only [wr_byte, wr_b1, wr_1b, id31, topT, bit8, bit32, seq_nil, bitT (show (2147483648 : Int) ≠ 0 by decide), bitT (show (8 : Int) ≠ 0 by decide), bitT (show (32 : Int) ≠ 0 by decide), tzc, tz0, tz1, tz4, tz5, tz8, true_and, tmodB]
  repeat' first
    | (with_reducible refine pq_mk (noR (by decide)) ?_; rw [parO_9]; (try unfold par2); (try simp only [top1, sub0c]); (repeat' (first | rfl | (exfalso; omega) | split)); done)
    | with_reducible refine ifK_nd (fun _ => ?_) (fun _ => ?_)
    | with_reducible refine ifK_dec (fun _ => ?_) (fun _ => ?_)
  all_goals (exfalso; omega)
theorem qh16 (fl st : Int) (s : ByteArray) (R : RFun) (hb : s.size ≤ 1000000000000) : qHd 16 fl st s R := by
  constructor
  rw [qk16]
  have hx : (s.extract 4 s.size).size = s.size - 4 := extract_size s (Nat.le_refl _)
  have hx8 : (s.extract 8 s.size).size = s.size - 8 := extract_size s (Nat.le_refl _)
  by_cases hn : 4 ≤ s.size
  · obtain ⟨r, hr1, hr2, hr3⟩ := big4_top s
    have g0 := byteAt_bd s 0
    have z1 : (s.extract 0 4).size = 4 := by rw [extract_size s (by omega)]
    try simp only [wr_byte, wr_b1, wr_1b, id31, topT, bit8, bit32, seq_nil, bitT (show (2147483648 : Int) ≠ 0 by decide), bitT (show (8 : Int) ≠ 0 by decide), bitT (show (32 : Int) ≠ 0 by decide), tzc, tz0, tz1, tz4, tz5, tz8, true_and, tmodB, num04 hn]
    repeat' first
      | (with_reducible refine pq_mk (noR (by decide)) ?_; rw [parO_16]; (try unfold par16); (try simp only [top1, sub0c]); (repeat' (first | rfl | (exfalso; omega) | split)); done)
      | with_reducible refine ifK_nd (fun _ => ?_) (fun _ => ?_)
      | with_reducible refine ifK_dec (fun _ => ?_) (fun _ => ?_)
    all_goals (exfalso; omega)
  · have z1 : (s.extract 0 4).size ≤ 4 := by
      rw [ByteArray.size_extract]; omega
    try simp only [wr_byte, wr_b1, wr_1b, id31, topT, bit8, bit32, seq_nil, bitT (show (2147483648 : Int) ≠ 0 by decide), bitT (show (8 : Int) ≠ 0 by decide), bitT (show (32 : Int) ≠ 0 by decide), tzc, tz0, tz1, tz4, tz5, tz8, true_and, tmodB]
    repeat' first
      | (with_reducible refine pq_mk (noR (by decide)) ?_; rw [parO_16]; (try unfold par16); (try simp only [top1, sub0c]); (repeat' (first | rfl | (exfalso; omega) | split)); done)
      | with_reducible refine ifK_nd (fun _ => ?_) (fun _ => ?_)
      | with_reducible refine ifK_dec (fun _ => ?_) (fun _ => ?_)
    all_goals (exfalso; omega)
theorem qh7 (fl st : Int) (s : ByteArray) (R : RFun) (hb : s.size ≤ 1000000000000) : qHd 7 fl st s R := by
  constructor
  rw [qk7]
  have hx : (s.extract 4 s.size).size = s.size - 4 := extract_size s (Nat.le_refl _)
  have hx8 : (s.extract 8 s.size).size = s.size - 8 := extract_size s (Nat.le_refl _)
  have hx48 : (s.extract 4 8).size ≤ 4 := by rw [ByteArray.size_extract]; omega
  by_cases hn : 8 ≤ s.size
  · obtain ⟨r, hr1, hr2, hr3⟩ := big4_top s
    have g0 := byteAt_bd s 0
    have z1 : (s.extract 0 4).size = 4 := by rw [extract_size s (by omega)]
    try simp only [wr_byte, wr_b1, wr_1b, id31, topT, bit8, bit32, seq_nil, bitT (show (2147483648 : Int) ≠ 0 by decide), bitT (show (8 : Int) ≠ 0 by decide), bitT (show (32 : Int) ≠ 0 by decide), tzc, tz0, tz1, tz4, tz5, tz8, true_and, tmodB, num04 (show 4 ≤ s.size by omega), num48 hn]
    repeat' first
      | (with_reducible refine pq_mk (noR (by decide)) ?_; rw [parO_7]; (try unfold par7); (try simp only [top1, sub0c]); (repeat' (first | rfl | (exfalso; omega) | split)); done)
      | with_reducible refine ifK_nd (fun _ => ?_) (fun _ => ?_)
      | with_reducible refine ifK_dec (fun _ => ?_) (fun _ => ?_)
    all_goals (exfalso; omega)
  · have z1 : (s.extract 0 4).size ≤ 4 := by
      rw [ByteArray.size_extract]; omega
    try simp only [wr_byte, wr_b1, wr_1b, id31, topT, bit8, bit32, seq_nil, bitT (show (2147483648 : Int) ≠ 0 by decide), bitT (show (8 : Int) ≠ 0 by decide), bitT (show (32 : Int) ≠ 0 by decide), tzc, tz0, tz1, tz4, tz5, tz8, true_and, tmodB]
    repeat' first
      | (with_reducible refine pq_mk (noR (by decide)) ?_; rw [parO_7]; (try unfold par7); (try simp only [top1, sub0c]); (repeat' (first | rfl | (exfalso; omega) | split)); done)
      | with_reducible refine ifK_nd (fun _ => ?_) (fun _ => ?_)
      | with_reducible refine ifK_dec (fun _ => ?_) (fun _ => ?_)
    all_goals (exfalso; omega)
end Go.Ev

/- What a frame says: the document's answer, kinds 0 and 1. -/
namespace Go.Ev
open Go Go.Proofs Go.RowKit
set_option linter.unusedVariables false
set_option linter.unusedSimpArgs false
set_option maxRecDepth 100000
set_option maxHeartbeats 4000000
theorem qh0 (fl st : Int) (s : ByteArray) (R : RFun) (hb : s.size ≤ 1000000000000) : qHd 0 fl st s R := by
  constructor
  rw [qk0]
  have hx : (s.extract 1 s.size).size = s.size - 1 := extract_size s (Nat.le_refl _)
  have hy : (s.extract 5 s.size).size = s.size - 5 := extract_size s (Nat.le_refl _)
  have hz : ((s.extract 1 s.size).extract 5 (s.extract 1 s.size).size).size = s.size - 1 - 5 := by rw [extract_size _ (Nat.le_refl _), hx]
  have g0 := byteAt_bd s 0
  have wa := wr_sub (n := (s.extract 1 s.size).size) (by omega) s 0
  have wb := wr_sub (n := ((s.extract 1 s.size).extract 5 (s.extract 1 s.size).size).size) (by omega) s 0
  have wc := wr_sub0 (n := s.size) hb
  have wd := wr_sub0 (n := (s.extract 5 s.size).size) (by omega)
  have wz : IntKind.wrap IntKind.i64 ((0 : Int) + 1) = 1 := by decide
  try simp only [wr_byte, wr_b1, wr_1b, id31, topT, bit8, bit32, seq_nil, bitT (show (2147483648 : Int) ≠ 0 by decide), bitT (show (8 : Int) ≠ 0 by decide), bitT (show (32 : Int) ≠ 0 by decide), tzc, tz0, tz1, tz4, tz5, tz8, true_and, tmodB, wa, wb, wc, wd, wz, Int.add_comm (byteAt s 0) 1]
  repeat' first
    | (with_reducible refine pq_mk (noR (by decide)) ?_; rw [parO_0]; (try unfold pad0); (try simp only [top1, sub0c]); (repeat' (first | rfl | (exfalso; omega) | split)); done)
    | with_reducible refine ifK_nd (fun _ => ?_) (fun _ => ?_)
    | with_reducible refine ifK_dec (fun _ => ?_) (fun _ => ?_)
  all_goals (exfalso; omega)
theorem qh1 (fl st : Int) (s : ByteArray) (R : RFun) (hb : s.size ≤ 1000000000000) : qHd 1 fl st s R := by
  constructor
  rw [qk1]
  have hx : (s.extract 1 s.size).size = s.size - 1 := extract_size s (Nat.le_refl _)
  have hy : (s.extract 5 s.size).size = s.size - 5 := extract_size s (Nat.le_refl _)
  have hz : ((s.extract 1 s.size).extract 5 (s.extract 1 s.size).size).size = s.size - 1 - 5 := by rw [extract_size _ (Nat.le_refl _), hx]
  have g0 := byteAt_bd s 0
  have wa := wr_sub (n := (s.extract 1 s.size).size) (by omega) s 0
  have wb := wr_sub (n := ((s.extract 1 s.size).extract 5 (s.extract 1 s.size).size).size) (by omega) s 0
  have wc := wr_sub0 (n := s.size) hb
  have wd := wr_sub0 (n := (s.extract 5 s.size).size) (by omega)
  have y0 : ((s.extract 1 s.size).extract 0 4).size ≤ 4 := by rw [ByteArray.size_extract]; omega
  have y1 : (s.extract 0 4).size ≤ 4 := by rw [ByteArray.size_extract]; omega
  obtain ⟨r, hr1, hr2, hr3⟩ := big4_top s
  obtain ⟨r', hr1', hr2', hr3'⟩ := big4_top (s.extract 1 s.size)
  by_cases h1 : 4 ≤ (s.extract 1 s.size).size
  · try simp only [wr_byte, wr_b1, wr_1b, id31, topT, bit8, bit32, seq_nil, bitT (show (2147483648 : Int) ≠ 0 by decide), bitT (show (8 : Int) ≠ 0 by decide), bitT (show (32 : Int) ≠ 0 by decide), tzc, tz0, tz1, tz4, tz5, tz8, true_and, tmodB, wa, wb, wc, wd, num04 h1, num04 (show 4 ≤ s.size by omega)]
    repeat' first
      | (with_reducible refine pq_mk (noR (by decide)) ?_; rw [parO_1]; (try unfold pad1 pri pln); (try simp only [top1, sub0c]); (repeat' (first | rfl | (exfalso; omega) | split)); done)
      | with_reducible refine ifK_nd (fun _ => ?_) (fun _ => ?_)
      | with_reducible refine ifK_dec (fun _ => ?_) (fun _ => ?_)
    all_goals (exfalso; omega)
  by_cases h2 : 4 ≤ s.size
  · try simp only [wr_byte, wr_b1, wr_1b, id31, topT, bit8, bit32, seq_nil, bitT (show (2147483648 : Int) ≠ 0 by decide), bitT (show (8 : Int) ≠ 0 by decide), bitT (show (32 : Int) ≠ 0 by decide), tzc, tz0, tz1, tz4, tz5, tz8, true_and, tmodB, wa, wb, wc, wd, num04 h2]
    repeat' first
      | (with_reducible refine pq_mk (noR (by decide)) ?_; rw [parO_1]; (try unfold pad1 pri pln); (try simp only [top1, sub0c]); (repeat' (first | rfl | (exfalso; omega) | split)); done)
      | with_reducible refine ifK_nd (fun _ => ?_) (fun _ => ?_)
      | with_reducible refine ifK_dec (fun _ => ?_) (fun _ => ?_)
    all_goals (exfalso; omega)
  · try simp only [wr_byte, wr_b1, wr_1b, id31, topT, bit8, bit32, seq_nil, bitT (show (2147483648 : Int) ≠ 0 by decide), bitT (show (8 : Int) ≠ 0 by decide), bitT (show (32 : Int) ≠ 0 by decide), tzc, tz0, tz1, tz4, tz5, tz8, true_and, tmodB, wa, wb, wc, wd]
    repeat' first
      | (with_reducible refine pq_mk (noR (by decide)) ?_; rw [parO_1]; (try unfold pad1 pri pln); (try simp only [top1, sub0c]); (repeat' (first | rfl | (exfalso; omega) | split)); done)
      | with_reducible refine ifK_nd (fun _ => ?_) (fun _ => ?_)
      | with_reducible refine ifK_dec (fun _ => ?_) (fun _ => ?_)
    all_goals (exfalso; omega)
end Go.Ev

/- What a frame says: settings, the other kinds, and the summaries of both functions. -/
namespace Go.Ev
open Go Go.Proofs Go.RowKit
set_option linter.unusedVariables false
set_option linter.unusedSimpArgs false
set_option maxRecDepth 100000
set_option maxHeartbeats 4000000
theorem rows_mapf {α : Type} {cel : α → List Value} (f : Value → Value) (hr : ∀ a, (cel a).map f = cel a) (F : List α) : (F.flatMap cel).map f = F.flatMap cel := by
  induction F with
  | nil => rfl
  | cons a F ih => rw [List.flatMap_cons, List.map_append, hr, ih]
theorem setCel_up (e : List Nat) (p : Int × Int) : (setCel p).map (upV e) = setCel p := rfl
theorem pq_row {fl st : Int} {s : ByteArray} (h0 : st = 0) (h6 : setSix s fl = false) (hc : setCode s = 0) (hn : ¬ s.size / 6 = 0) (e : List Nat) :
    PQ 4 fl st s (okV (slb 0 (s.size / 6))) { size := 1, tr := .node (some (.cells (List.map (renV [3]) (List.map (upV e) ((setRow s (s.size / 6)).flatMap setCel))) ⟨2, some 39, true⟩ .live [])) .nil .nil } := by
  rw [rows_mapf _ (setCel_up e), rows_ren _ (setCel_ren _)]
  refine ⟨[setObj s], ?_, rfl⟩
  have hR : parR 4 fl st s = true := by unfold parR; simp [h0, h6, hc, hn]
  have hO : parO 4 fl st s = oS zPt := by rw [parO_4, if_pos h0]; unfold par4; rw [if_neg (by simp [h6]), if_pos hc]
  unfold parS
  simp only [SpR.get, hR, hO]
theorem pq_4 {fl st c : Int} {s : ByteArray} {is conn : Bool} (hR : ¬ (st = 0 ∧ setSix s fl = false ∧ setCode s = 0 ∧ s.size / 6 ≠ 0)) (h : parO 4 fl st s = ⟨zPt, is, conn, c⟩) :
    PQ 4 fl st s (.tuple #[.agg ⟨setP nl⟩, .agg ⟨wrongL is conn c⟩]) { size := 0, tr := Tr.nil } :=
  pq_mk (by unfold parR; exact decide_eq_false fun ⟨_, h⟩ => hR h) h
theorem ph4 (fl st : Int) (s : ByteArray) (R : RFun) (hb : s.size ≤ 1000000000000) : pHd 4 fl st s R := by
  constructor
  rw [pk4]
  have e1 : decide (fl % 2 = 1 ∧ s.size ≠ 0 ∨ s.size % 6 ≠ 0) = setSix s fl := rfl
  have e2 : setGo s (s.size / 6) 0 = setCode s := rfl
  rw [e1, e2]
  refine ifK_nd (fun h0 => ?_) (fun h0 => ?_)
  · cases h6 : setSix s fl with
    | true =>
      exact ifK_t rfl (ifK_dec (fun _ => pq_4 (fun ⟨_, h, _⟩ => by rw [h6] at h; cases h) (by rw [parO_4, if_pos h0]; unfold par4; rw [if_pos h6])) (fun h => absurd hb h))
    | false =>
      refine ifK_f rfl (ifK_nd (fun hc => ?_) (fun hc => ?_))
      · refine ifK_dec (fun hn => ?_) (fun hn => ?_)
        · exact ifK_dec (fun _ => pq_4 (fun ⟨_, _, _, h⟩ => h hn) (by rw [parO_4, if_pos h0]; unfold par4; rw [if_neg (by simp [h6]), if_pos hc])) (fun h => absurd hb h)
        · exact ifK_dec (fun _ => pq_row h0 h6 hc hn _) (fun h => absurd hb h)
      · exact ifK_dec (fun _ => pq_4 (fun ⟨_, _, h, _⟩ => hc h) (by rw [parO_4, if_pos h0]; unfold par4; rw [if_neg (by simp [h6]), if_neg hc])) (fun h => absurd hb h)
  · exact pq_4 (fun ⟨h, _⟩ => h0 h) (by rw [parO_4, if_neg h0])
theorem qh4 (fl st : Int) (s : ByteArray) (R : RFun) (hb : s.size ≤ 1000000000000) : qHd 4 fl st s R := by
  constructor
  rw [qk4]
  have e1 : decide (fl % 2 = 1 ∧ s.size ≠ 0 ∨ s.size % 6 ≠ 0) = setSix s fl := rfl
  have e2 : setGo s (s.size / 6) 0 = setCode s := rfl
  rw [e1, e2]
  refine ifK_nd (fun h0 => ?_) (fun h0 => ?_)
  · cases h6 : setSix s fl with
    | true =>
      exact ifK_t rfl (ifK_dec (fun _ => pq_4 (fun ⟨_, h, _⟩ => by rw [h6] at h; cases h) (by rw [parO_4, if_pos h0]; unfold par4; rw [if_pos h6])) (fun h => absurd hb h))
    | false =>
      refine ifK_f rfl (ifK_nd (fun hc => ?_) (fun hc => ?_))
      · refine ifK_dec (fun hn => ?_) (fun hn => ?_)
        · exact ifK_dec (fun _ => pq_4 (fun ⟨_, _, _, h⟩ => h hn) (by rw [parO_4, if_pos h0]; unfold par4; rw [if_neg (by simp [h6]), if_pos hc])) (fun h => absurd hb h)
        · exact ifK_dec (fun _ => pq_row h0 h6 hc hn _) (fun h => absurd hb h)
      · exact ifK_dec (fun _ => pq_4 (fun ⟨_, _, h, _⟩ => hc h) (by rw [parO_4, if_pos h0]; unfold par4; rw [if_neg (by simp [h6]), if_neg hc])) (fun h => absurd hb h)
  · exact ifK_dec (fun _ => pq_4 (fun ⟨h, _⟩ => h0 h) (by rw [parO_4, if_neg h0])) (fun h => absurd hb h)
abbrev Other (k : Int) : Prop := k ≠ 0 ∧ k ≠ 1 ∧ k ≠ 2 ∧ k ≠ 3 ∧ k ≠ 4 ∧ k ≠ 5 ∧ k ≠ 6 ∧ k ≠ 7 ∧ k ≠ 8 ∧ k ≠ 9 ∧ k ≠ 16
theorem parO_D {k fl st : Int} {s : ByteArray} (h : Other k) : parO k fl st s = oS zPt := by
  obtain ⟨h0, h1, h2, h3, h4, h5, h6, h7, h8, h9, h16⟩ := h
  unfold parO
  simp only [if_neg h0, if_neg h1, if_neg h2, if_neg h3, if_neg h4, if_neg h5, if_neg h6, if_neg h7, if_neg h8, if_neg h9, if_neg h16]
theorem phD (k fl st : Int) (s : ByteArray) (R : RFun) (h : Other k) : Hd (startA frP fpHint 30 20 15 0 162 [] R pB ([.agg #[vi k, vi fl, vi st, .string s]] ++ List.replicate 161 undef) AHeap.empty (pEnd k fl st s)) := by
  have hO := parO_D (fl := fl) (st := st) (s := s) h
  have hR : parR k fl st s = false := noR h.2.2.2.2.1
  obtain ⟨h0, h1, h2, h3, h4, h5, h6, h7, h8, h9, h16⟩ := h
  constructor
  rw [pkD]
  have done : PQ k fl st s (okV nl) { size := 0, tr := Tr.nil } := pq_mk hR hO
  simp only [decide_eq_false h0, decide_eq_false h1, decide_eq_false h2, decide_eq_false h3, decide_eq_false h4, decide_eq_false h5, decide_eq_false h6, decide_eq_false h7, decide_eq_false h8, decide_eq_false h9, decide_eq_false h16, Bool.or_false]
  exact ifK_f rfl (ifK_f rfl (ifK_f rfl (ifK_f rfl (ifK_f rfl (ifK_f rfl (ifK_f rfl (ifK_f rfl (ifK_f rfl (ifK_f rfl (ifK_f rfl (ifK_f rfl (ifK_f rfl done))))))))))))
theorem qhD (k fl st : Int) (s : ByteArray) (R : RFun) (h : Other k) : Hd (startA frP fpHint2 30 20 16 0 81 [] R qB ([.agg #[vi k, vi fl, vi st, .string s]] ++ List.replicate 80 undef) AHeap.empty (pEnd k fl st s)) := by
  have hO := parO_D (fl := fl) (st := st) (s := s) h
  have hR : parR k fl st s = false := noR h.2.2.2.2.1
  obtain ⟨h0, h1, h2, h3, h4, h5, h6, h7, h8, h9, h16⟩ := h
  constructor
  rw [qkD]
  have done : PQ k fl st s (okV nl) { size := 0, tr := Tr.nil } := pq_mk hR hO
  simp only [decide_eq_false h0, decide_eq_false h1, decide_eq_false h2, decide_eq_false h3, decide_eq_false h4, decide_eq_false h5, decide_eq_false h6, decide_eq_false h7, decide_eq_false h8, decide_eq_false h9, decide_eq_false h16]
  exact ifK_f rfl (ifK_f rfl (ifK_f rfl (ifK_f rfl (ifK_f rfl (ifK_f rfl (ifK_f rfl (ifK_f rfl (ifK_f rfl (ifK_f rfl (ifK_f rfl (ifK_f rfl (ifK_f rfl (ifK_f rfl done)))))))))))))

theorem body15 : Try.f15.body = some (bodyOf Try.prog 15) := by kernel_rfl
theorem nt15 : Try.f15.ntmps = 162 := by kernel_rfl
theorem rs15 : Try.f15.results.toList = [.cell 2 32, .cell 3 34] := by kernel_rfl
theorem dr15 : allDraw (frP.ok 15) (bodyOf Try.prog 15) = true := by kernel_rfl
theorem body16 : Try.f16.body = some (bodyOf Try.prog 16) := by kernel_rfl
theorem nt16 : Try.f16.ntmps = 81 := by kernel_rfl
theorem rs16 : Try.f16.results.toList = [.cell 2 32, .cell 3 34] := by kernel_rfl
theorem dr16 : allDraw (frP.ok 16) (bodyOf Try.prog 16) = true := by kernel_rfl
def parSpec : List Value → SpR
  | [.agg ⟨[.int .i64 k, .int .i64 fl, .int .i64 st, .string s]⟩] => parS k fl st s (sizeOk s)
  | _ => .fail
theorem parS_get {k fl st : Int} {s : ByteArray} {b : Bool} {v : Value} {os : List AObj} (h : (parS k fl st s b).get = some (true, v, os)) : b = true ∧ (parS k fl st s true).get = some (true, v, os) := by
  cases b with
  | true => exact ⟨rfl, h⟩
  | false =>
    exfalso
    unfold parS at h
    simp only [SpR.get] at h
    split at h <;> cases h
abbrev noI : Nat → List Nat → Nat → List Value → AHeap → Prop := fun _ _ _ _ _ => False
theorem par_ok : BSumOk frP.P 15 (newS parSpec) := by
  refine sumOk_new Try.func15 (by kernel_rfl) (by decide) fun args v os hs w cargs ha => ?_
  unfold parSpec at hs
  split at hs
  case h_2 => cases hs
  rename_i k fl st s
  obtain ⟨hb, hs⟩ := parS_get hs
  replace hb := of_decide_eq_true hb
  have fin : ∀ hint, Hd (startA frP hint 30 20 15 0 162 [] (ofI noI) pB ([.agg #[vi k, vi fl, vi st, .string s]] ++ List.replicate 161 undef) AHeap.empty (pEnd k fl st s)) → Calls Try.prog 15 cargs w (Post (fun _ => none) AHeap.empty w v (pushes AHeap.empty os)) := by
    intro hint h1
    refine (calls_cutsG fpT fpF fpS fpM hint (f := 15) (k := 30) (n := 20) Try.func15 body15 nt15 rs15 dr15 (cuts := []) (I := noI) (Q := PQ k fl st s) (rts := sRoots) (Rel.empty w) ha h1 trivial).mono ?_
    rintro e w' ⟨v', H', ⟨os', e1, rfl⟩, hp⟩
    rw [hs] at e1
    cases e1
    exact hp
  by_cases h0 : k = 0; · subst h0; exact fin _ (ph0 fl st s _ hb)
  by_cases h1 : k = 1; · subst h1; exact fin _ (ph1 fl st s _ hb)
  by_cases h2 : k = 2; · subst h2; exact fin _ (ph2 fl st s _ hb)
  by_cases h3 : k = 3; · subst h3; exact fin _ (ph3 fl st s _ hb)
  by_cases h4 : k = 4; · subst h4; exact fin _ (ph4 fl st s _ hb)
  by_cases h5 : k = 5; · subst h5; exact fin _ (ph5 fl st s _ hb)
  by_cases h6 : k = 6; · subst h6; exact fin _ (ph6 fl st s _ hb)
  by_cases h7 : k = 7; · subst h7; exact fin _ (ph7 fl st s _ hb)
  by_cases h8 : k = 8; · subst h8; exact fin _ (ph8 fl st s _ hb)
  by_cases h9 : k = 9; · subst h9; exact fin _ (ph9 fl st s _ hb)
  by_cases h16 : k = 16; · subst h16; exact fin _ (ph16 fl st s _ hb)
  exact fin _ (phD k fl st s _ ⟨h0, h1, h2, h3, h4, h5, h6, h7, h8, h9, h16⟩)
theorem rpar_ok : BSumOk frP.P 16 (newS parSpec) := by
  refine sumOk_new Try.func16 (by kernel_rfl) (by decide) fun args v os hs w cargs ha => ?_
  unfold parSpec at hs
  split at hs
  case h_2 => cases hs
  rename_i k fl st s
  obtain ⟨hb, hs⟩ := parS_get hs
  replace hb := of_decide_eq_true hb
  have fin : ∀ hint, Hd (startA frP hint 30 20 16 0 81 [] (ofI noI) qB ([.agg #[vi k, vi fl, vi st, .string s]] ++ List.replicate 80 undef) AHeap.empty (pEnd k fl st s)) → Calls Try.prog 16 cargs w (Post (fun _ => none) AHeap.empty w v (pushes AHeap.empty os)) := by
    intro hint h1
    refine (calls_cutsG fpT fpF fpS fpM hint (f := 16) (k := 30) (n := 20) Try.func16 body16 nt16 rs16 dr16 (cuts := []) (I := noI) (Q := PQ k fl st s) (rts := sRoots) (Rel.empty w) ha h1 trivial).mono ?_
    rintro e w' ⟨v', H', ⟨os', e1, rfl⟩, hp⟩
    rw [hs] at e1
    cases e1
    exact hp
  by_cases h0 : k = 0; · subst h0; exact fin _ (qh0 fl st s _ hb)
  by_cases h1 : k = 1; · subst h1; exact fin _ (qh1 fl st s _ hb)
  by_cases h2 : k = 2; · subst h2; exact fin _ (qh2 fl st s _ hb)
  by_cases h3 : k = 3; · subst h3; exact fin _ (qh3 fl st s _ hb)
  by_cases h4 : k = 4; · subst h4; exact fin _ (qh4 fl st s _ hb)
  by_cases h5 : k = 5; · subst h5; exact fin _ (qh5 fl st s _ hb)
  by_cases h6 : k = 6; · subst h6; exact fin _ (qh6 fl st s _ hb)
  by_cases h7 : k = 7; · subst h7; exact fin _ (qh7 fl st s _ hb)
  by_cases h8 : k = 8; · subst h8; exact fin _ (qh8 fl st s _ hb)
  by_cases h9 : k = 9; · subst h9; exact fin _ (qh9 fl st s _ hb)
  by_cases h16 : k = 16; · subst h16; exact fin _ (qh16 fl st s _ hb)
  exact fin _ (qhD k fl st s _ ⟨h0, h1, h2, h3, h4, h5, h6, h7, h8, h9, h16⟩)
/-- The program with what is known of its functions, both Parse among them. -/
noncomputable def fzSumms : List (Nat × BSumm) := (15, newS parSpec) :: (16, newS parSpec) :: fpSumms
theorem fzSO : BSumsOk Try.prog fzSumms := ⟨par_ok, rpar_ok, fpSO⟩
noncomputable def frZ : Env := mkEnvB Try.prog frPlans frExts fun f => look f fzSumms
theorem fzT : frZ.TOk := tOkB_of (by kernel_rfl) frX
theorem fzF : frZ.FOk frZ.ok := fOkB_of (by kernel_rfl)
theorem fzS : frZ.SOk := sOkB_of fzSO
theorem fzM : frZ.P.follows .mixedOrders = true := by kernel_rfl
end Go.Ev
