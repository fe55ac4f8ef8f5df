/- frame.Write and the document's Write: what they come to; no condition. -/
import Derived.Test.YtjhidbadbdhcmaaFrMa
namespace Go.Ev
open Go Go.Proofs Go.RowKit
set_option linter.unusedVariables false
set_option maxRecDepth 100000
theorem resW (k fl st : Int) (s : ByteArray) (K : Value → Prop) :
   evalK frA noHint 30 20 [.agg #[vi k, vi fl, vi st, .string s]] AHeap.empty (fun v _ => K v)
   = (ifK (decide ((0 : Int) ≤ if st < if fl < k then fl else k then st else if fl < k then fl else k)) (ifK (decide ((if fl > k then fl else k) ≤ (255 : Int))) (ifK (decide (st ≤ (2147483647 : Int))) (ifK (decide ((16777215 : Int) < (↑(ByteArray.size s) : Int))) (K (Value.tuple { toList := [Value.string (⟨#[]⟩ : ByteArray), Value.int IntKind.i64 (3 : Int)] })) (IntKind.i64 = IntKind.i64 ∧ fl = fl ∧ IntKind.i64 = IntKind.i64 ∧ k = k ∧ s = s ∧ (⟨⟨[UInt8.ofNat (Int.toNat (IntKind.wrap IntKind.u8 (Int.fdiv (↑(ByteArray.size s) : Int) ((2 : Int) ^ min (Int.toNat (16 : Int)) (IntKind.bits IntKind.i64))))), UInt8.ofNat (Int.toNat (IntKind.wrap IntKind.u8 (Int.fdiv (↑(ByteArray.size s) : Int) ((2 : Int) ^ min (Int.toNat (8 : Int)) (IntKind.bits IntKind.i64))))), UInt8.ofNat (Int.toNat (IntKind.wrap IntKind.u8 (↑(ByteArray.size s) : Int))), UInt8.ofNat (Int.toNat (IntKind.wrap IntKind.u8 k)), UInt8.ofNat (Int.toNat (IntKind.wrap IntKind.u8 fl))]⟩⟩ : ByteArray) = (⟨⟨[UInt8.ofNat (Int.toNat (IntKind.wrap IntKind.u8 (Int.fdiv (↑(ByteArray.size s) : Int) ((2 : Int) ^ min (Int.toNat (16 : Int)) (IntKind.bits IntKind.i64))))), UInt8.ofNat (Int.toNat (IntKind.wrap IntKind.u8 (Int.fdiv (↑(ByteArray.size s) : Int) ((2 : Int) ^ min (Int.toNat (8 : Int)) (IntKind.bits IntKind.i64))))), UInt8.ofNat (Int.toNat (IntKind.wrap IntKind.u8 (↑(ByteArray.size s) : Int))), UInt8.ofNat (Int.toNat (IntKind.wrap IntKind.u8 k)), UInt8.ofNat (Int.toNat (IntKind.wrap IntKind.u8 fl))]⟩⟩ : ByteArray) ∧ (⟨1, some 5, true⟩ : ET) = (⟨1, some 5, true⟩ : ET) ∧ IntKind.u8 = IntKind.u8 ∧ IntKind.wrap IntKind.u8 (Int.fdiv (↑(ByteArray.size s) : Int) ((2 : Int) ^ min (Int.toNat (16 : Int)) 64)) = IntKind.wrap IntKind.u8 (Int.fdiv (↑(ByteArray.size s) : Int) ((2 : Int) ^ min (Int.toNat (16 : Int)) 64)) ∧ IntKind.u8 = IntKind.u8 ∧ IntKind.wrap IntKind.u8 (Int.fdiv (↑(ByteArray.size s) : Int) ((2 : Int) ^ min (Int.toNat (8 : Int)) 64)) = IntKind.wrap IntKind.u8 (Int.fdiv (↑(ByteArray.size s) : Int) ((2 : Int) ^ min (Int.toNat (8 : Int)) 64)) ∧ IntKind.u8 = IntKind.u8 ∧ IntKind.wrap IntKind.u8 (↑(ByteArray.size s) : Int) = IntKind.wrap IntKind.u8 (↑(ByteArray.size s) : Int) ∧ IntKind.u8 = IntKind.u8 ∧ IntKind.wrap IntKind.u8 k = IntKind.wrap IntKind.u8 k ∧ IntKind.u8 = IntKind.u8 ∧ IntKind.wrap IntKind.u8 fl = IntKind.wrap IntKind.u8 fl ∧ IntKind.i64 = IntKind.i64 ∧ fl = fl ∧ IntKind.i64 = IntKind.i64 ∧ k = k ∧ ifK (decide (ByteArray.size ((⟨⟨[UInt8.ofNat (Int.toNat (IntKind.wrap IntKind.u8 (Int.fdiv (↑(ByteArray.size s) : Int) ((2 : Int) ^ min (Int.toNat (16 : Int)) (IntKind.bits IntKind.i64))))), UInt8.ofNat (Int.toNat (IntKind.wrap IntKind.u8 (Int.fdiv (↑(ByteArray.size s) : Int) ((2 : Int) ^ min (Int.toNat (8 : Int)) (IntKind.bits IntKind.i64))))), UInt8.ofNat (Int.toNat (IntKind.wrap IntKind.u8 (↑(ByteArray.size s) : Int))), UInt8.ofNat (Int.toNat (IntKind.wrap IntKind.u8 k)), UInt8.ofNat (Int.toNat (IntKind.wrap IntKind.u8 fl))]⟩⟩ : ByteArray) ++ (⟨⟨[UInt8.ofNat (Int.toNat (IntKind.wrap IntKind.u8 (Int.fdiv st ((2 : Int) ^ min (Int.toNat (24 : Int)) (IntKind.bits IntKind.i64))))), UInt8.ofNat (Int.toNat (IntKind.wrap IntKind.u8 (Int.fdiv st ((2 : Int) ^ min (Int.toNat (16 : Int)) (IntKind.bits IntKind.i64))))), UInt8.ofNat (Int.toNat (IntKind.wrap IntKind.u8 (Int.fdiv st ((2 : Int) ^ min (Int.toNat (8 : Int)) (IntKind.bits IntKind.i64))))), UInt8.ofNat (Int.toNat (IntKind.wrap IntKind.u8 st))]⟩⟩ : ByteArray)) + ByteArray.size s < 9223372036854775808)) (K (Value.tuple { toList := [Value.string ((⟨⟨[UInt8.ofNat (Int.toNat (IntKind.wrap IntKind.u8 (Int.fdiv (↑(ByteArray.size s) : Int) ((2 : Int) ^ min (Int.toNat (16 : Int)) (IntKind.bits IntKind.i64))))), UInt8.ofNat (Int.toNat (IntKind.wrap IntKind.u8 (Int.fdiv (↑(ByteArray.size s) : Int) ((2 : Int) ^ min (Int.toNat (8 : Int)) (IntKind.bits IntKind.i64))))), UInt8.ofNat (Int.toNat (IntKind.wrap IntKind.u8 (↑(ByteArray.size s) : Int))), UInt8.ofNat (Int.toNat (IntKind.wrap IntKind.u8 k)), UInt8.ofNat (Int.toNat (IntKind.wrap IntKind.u8 fl))]⟩⟩ : ByteArray) ++ (⟨⟨[UInt8.ofNat (Int.toNat (IntKind.wrap IntKind.u8 (Int.fdiv st ((2 : Int) ^ min (Int.toNat (24 : Int)) (IntKind.bits IntKind.i64))))), UInt8.ofNat (Int.toNat (IntKind.wrap IntKind.u8 (Int.fdiv st ((2 : Int) ^ min (Int.toNat (16 : Int)) (IntKind.bits IntKind.i64))))), UInt8.ofNat (Int.toNat (IntKind.wrap IntKind.u8 (Int.fdiv st ((2 : Int) ^ min (Int.toNat (8 : Int)) (IntKind.bits IntKind.i64))))), UInt8.ofNat (Int.toNat (IntKind.wrap IntKind.u8 st))]⟩⟩ : ByteArray) ++ s), Value.int IntKind.i64 (0 : Int)] })) False)) (K (Value.tuple { toList := [Value.string (⟨#[]⟩ : ByteArray), Value.int IntKind.i64 (5 : Int)] }))) (K (Value.tuple { toList := [Value.string (⟨#[]⟩ : ByteArray), Value.int IntKind.i64 (5 : Int)] }))) (K (Value.tuple { toList := [Value.string (⟨#[]⟩ : ByteArray), Value.int IntKind.i64 (5 : Int)] }))) := by kernel_rfl
theorem resRW (k fl st : Int) (s : ByteArray) (K : Value → Prop) :
   evalK frA noHint 30 21 [.agg #[vi k, vi fl, vi st, .string s]] AHeap.empty (fun v _ => K v)
   = (ifK (decide (k < (0 : Int))) (K (Value.tuple { toList := [Value.string (⟨#[]⟩ : ByteArray), Value.int IntKind.i64 (5 : Int)] })) (ifK (decide ((255 : Int) < k)) (K (Value.tuple { toList := [Value.string (⟨#[]⟩ : ByteArray), Value.int IntKind.i64 (5 : Int)] })) (ifK (decide (fl < (0 : Int))) (K (Value.tuple { toList := [Value.string (⟨#[]⟩ : ByteArray), Value.int IntKind.i64 (5 : Int)] })) (ifK (decide ((255 : Int) < fl)) (K (Value.tuple { toList := [Value.string (⟨#[]⟩ : ByteArray), Value.int IntKind.i64 (5 : Int)] })) (ifK (decide (st < (0 : Int))) (K (Value.tuple { toList := [Value.string (⟨#[]⟩ : ByteArray), Value.int IntKind.i64 (5 : Int)] })) (ifK (decide ((2147483647 : Int) < st)) (K (Value.tuple { toList := [Value.string (⟨#[]⟩ : ByteArray), Value.int IntKind.i64 (5 : Int)] })) (ifK (decide ((16777215 : Int) < (↑(ByteArray.size s) : Int))) (K (Value.tuple { toList := [Value.string (⟨#[]⟩ : ByteArray), Value.int IntKind.i64 (3 : Int)] })) (s = s ∧ IntKind.i64 = IntKind.i64 ∧ st = st ∧ IntKind.i64 = IntKind.i64 ∧ fl = fl ∧ IntKind.i64 = IntKind.i64 ∧ k = k ∧ s = s ∧ IntKind.i64 = IntKind.i64 ∧ st = st ∧ IntKind.i64 = IntKind.i64 ∧ fl = fl ∧ s = s ∧ IntKind.i64 = IntKind.i64 ∧ st = st ∧ s = s ∧ ifK (decide (ByteArray.size ((⟨⟨[UInt8.ofNat (Int.toNat (IntKind.wrap IntKind.u8 (Int.tmod (IntKind.wrap IntKind.i64 (Int.tdiv (IntKind.wrap IntKind.i64 (Int.tdiv (↑(ByteArray.size s) : Int) (256 : Int))) (256 : Int))) (256 : Int)))), UInt8.ofNat (Int.toNat (IntKind.wrap IntKind.u8 (Int.tmod (IntKind.wrap IntKind.i64 (Int.tdiv (↑(ByteArray.size s) : Int) (256 : Int))) (256 : Int)))), UInt8.ofNat (Int.toNat (IntKind.wrap IntKind.u8 (Int.tmod (↑(ByteArray.size s) : Int) (256 : Int))))]⟩⟩ : ByteArray) ++ (⟨⟨[UInt8.ofNat (Int.toNat (IntKind.wrap IntKind.u8 (Int.tmod k (256 : Int))))]⟩⟩ : ByteArray) ++ (⟨⟨[UInt8.ofNat (Int.toNat (IntKind.wrap IntKind.u8 (Int.tmod fl (256 : Int))))]⟩⟩ : ByteArray) ++ (⟨⟨[UInt8.ofNat (Int.toNat (IntKind.wrap IntKind.u8 (Int.tmod (IntKind.wrap IntKind.i64 (Int.tdiv (IntKind.wrap IntKind.i64 (Int.tdiv (IntKind.wrap IntKind.i64 (Int.tdiv st (256 : Int))) (256 : Int))) (256 : Int))) (256 : Int)))), UInt8.ofNat (Int.toNat (IntKind.wrap IntKind.u8 (Int.tmod (IntKind.wrap IntKind.i64 (Int.tdiv (IntKind.wrap IntKind.i64 (Int.tdiv st (256 : Int))) (256 : Int))) (256 : Int)))), UInt8.ofNat (Int.toNat (IntKind.wrap IntKind.u8 (Int.tmod (IntKind.wrap IntKind.i64 (Int.tdiv st (256 : Int))) (256 : Int)))), UInt8.ofNat (Int.toNat (IntKind.wrap IntKind.u8 (Int.tmod st (256 : Int))))]⟩⟩ : ByteArray)) + ByteArray.size s < 9223372036854775808)) (K (Value.tuple { toList := [Value.string ((⟨⟨[UInt8.ofNat (Int.toNat (IntKind.wrap IntKind.u8 (Int.tmod (IntKind.wrap IntKind.i64 (Int.tdiv (IntKind.wrap IntKind.i64 (Int.tdiv (↑(ByteArray.size s) : Int) (256 : Int))) (256 : Int))) (256 : Int)))), UInt8.ofNat (Int.toNat (IntKind.wrap IntKind.u8 (Int.tmod (IntKind.wrap IntKind.i64 (Int.tdiv (↑(ByteArray.size s) : Int) (256 : Int))) (256 : Int)))), UInt8.ofNat (Int.toNat (IntKind.wrap IntKind.u8 (Int.tmod (↑(ByteArray.size s) : Int) (256 : Int))))]⟩⟩ : ByteArray) ++ (⟨⟨[UInt8.ofNat (Int.toNat (IntKind.wrap IntKind.u8 (Int.tmod k (256 : Int))))]⟩⟩ : ByteArray) ++ (⟨⟨[UInt8.ofNat (Int.toNat (IntKind.wrap IntKind.u8 (Int.tmod fl (256 : Int))))]⟩⟩ : ByteArray) ++ (⟨⟨[UInt8.ofNat (Int.toNat (IntKind.wrap IntKind.u8 (Int.tmod (IntKind.wrap IntKind.i64 (Int.tdiv (IntKind.wrap IntKind.i64 (Int.tdiv (IntKind.wrap IntKind.i64 (Int.tdiv st (256 : Int))) (256 : Int))) (256 : Int))) (256 : Int)))), UInt8.ofNat (Int.toNat (IntKind.wrap IntKind.u8 (Int.tmod (IntKind.wrap IntKind.i64 (Int.tdiv (IntKind.wrap IntKind.i64 (Int.tdiv st (256 : Int))) (256 : Int))) (256 : Int)))), UInt8.ofNat (Int.toNat (IntKind.wrap IntKind.u8 (Int.tmod (IntKind.wrap IntKind.i64 (Int.tdiv st (256 : Int))) (256 : Int)))), UInt8.ofNat (Int.toNat (IntKind.wrap IntKind.u8 (Int.tmod st (256 : Int))))]⟩⟩ : ByteArray) ++ s), Value.int IntKind.i64 (0 : Int)] })) False)))))))) := by kernel_rfl
end Go.Ev

/- frame.Write and the document's Write write the same; no condition. -/
namespace Go.Ev
open Go Go.Proofs Go.RowKit
set_option linter.unusedVariables false
set_option maxRecDepth 100000
set_option maxHeartbeats 4000000
theorem ifK_b {c : Bool} {a b : Prop} (h1 : c = true → a) (h2 : c = false → b) : ifK c a b := by
  cases c
  · exact h2 rfl
  · exact h1 rfl
def u8i (x : Int) : UInt8 := UInt8.ofNat (Int.toNat (x % 256))
abbrev FrOk (k fl st : Int) : Prop := 0 ≤ k ∧ k ≤ 255 ∧ 0 ≤ fl ∧ fl ≤ 255 ∧ 0 ≤ st ∧ st ≤ 2147483647
def head9 (k fl st n : Int) : List UInt8 := [u8i (n / 65536), u8i (n / 256), u8i n, u8i k, u8i fl, u8i (st / 16777216), u8i (st / 65536), u8i (st / 256), u8i st]
def wrB (k fl st : Int) (s : ByteArray) : ByteArray := if FrOk k fl st then if 16777215 < s.size then ⟨#[]⟩ else ⟨⟨head9 k fl st s.size⟩⟩ ++ s else ⟨#[]⟩
def wrE (k fl st : Int) (s : ByteArray) : Int := if FrOk k fl st then if 16777215 < s.size then 3 else 0 else 5
def wrG : List Value → Option (Bool × Value)
  | [.agg ⟨[.int .i64 k, .int .i64 fl, .int .i64 st, .string s]⟩] => some (true, .tuple #[.string (wrB k fl st s), vi (wrE k fl st s)])
  | _ => none
theorem u8_wr (x : Int) : UInt8.ofNat (Int.toNat (IntKind.wrap IntKind.u8 x)) = u8i x := by rw [wr_u8]; rfl
theorem u8_mod {x : Int} (h : 0 ≤ x) : u8i (Int.tmod x 256) = u8i x := by
  unfold u8i
  rw [Int.tmod_eq_emod_of_nonneg h]
  congr 2
  omega
theorem td {x : Int} (h : 0 ≤ x) (h' : x < 9223372036854775808) : IntKind.wrap IntKind.i64 (Int.tdiv x 256) = x / 256 := by
  rw [Int.tdiv_eq_ediv_of_nonneg h, wr_small (by omega) (by omega)]
theorem fd24 (x : Int) : Int.fdiv x ((2 : Int) ^ min (Int.toNat 24) (IntKind.bits IntKind.i64)) = x / 16777216 := by rw [p24, Int.fdiv_eq_ediv_of_nonneg _ (by omega)]
theorem fd16 (x : Int) : Int.fdiv x ((2 : Int) ^ min (Int.toNat 16) (IntKind.bits IntKind.i64)) = x / 65536 := by rw [p16, Int.fdiv_eq_ediv_of_nonneg _ (by omega)]
theorem fd8 (x : Int) : Int.fdiv x ((2 : Int) ^ min (Int.toNat 8) (IntKind.bits IntKind.i64)) = x / 256 := by rw [p8, Int.fdiv_eq_ediv_of_nonneg _ (by omega)]
theorem ba_app (a b : List UInt8) : (⟨⟨a⟩⟩ : ByteArray) ++ ⟨⟨b⟩⟩ = ⟨⟨a ++ b⟩⟩ := by
  apply ByteArray.ext
  rw [ByteArray.data_append]
  simp
theorem ba_size (a : List UInt8) : (⟨⟨a⟩⟩ : ByteArray).size = a.length := rfl
theorem w_ok : SumOk frA.P 20 (pureS wrG) := by
  refine sumOk_evalK faT faF faS faM noHint 30 Try.func20 (by kernel_rfl) (by decide) fun args v hg => ?_
  unfold wrG at hg
  split at hg
  case h_2 => cases hg
  rename_i k fl st s
  simp only [Option.some.injEq, Prod.mk.injEq, true_and] at hg
  subst hg
  refine ⟨rfl, rfl, ?_⟩
  refine (resW k fl st s _).mpr ?_
  simp only [u8_wr, fd24, fd16, fd8, ba_app, ba_size, List.length_append, List.length_cons, List.length_nil]
  by_cases hok : FrOk k fl st
  · have h1 : (0 : Int) ≤ if st < if fl < k then fl else k then st else if fl < k then fl else k := by obtain ⟨a, b, c, d, e, f⟩ := hok; split <;> (try split at *) <;> (try split) <;> omega
    have h2 : (if fl > k then fl else k) ≤ 255 := by obtain ⟨a, b, c, d, e, f⟩ := hok; split <;> omega
    simp only [wrB, wrE, if_pos hok]
    rw [decide_eq_true h1, decide_eq_true h2, decide_eq_true hok.2.2.2.2.2]
    refine ifK_dec (fun h => ?_) (fun h => ?_)
    · rw [if_pos (by omega), if_pos (by omega)]
    · rw [if_neg (by omega), if_neg (by omega)]
      simp only [true_and]
      refine ifK_dec (fun _ => by first | trivial | rfl) (fun h => ?_)
      omega
  · have : ∀ x : Prop, ¬ (((0 : Int) ≤ if st < if fl < k then fl else k then st else if fl < k then fl else k) ∧ ((if fl > k then fl else k) ≤ 255) ∧ st ≤ 2147483647) := by
      rintro _ ⟨h1, h2, h3⟩
      refine hok ?_
      split at h1 <;> split at h2 <;> (try split at h1) <;> (try split at *) <;> (unfold FrOk; omega)
    have := this True
    simp only [wrB, wrE, if_neg hok]
    refine ifK_dec (fun h1 => ?_) (fun _ => by first | trivial | rfl)
    refine ifK_dec (fun h2 => ?_) (fun _ => by first | trivial | rfl)
    refine ifK_dec (fun h3 => ?_) (fun _ => by first | trivial | rfl)
    exact absurd ⟨h1, h2, h3⟩ this
theorem rw_ok : SumOk frA.P 21 (pureS wrG) := by
  refine sumOk_evalK faT faF faS faM noHint 30 Try.func21 (by kernel_rfl) (by decide) fun args v hg => ?_
  unfold wrG at hg
  split at hg
  case h_2 => cases hg
  rename_i k fl st s
  simp only [Option.some.injEq, Prod.mk.injEq, true_and] at hg
  subst hg
  refine ⟨rfl, rfl, ?_⟩
  refine (resRW k fl st s _).mpr ?_
  by_cases hok : FrOk k fl st
  · obtain ⟨a, b, c, d, e, f⟩ := id hok
    simp only [wrB, wrE, if_pos hok]
    refine ifK_dec (fun h => by omega) (fun _ => ?_)
    refine ifK_dec (fun h => by omega) (fun _ => ?_)
    refine ifK_dec (fun h => by omega) (fun _ => ?_)
    refine ifK_dec (fun h => by omega) (fun _ => ?_)
    refine ifK_dec (fun h => by omega) (fun _ => ?_)
    refine ifK_dec (fun h => by omega) (fun _ => ?_)
    refine ifK_dec (fun h => ?_) (fun h => ?_)
    · rw [if_pos (by omega), if_pos (by omega)]
    · rw [if_neg (by omega), if_neg (by omega)]
      have hn : (0 : Int) ≤ s.size ∧ (s.size : Int) ≤ 16777215 := by omega
      simp only [true_and, u8_wr]
      generalize hN : (s.size : Int) = N at *
      have e1 : IntKind.wrap IntKind.i64 (Int.tdiv N 256) = N / 256 := td (by omega) (by omega)
      have e2 : IntKind.wrap IntKind.i64 (Int.tdiv (N / 256) 256) = N / 256 / 256 := td (by omega) (by omega)
      have e3 : IntKind.wrap IntKind.i64 (Int.tdiv st 256) = st / 256 := td (by omega) (by omega)
      have e4 : IntKind.wrap IntKind.i64 (Int.tdiv (st / 256) 256) = st / 256 / 256 := td (by omega) (by omega)
      have e5 : IntKind.wrap IntKind.i64 (Int.tdiv (st / 65536) 256) = st / 65536 / 256 := td (by omega) (by omega)
      have q1 : N / 256 / 256 = N / 65536 := by omega
      have q2 : st / 256 / 256 = st / 65536 := by omega
      have q3 : st / 65536 / 256 = st / 16777216 := by omega
      simp only [e1, e2, e3, e4, e5, q1, q2, q3]
      rw [u8_mod (x := N / 65536) (by omega), u8_mod (x := N / 256) (by omega), u8_mod (x := N) (by omega), u8_mod (x := k) (by omega), u8_mod (x := fl) (by omega), u8_mod (x := st / 16777216) (by omega),
        u8_mod (x := st / 65536) (by omega), u8_mod (x := st / 256) (by omega), u8_mod (x := st) (by omega)]
      simp only [ba_app, ba_size, List.length_append, List.length_cons, List.length_nil]
      refine ifK_dec (fun _ => by first | trivial | rfl) (fun h => ?_)
      omega
  · simp only [wrB, wrE, if_neg hok]
    repeat' refine ifK_dec (fun _ => ?_) (fun _ => ?_)
    all_goals first | trivial | rfl | (exfalso; apply hok; unfold FrOk; omega)
end Go.Ev

/- The program with what is known of its functions, frame.Write among them. -/
namespace Go.Ev
open Go Go.Proofs Go.RowKit
set_option maxRecDepth 100000
noncomputable def fbSumms : List (Nat × Summ) := [(24, pureS numG), (46, cloneSum), (31, pureS bigG), (14, pureS awG), (20, pureS wrG), (21, pureS wrG)]
theorem fbSO : SumsOk Try.prog fbSumms := ⟨num_ok, frClone, big_ok, frAw, w_ok, rw_ok, trivial⟩
noncomputable def frB : Env := mkEnv Try.prog frPlans frExts fun f => look f fbSumms
theorem fbT : frB.TOk := tOk_of (by kernel_rfl) frX
theorem fbF : frB.FOk frB.ok := fOk_of (by kernel_rfl)
theorem fbS : frB.SOk := sOk_of fbSO
theorem fbM : frB.P.follows .mixedOrders = true := by kernel_rfl
end Go.Ev

/- frame.Next: what it comes to; no condition. -/
namespace Go.Ev
open Go Go.Proofs Go.RowKit
set_option linter.unusedVariables false
set_option maxRecDepth 100000
theorem resNext (s : ByteArray) (m : Int) (K : Value → Prop) :
   evalK frB noHint 30 12 [.string s, vi m] AHeap.empty (fun v _ => K v)
   = (ifK (decide ((↑(ByteArray.size s) : Int) < (3 : Int))) (K (Value.tuple { toList := [Value.agg { toList := [Value.int IntKind.i64 (0 : Int), Value.int IntKind.i64 (0 : Int), Value.int IntKind.i64 (0 : Int), Value.string (⟨#[]⟩ : ByteArray)] }, Value.int IntKind.i64 (0 : Int), Value.int IntKind.i64 (40 : Int)] })) (ifK (decide ((0 : Int) ≤ (0 : Int) ∧ (0 : Int) < (↑(ByteArray.size s) : Int))) (ifK (decide ((0 : Int) ≤ (1 : Int) ∧ (1 : Int) < (↑(ByteArray.size s) : Int))) (ifK (decide ((0 : Int) ≤ (2 : Int) ∧ (2 : Int) < (↑(ByteArray.size s) : Int))) (ifK (decide (m < IntKind.wrap IntKind.i64 (↑(BitVec.toNat (BitVec.ofInt (IntKind.bits IntKind.i64) (IntKind.wrap IntKind.i64 (↑(BitVec.toNat (BitVec.ofInt (IntKind.bits IntKind.i64) (IntKind.wrap IntKind.i64 (IntKind.wrap IntKind.i64 (byteAt s (0 : Int)) * (2 : Int) ^ min (Int.toNat (16 : Int)) (IntKind.bits IntKind.i64))) ||| BitVec.ofInt (IntKind.bits IntKind.i64) (IntKind.wrap IntKind.i64 (IntKind.wrap IntKind.i64 (byteAt s (1 : Int)) * (2 : Int) ^ min (Int.toNat (8 : Int)) (IntKind.bits IntKind.i64))))) : Int)) ||| BitVec.ofInt (IntKind.bits IntKind.i64) (IntKind.wrap IntKind.i64 (byteAt s (2 : Int))))) : Int))) (K (Value.tuple { toList := [Value.agg { toList := [Value.int IntKind.i64 (0 : Int), Value.int IntKind.i64 (0 : Int), Value.int IntKind.i64 (0 : Int), Value.string (⟨#[]⟩ : ByteArray)] }, Value.int IntKind.i64 (0 : Int), Value.int IntKind.i64 (3 : Int)] })) (ifK (decide ((↑(ByteArray.size s) : Int) < IntKind.wrap IntKind.i64 ((9 : Int) + IntKind.wrap IntKind.i64 (↑(BitVec.toNat (BitVec.ofInt (IntKind.bits IntKind.i64) (IntKind.wrap IntKind.i64 (↑(BitVec.toNat (BitVec.ofInt (IntKind.bits IntKind.i64) (IntKind.wrap IntKind.i64 (IntKind.wrap IntKind.i64 (byteAt s (0 : Int)) * (2 : Int) ^ min (Int.toNat (16 : Int)) (IntKind.bits IntKind.i64))) ||| BitVec.ofInt (IntKind.bits IntKind.i64) (IntKind.wrap IntKind.i64 (IntKind.wrap IntKind.i64 (byteAt s (1 : Int)) * (2 : Int) ^ min (Int.toNat (8 : Int)) (IntKind.bits IntKind.i64))))) : Int)) ||| BitVec.ofInt (IntKind.bits IntKind.i64) (IntKind.wrap IntKind.i64 (byteAt s (2 : Int))))) : Int)))) (K (Value.tuple { toList := [Value.agg { toList := [Value.int IntKind.i64 (0 : Int), Value.int IntKind.i64 (0 : Int), Value.int IntKind.i64 (0 : Int), Value.string (⟨#[]⟩ : ByteArray)] }, Value.int IntKind.i64 (0 : Int), Value.int IntKind.i64 (40 : Int)] })) (ifK (decide ((0 : Int) ≤ (3 : Int) ∧ (3 : Int) < (↑(ByteArray.size s) : Int))) (ifK (decide ((0 : Int) ≤ (4 : Int) ∧ (4 : Int) < (↑(ByteArray.size s) : Int))) (ifK (decide ((0 : Int) ≤ (5 : Int) ∧ (5 : Int) ≤ (↑(ByteArray.size s) : Int) ∧ (↑(ByteArray.size s) : Int) ≤ (↑(ByteArray.size s) : Int))) (ifK (decide ((0 : Int) ≤ (9 : Int) ∧ (9 : Int) ≤ IntKind.wrap IntKind.i64 ((9 : Int) + IntKind.wrap IntKind.i64 (↑(BitVec.toNat (BitVec.ofInt (IntKind.bits IntKind.i64) (IntKind.wrap IntKind.i64 (↑(BitVec.toNat (BitVec.ofInt (IntKind.bits IntKind.i64) (IntKind.wrap IntKind.i64 (IntKind.wrap IntKind.i64 (byteAt s (0 : Int)) * (2 : Int) ^ min (Int.toNat (16 : Int)) (IntKind.bits IntKind.i64))) ||| BitVec.ofInt (IntKind.bits IntKind.i64) (IntKind.wrap IntKind.i64 (IntKind.wrap IntKind.i64 (byteAt s (1 : Int)) * (2 : Int) ^ min (Int.toNat (8 : Int)) (IntKind.bits IntKind.i64))))) : Int)) ||| BitVec.ofInt (IntKind.bits IntKind.i64) (IntKind.wrap IntKind.i64 (byteAt s (2 : Int))))) : Int)) ∧ IntKind.wrap IntKind.i64 ((9 : Int) + IntKind.wrap IntKind.i64 (↑(BitVec.toNat (BitVec.ofInt (IntKind.bits IntKind.i64) (IntKind.wrap IntKind.i64 (↑(BitVec.toNat (BitVec.ofInt (IntKind.bits IntKind.i64) (IntKind.wrap IntKind.i64 (IntKind.wrap IntKind.i64 (byteAt s (0 : Int)) * (2 : Int) ^ min (Int.toNat (16 : Int)) (IntKind.bits IntKind.i64))) ||| BitVec.ofInt (IntKind.bits IntKind.i64) (IntKind.wrap IntKind.i64 (IntKind.wrap IntKind.i64 (byteAt s (1 : Int)) * (2 : Int) ^ min (Int.toNat (8 : Int)) (IntKind.bits IntKind.i64))))) : Int)) ||| BitVec.ofInt (IntKind.bits IntKind.i64) (IntKind.wrap IntKind.i64 (byteAt s (2 : Int))))) : Int)) ≤ (↑(ByteArray.size s) : Int))) (ifK (decide (4 ≤ ByteArray.size (ByteArray.extract s (Int.toNat (5 : Int)) (Int.toNat (↑(ByteArray.size s) : Int))))) (ifK (decide (ByteArray.size (ByteArray.extract s (Int.toNat (9 : Int)) (Int.toNat (IntKind.wrap IntKind.i64 ((9 : Int) + IntKind.wrap IntKind.i64 (↑(BitVec.toNat (BitVec.ofInt (IntKind.bits IntKind.i64) (IntKind.wrap IntKind.i64 (↑(BitVec.toNat (BitVec.ofInt (IntKind.bits IntKind.i64) (IntKind.wrap IntKind.i64 (IntKind.wrap IntKind.i64 (byteAt s (0 : Int)) * (2 : Int) ^ min (Int.toNat (16 : Int)) (IntKind.bits IntKind.i64))) ||| BitVec.ofInt (IntKind.bits IntKind.i64) (IntKind.wrap IntKind.i64 (IntKind.wrap IntKind.i64 (byteAt s (1 : Int)) * (2 : Int) ^ min (Int.toNat (8 : Int)) (IntKind.bits IntKind.i64))))) : Int)) ||| BitVec.ofInt (IntKind.bits IntKind.i64) (IntKind.wrap IntKind.i64 (byteAt s (2 : Int))))) : Int))))) ≤ 281474976710656)) (K (Value.tuple { toList := [Value.agg { toList := [Value.int IntKind.i64 (IntKind.wrap IntKind.i64 (byteAt s (3 : Int))), Value.int IntKind.i64 (IntKind.wrap IntKind.i64 (byteAt s (4 : Int))), Value.int IntKind.i64 (IntKind.wrap IntKind.i64 (↑(BitVec.toNat (BitVec.ofInt (IntKind.bits IntKind.i64) (big4 (ByteArray.extract s (Int.toNat (5 : Int)) (Int.toNat (↑(ByteArray.size s) : Int)))) &&& ~~~BitVec.ofInt (IntKind.bits IntKind.i64) (2147483648 : Int))) : Int)), Value.string (ByteArray.extract s (Int.toNat (9 : Int)) (Int.toNat (IntKind.wrap IntKind.i64 ((9 : Int) + IntKind.wrap IntKind.i64 (↑(BitVec.toNat (BitVec.ofInt (IntKind.bits IntKind.i64) (IntKind.wrap IntKind.i64 (↑(BitVec.toNat (BitVec.ofInt (IntKind.bits IntKind.i64) (IntKind.wrap IntKind.i64 (IntKind.wrap IntKind.i64 (byteAt s (0 : Int)) * (2 : Int) ^ min (Int.toNat (16 : Int)) (IntKind.bits IntKind.i64))) ||| BitVec.ofInt (IntKind.bits IntKind.i64) (IntKind.wrap IntKind.i64 (IntKind.wrap IntKind.i64 (byteAt s (1 : Int)) * (2 : Int) ^ min (Int.toNat (8 : Int)) (IntKind.bits IntKind.i64))))) : Int)) ||| BitVec.ofInt (IntKind.bits IntKind.i64) (IntKind.wrap IntKind.i64 (byteAt s (2 : Int))))) : Int)))))] }, Value.int IntKind.i64 (IntKind.wrap IntKind.i64 ((9 : Int) + IntKind.wrap IntKind.i64 (↑(BitVec.toNat (BitVec.ofInt (IntKind.bits IntKind.i64) (IntKind.wrap IntKind.i64 (↑(BitVec.toNat (BitVec.ofInt (IntKind.bits IntKind.i64) (IntKind.wrap IntKind.i64 (IntKind.wrap IntKind.i64 (byteAt s (0 : Int)) * (2 : Int) ^ min (Int.toNat (16 : Int)) (IntKind.bits IntKind.i64))) ||| BitVec.ofInt (IntKind.bits IntKind.i64) (IntKind.wrap IntKind.i64 (IntKind.wrap IntKind.i64 (byteAt s (1 : Int)) * (2 : Int) ^ min (Int.toNat (8 : Int)) (IntKind.bits IntKind.i64))))) : Int)) ||| BitVec.ofInt (IntKind.bits IntKind.i64) (IntKind.wrap IntKind.i64 (byteAt s (2 : Int))))) : Int))), Value.int IntKind.i64 (0 : Int)] })) False) False) False) False) False) False))) False) False) False)) := by kernel_rfl
theorem resWrites (k fl st : Int) (s : ByteArray) (K : Value → Prop) :
   evalK frB noHint 30 7 [.agg #[vi k, vi fl, vi st, .string s]] AHeap.empty (fun v _ => K v)
   = (ifK (seq (wrB k fl st s) (wrB k fl st s)) (ifK (decide (wrE k fl st s = wrE k fl st s)) (K (Value.bool true)) (K (Value.bool false))) (K (Value.bool false))) := by kernel_rfl
theorem writes (k fl st : Int) (s : ByteArray) : Evals frB noHint 30 7 [.agg #[vi k, vi fl, vi st, .string s]] := by
  constructor
  rw [resWrites k fl st s (fun v => v = .bool true)]
  generalize wrB k fl st s = X
  generalize wrE k fl st s = Y
  rw [seq_self, decide_eq_true (rfl : Y = Y)]
  exact rfl
theorem big3_expr (s : ByteArray) : IntKind.wrap IntKind.i64 (↑(BitVec.toNat (BitVec.ofInt (IntKind.bits IntKind.i64) (IntKind.wrap IntKind.i64 (↑(BitVec.toNat (BitVec.ofInt (IntKind.bits IntKind.i64) (IntKind.wrap IntKind.i64 (IntKind.wrap IntKind.i64 (byteAt s (0 : Int)) * (2 : Int) ^ min (Int.toNat (16 : Int)) (IntKind.bits IntKind.i64))) ||| BitVec.ofInt (IntKind.bits IntKind.i64) (IntKind.wrap IntKind.i64 (IntKind.wrap IntKind.i64 (byteAt s (1 : Int)) * (2 : Int) ^ min (Int.toNat (8 : Int)) (IntKind.bits IntKind.i64))))) : Int)) ||| BitVec.ofInt (IntKind.bits IntKind.i64) (IntKind.wrap IntKind.i64 (byteAt s (2 : Int))))) : Int) = big3 s := by
  have h0 := byteAt_bd s 0; have h1 := byteAt_bd s 1; have h2 := byteAt_bd s 2
  simp only [p16, p8, wr_byte]
  rw [wr_small (x := byteAt s 0 * 65536) (by omega) (by omega), wr_small (x := byteAt s 1 * 256) (by omega) (by omega)]
  rw [or_add (x := byteAt s 0 * 65536) (y := byteAt s 1 * 256) 16 (by omega) (byteAt s 0) (by omega) (by omega) (by omega) (by omega) (by omega)]
  rw [or_add (x := byteAt s 0 * 65536 + byteAt s 1 * 256) (y := byteAt s 2) 8 (by omega) (byteAt s 0 * 256 + byteAt s 1) (by omega) (by omega) (by omega) (by omega) (by omega)]
  rfl
theorem tn (n : Nat) : Int.toNat (n : Int) = n := Int.toNat_natCast n
abbrev NxOk (s : ByteArray) (m : Int) : Prop := 3 ≤ s.size ∧ big3 s ≤ m ∧ 9 + big3 s ≤ s.size
def nxE (s : ByteArray) (m : Int) : Int := if s.size < 3 then 40 else if m < big3 s then 3 else if (s.size : Int) < 9 + big3 s then 40 else 0
def nxN (s : ByteArray) (m : Int) : Int := if NxOk s m then 9 + big3 s else 0
def nxK (s : ByteArray) (m : Int) : Int := if NxOk s m then byteAt s 3 else 0
def nxF (s : ByteArray) (m : Int) : Int := if NxOk s m then byteAt s 4 else 0
def nxS (s : ByteArray) (m : Int) : Int := if NxOk s m then big4 (s.extract 5 s.size) % 2147483648 else 0
def nxP (s : ByteArray) (m : Int) : ByteArray := if NxOk s m then s.extract 9 (9 + big3 s).toNat else ⟨#[]⟩
def nxG : List Value → Option (Bool × Value)
  | [.string s, .int .i64 m] => some (true, .tuple #[.agg #[vi (nxK s m), vi (nxF s m), vi (nxS s m), .string (nxP s m)], vi (nxN s m), vi (nxE s m)])
  | _ => none
set_option maxHeartbeats 4000000
theorem nx_ok : SumOk frB.P 12 (pureS nxG) := by
  refine sumOk_evalK fbT fbF fbS fbM noHint 30 Try.func12 (by kernel_rfl) (by decide) fun args v hg => ?_
  unfold nxG at hg
  split at hg
  case h_2 => cases hg
  rename_i s m
  simp only [Option.some.injEq, Prod.mk.injEq, true_and] at hg
  subst hg
  refine ⟨rfl, rfl, ?_⟩
  refine (resNext s m _).mpr ?_
  have hb := big3_bd s
  have hw : IntKind.wrap IntKind.i64 (9 + big3 s) = 9 + big3 s := wr_small (by omega) (by omega)
  by_cases h3 : s.size < 3
  · have hn : ¬ NxOk s m := by rintro ⟨h, _⟩; omega
    simp only [nxK, nxF, nxS, nxP, nxN, nxE, if_neg hn, if_pos h3]
    rw [decide_eq_true (show (s.size : Int) < 3 by omega)]
    first | exact rfl | exact trivial
  simp only [big3_expr, tn]
  simp only [hw, wr_byte]
  refine ifK_dec (fun h => by omega) (fun _ => ?_)
  refine ifK_dec (fun _ => ?_) (fun h => by omega)
  refine ifK_dec (fun _ => ?_) (fun h => by omega)
  refine ifK_dec (fun _ => ?_) (fun h => by omega)
  by_cases hm : m < big3 s
  · have hn : ¬ NxOk s m := by rintro ⟨_, h, _⟩; omega
    simp only [nxK, nxF, nxS, nxP, nxN, nxE, if_neg hn, if_neg h3, if_pos hm]
    rw [decide_eq_true hm]
    first | exact rfl | exact trivial
  rw [decide_eq_false hm]
  by_cases h9 : (s.size : Int) < 9 + big3 s
  · have hn : ¬ NxOk s m := by rintro ⟨_, _, h⟩; omega
    simp only [nxK, nxF, nxS, nxP, nxN, nxE, if_neg hn, if_neg h3, if_neg hm, if_pos h9]
    rw [decide_eq_true h9]
    first | exact rfl | exact trivial
  rw [decide_eq_false h9]
  have hn : NxOk s m := ⟨by omega, by omega, by omega⟩
  have hb4 := big4_bd (s.extract 5 s.size)
  have e5 : s.extract (Int.toNat 5) s.size = s.extract 5 s.size := rfl
  have e9 : s.extract (Int.toNat 9) (Int.toNat (9 + big3 s)) = s.extract 9 (9 + big3 s).toNat := rfl
  have hs5 : (s.extract 5 s.size).size = s.size - 5 := extract_size s (Nat.le_refl _)
  have hs9 : (s.extract 9 (9 + big3 s).toNat).size = (9 + big3 s).toNat - 9 := extract_size s (by omega)
  simp only [nxK, nxF, nxS, nxP, nxN, nxE, if_pos hn, if_neg h3, if_neg hm, if_neg h9, e5, e9, hs5, hs9, andNot_top hb4.1 hb4.2]
  refine ifK_dec (fun _ => ?_) (fun h => by omega)
  refine ifK_dec (fun _ => ?_) (fun h => by omega)
  refine ifK_dec (fun _ => ?_) (fun h => by omega)
  refine ifK_dec (fun _ => ?_) (fun h => by omega)
  refine ifK_dec (fun _ => ?_) (fun h => by omega)
  refine ifK_dec (fun _ => ?_) (fun h => by omega)
  first | exact rfl | trivial
end Go.Ev
