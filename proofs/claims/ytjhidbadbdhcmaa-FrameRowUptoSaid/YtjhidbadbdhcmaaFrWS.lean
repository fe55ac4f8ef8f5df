/- frame.Write and the document's Write write the same; no condition. -/
import Derived.Test.YtjhidbadbdhcmaaFrW
namespace Go.Ev
open Go Go.Proofs Go.RowKit
set_option linter.unusedVariables false
set_option maxRecDepth 100000
set_option maxHeartbeats 4000000
theorem ifK_b {c : Bool} {a b : Prop} (h1 : c = true → a) (h2 : c = false → b) : ifK c a b := by
  cases c
  · exact h2 rfl
  · exact h1 rfl
def u8i (x : Int) : UInt8 := UInt8.ofNat (Int.toNat (x % 256))
abbrev FrOk (k fl st : Int) : Prop := 0 ≤ k ∧ k ≤ 255 ∧ 0 ≤ fl ∧ fl ≤ 255 ∧ 0 ≤ st ∧ st ≤ 2147483647
def head9 (k fl st n : Int) : List UInt8 := [u8i (n / 65536), u8i (n / 256), u8i n, u8i k, u8i fl, u8i (st / 16777216), u8i (st / 65536), u8i (st / 256), u8i st]
def wrB (k fl st : Int) (s : ByteArray) : ByteArray := if FrOk k fl st then if 16777215 < s.size then ⟨#[]⟩ else ⟨⟨head9 k fl st s.size⟩⟩ ++ s else ⟨#[]⟩
def wrE (k fl st : Int) (s : ByteArray) : Int := if FrOk k fl st then if 16777215 < s.size then 3 else 0 else 5
def wrG : List Value → Option (Bool × Value)
  | [.agg ⟨[.int .i64 k, .int .i64 fl, .int .i64 st, .string s]⟩] => some (true, .tuple #[.string (wrB k fl st s), vi (wrE k fl st s)])
  | _ => none
theorem u8_wr (x : Int) : UInt8.ofNat (Int.toNat (IntKind.wrap IntKind.u8 x)) = u8i x := by rw [wr_u8]; rfl
theorem u8_mod {x : Int} (h : 0 ≤ x) : u8i (Int.tmod x 256) = u8i x := by
  unfold u8i
  rw [Int.tmod_eq_emod_of_nonneg h]
  congr 2
  omega
theorem td {x : Int} (h : 0 ≤ x) (h' : x < 9223372036854775808) : IntKind.wrap IntKind.i64 (Int.tdiv x 256) = x / 256 := by
  rw [Int.tdiv_eq_ediv_of_nonneg h, wr_small (by omega) (by omega)]
theorem fd24 (x : Int) : Int.fdiv x ((2 : Int) ^ min (Int.toNat 24) (IntKind.bits IntKind.i64)) = x / 16777216 := by rw [p24, Int.fdiv_eq_ediv_of_nonneg _ (by omega)]
theorem fd16 (x : Int) : Int.fdiv x ((2 : Int) ^ min (Int.toNat 16) (IntKind.bits IntKind.i64)) = x / 65536 := by rw [p16, Int.fdiv_eq_ediv_of_nonneg _ (by omega)]
theorem fd8 (x : Int) : Int.fdiv x ((2 : Int) ^ min (Int.toNat 8) (IntKind.bits IntKind.i64)) = x / 256 := by rw [p8, Int.fdiv_eq_ediv_of_nonneg _ (by omega)]
theorem ba_app (a b : List UInt8) : (⟨⟨a⟩⟩ : ByteArray) ++ ⟨⟨b⟩⟩ = ⟨⟨a ++ b⟩⟩ := by
  apply ByteArray.ext
  rw [ByteArray.data_append]
  simp
theorem ba_size (a : List UInt8) : (⟨⟨a⟩⟩ : ByteArray).size = a.length := rfl
theorem w_ok : SumOk frA.P 20 (pureS wrG) := by
  refine sumOk_evalK faT faF faS faM noHint 30 Try.func20 (by kernel_rfl) (by decide) fun args v hg => ?_
  unfold wrG at hg
  split at hg
  case h_2 => cases hg
  rename_i k fl st s
  simp only [Option.some.injEq, Prod.mk.injEq, true_and] at hg
  subst hg
  refine ⟨rfl, rfl, ?_⟩
  refine (resW k fl st s _).mpr ?_
  simp only [u8_wr, fd24, fd16, fd8, ba_app, ba_size, List.length_append, List.length_cons, List.length_nil]
  by_cases hok : FrOk k fl st
  · have h1 : (0 : Int) ≤ if st < if fl < k then fl else k then st else if fl < k then fl else k := by obtain ⟨a, b, c, d, e, f⟩ := hok; split <;> (try split at *) <;> (try split) <;> omega
    have h2 : (if fl > k then fl else k) ≤ 255 := by obtain ⟨a, b, c, d, e, f⟩ := hok; split <;> omega
    simp only [wrB, wrE, if_pos hok]
    rw [decide_eq_true h1, decide_eq_true h2, decide_eq_true hok.2.2.2.2.2]
    refine ifK_dec (fun h => ?_) (fun h => ?_)
    · rw [if_pos (by omega), if_pos (by omega)]
    · rw [if_neg (by omega), if_neg (by omega)]
      simp only [true_and]
      refine ifK_dec (fun _ => by first | trivial | rfl) (fun h => ?_)
      omega
  · have : ∀ x : Prop, ¬ (((0 : Int) ≤ if st < if fl < k then fl else k then st else if fl < k then fl else k) ∧ ((if fl > k then fl else k) ≤ 255) ∧ st ≤ 2147483647) := by
      rintro _ ⟨h1, h2, h3⟩
      refine hok ?_
      split at h1 <;> split at h2 <;> (try split at h1) <;> (try split at *) <;> (unfold FrOk; omega)
    have := this True
    simp only [wrB, wrE, if_neg hok]
    refine ifK_dec (fun h1 => ?_) (fun _ => by first | trivial | rfl)
    refine ifK_dec (fun h2 => ?_) (fun _ => by first | trivial | rfl)
    refine ifK_dec (fun h3 => ?_) (fun _ => by first | trivial | rfl)
    exact absurd ⟨h1, h2, h3⟩ this
theorem rw_ok : SumOk frA.P 21 (pureS wrG) := by
  refine sumOk_evalK faT faF faS faM noHint 30 Try.func21 (by kernel_rfl) (by decide) fun args v hg => ?_
  unfold wrG at hg
  split at hg
  case h_2 => cases hg
  rename_i k fl st s
  simp only [Option.some.injEq, Prod.mk.injEq, true_and] at hg
  subst hg
  refine ⟨rfl, rfl, ?_⟩
  refine (resRW k fl st s _).mpr ?_
  by_cases hok : FrOk k fl st
  · obtain ⟨a, b, c, d, e, f⟩ := id hok
    simp only [wrB, wrE, if_pos hok]
    refine ifK_dec (fun h => by omega) (fun _ => ?_)
    refine ifK_dec (fun h => by omega) (fun _ => ?_)
    refine ifK_dec (fun h => by omega) (fun _ => ?_)
    refine ifK_dec (fun h => by omega) (fun _ => ?_)
    refine ifK_dec (fun h => by omega) (fun _ => ?_)
    refine ifK_dec (fun h => by omega) (fun _ => ?_)
    refine ifK_dec (fun h => ?_) (fun h => ?_)
    · rw [if_pos (by omega), if_pos (by omega)]
    · rw [if_neg (by omega), if_neg (by omega)]
      have hn : (0 : Int) ≤ s.size ∧ (s.size : Int) ≤ 16777215 := by omega
      simp only [true_and, u8_wr]
      generalize hN : (s.size : Int) = N at *
      have e1 : IntKind.wrap IntKind.i64 (Int.tdiv N 256) = N / 256 := td (by omega) (by omega)
      have e2 : IntKind.wrap IntKind.i64 (Int.tdiv (N / 256) 256) = N / 256 / 256 := td (by omega) (by omega)
      have e3 : IntKind.wrap IntKind.i64 (Int.tdiv st 256) = st / 256 := td (by omega) (by omega)
      have e4 : IntKind.wrap IntKind.i64 (Int.tdiv (st / 256) 256) = st / 256 / 256 := td (by omega) (by omega)
      have e5 : IntKind.wrap IntKind.i64 (Int.tdiv (st / 65536) 256) = st / 65536 / 256 := td (by omega) (by omega)
      have q1 : N / 256 / 256 = N / 65536 := by omega
      have q2 : st / 256 / 256 = st / 65536 := by omega
      have q3 : st / 65536 / 256 = st / 16777216 := by omega
      simp only [e1, e2, e3, e4, e5, q1, q2, q3]
      rw [u8_mod (x := N / 65536) (by omega), u8_mod (x := N / 256) (by omega), u8_mod (x := N) (by omega), u8_mod (x := k) (by omega), u8_mod (x := fl) (by omega), u8_mod (x := st / 16777216) (by omega),
        u8_mod (x := st / 65536) (by omega), u8_mod (x := st / 256) (by omega), u8_mod (x := st) (by omega)]
      simp only [ba_app, ba_size, List.length_append, List.length_cons, List.length_nil]
      refine ifK_dec (fun _ => by first | trivial | rfl) (fun h => ?_)
      omega
  · simp only [wrB, wrE, if_neg hok]
    repeat' refine ifK_dec (fun _ => ?_) (fun _ => ?_)
    all_goals first | trivial | rfl | (exfalso; apply hok; unfold FrOk; omega)
end Go.Ev
