/- What a frame says, written again, says the same: the same bytes but for bits that do not count; no condition. -/
import Derived.Test.YtjhidbadbdhcmaaFrMh
namespace Go.Ev
open Go Go.Proofs Go.RowKit
set_option linter.unusedVariables false
set_option linter.unusedSimpArgs false
set_option maxRecDepth 100000
set_option maxHeartbeats 4000000
abbrev ba (l : List UInt8) : ByteArray := ⟨⟨l⟩⟩
theorem ext_ba (l : List UInt8) (a b : Nat) : (ba l).extract a b = ba ((l.take b).drop a) := by
  apply ba_ext
  rw [toList_ext]
theorem extE_ba (l : List UInt8) (a : Nat) : (ba l).extract a (ba l).size = ba (l.drop a) := by
  rw [ext_ba]
  show ba (List.drop a (List.take l.length l)) = _
  rw [List.take_length]
theorem extE0 (s : ByteArray) : s.extract 0 s.size = s := extE_ba s.data.toList 0
theorem u8i_of {x : Int} {a : UInt8} (h : x % 256 = a.toNat) : u8i x = a := by
  unfold u8i
  rw [h, Int.toNat_natCast, UInt8.ofNat_toNat]
theorem u8_lt (a : UInt8) : a.toNat < 256 := a.toNat_lt
theorem four_of {x : Int} {a b c d : UInt8} (h : x = a.toNat * 16777216 + b.toNat * 65536 + c.toNat * 256 + d.toNat) : four x = ba [a, b, c, d] := by
  have ha := u8_lt a; have hb := u8_lt b; have hc := u8_lt c; have hd := u8_lt d
  unfold four
  rw [u8i_of (a := a) (by omega), u8i_of (a := b) (by omega), u8i_of (a := c) (by omega), u8i_of (a := d) (by omega)]
theorem big4_cons (a b c d : UInt8) (t : List UInt8) : big4 (ba (a :: b :: c :: d :: t)) = a.toNat * 16777216 + b.toNat * 65536 + c.toNat * 256 + d.toNat := rfl
theorem four_big (a b c d : UInt8) (t : List UInt8) : four (big4 (ba (a :: b :: c :: d :: t))) = ba [a, b, c, d] := four_of (big4_cons a b c d t)
theorem len4 {l : List UInt8} (h : 4 ≤ l.length) : ∃ a b c d t, l = a :: b :: c :: d :: t := by
  match l, h with
  | a :: b :: c :: d :: t, _ => exact ⟨a, b, c, d, t, rfl⟩
theorem big4_four {n : Int} (h0 : 0 ≤ n) (h1 : n < 4294967296) (t : List UInt8) : big4 (four n ++ ba t) = n := by
  unfold four
  rw [ba_app]
  show ((u8i (n / 16777216)).toNat : Int) * 16777216 + (u8i (n / 65536)).toNat * 65536 + (u8i (n / 256)).toNat * 256 + (u8i n).toNat = n
  have hu : ∀ x : Int, ((u8i x).toNat : Int) = x % 256 := fun x => by unfold u8i; rw [UInt8.toNat_ofNat']; omega
  rw [hu, hu, hu, hu]
  omega
theorem orT_low {x : Int} (h0 : 0 ≤ x) (h1 : x < 2147483648) : orT x = x + 2147483648 := by
  unfold orT
  have e : (BitVec.ofInt 64 x ||| BitVec.ofInt 64 2147483648).toNat = x.toNat + 2147483648 := by
    rw [BitVec.toNat_or, ofInt_toNat h0 (by omega)]
    have hM : (BitVec.ofInt 64 2147483648).toNat = 2147483648 := by decide
    rw [hM, Nat.or_comm]
    have := Nat.two_pow_add_eq_or_of_lt (i := 31) (b := x.toNat) (by omega) 1
    simp only [Nat.reducePow, Nat.mul_one] at this
    rw [← this]; omega
  show IntKind.wrap .i64 (((BitVec.ofInt 64 x ||| BitVec.ofInt 64 2147483648).toNat : Nat) : Int) = _
  rw [e, wr_i64]; omega
/-- The five bytes of a priority are written as they were. -/
theorem pri5_again (l d : List UInt8) (h : 5 ≤ l.length) (pad code more : Int) : pri5 ⟨ba d, pad, code, big4 (ba l) % 2147483648, byteAt (ba l) 4 + 1, top1 (ba l), more⟩ = ba (l.take 5 ++ d) := by
  match l, h with
  | a :: b :: c :: e :: f :: t, _ =>
    unfold pri5
    have h4 : byteAt (ba (a :: b :: c :: e :: f :: t)) 4 = f.toNat := rfl
    have hb := big4_cons a b c e (f :: t)
    have ha := u8_lt a; have hb' := u8_lt b; have hc := u8_lt c; have hd := u8_lt e
    have hf := u8_lt f
    have h5 : four (if top1 (ba (a :: b :: c :: e :: f :: t)) = true then orT (big4 (ba (a :: b :: c :: e :: f :: t)) % 2147483648) else big4 (ba (a :: b :: c :: e :: f :: t)) % 2147483648) = ba [a, b, c, e] := by
      apply four_of
      unfold top1
      by_cases hh : 2147483648 ≤ big4 (ba (a :: b :: c :: e :: f :: t))
      · rw [if_pos hh, if_pos rfl, orT_low (by omega) (by omega)]
        omega
      · rw [if_neg hh, if_neg (by decide)]
        omega
    simp only [h5, h4]
    rw [u8i_of (a := f) (by omega), ba_app, ba_app]
    rfl
theorem encX_rows (L : List (Int × Int)) (n : Nat) (h : n = L.length) : encX n (L.flatMap fun p => [p.1, p.2]) = L.flatMap fun p => setEnc p.1 p.2 := by
  induction L generalizing n with
  | nil => subst h; rfl
  | cons p L ih =>
    subst h
    rw [List.flatMap_cons, List.flatMap_cons, List.length_cons]
    show setEnc p.1 p.2 ++ encX L.length (L.flatMap fun p => [p.1, p.2]) = _
    rw [ih _ rfl]
theorem setEnc_row (l : List UInt8) (j : Nat) (h : 6 * j + 6 ≤ l.length) : setEnc (setId (ba l) j) (setVal (ba l) j) = (l.drop (6 * j)).take 6 := by
  have hd : ∃ a b c d e f t, l.drop (6 * j) = a :: b :: c :: d :: e :: f :: t := by
    have hl : 6 ≤ (l.drop (6 * j)).length := by rw [List.length_drop]; omega
    match l.drop (6 * j), hl with
    | a :: b :: c :: d :: e :: f :: t, _ => exact ⟨a, b, c, d, e, f, t, rfl⟩
  obtain ⟨a, b, c, d, e, f, t, hd⟩ := hd
  have g : ∀ i (x : UInt8), (a :: b :: c :: d :: e :: f :: t)[i]? = some x → byteAt (ba l) ((6 * j + i : Nat) : Int) = x.toNat := by
    intro i x hx
    apply byteAt_of
    show l[6 * j + i]? = some x
    rw [← List.getElem?_drop, hd]; exact hx
  have g0 := g 0 a rfl; have g1 := g 1 b rfl; have g2 := g 2 c rfl; have g3 := g 3 d rfl; have g4 := g 4 e rfl; have g5 := g 5 f rfl
  rw [hd]
  unfold setEnc setId setVal
  have ha := u8_lt a; have hb := u8_lt b; have hc := u8_lt c; have hd' := u8_lt d; have he := u8_lt e; have hf := u8_lt f
  rw [Nat.add_zero] at g0
  rw [g0, g1, g2, g3, g4, g5]
  rw [u8i_of (a := a) (by omega), u8i_of (a := b) (by omega), u8i_of (a := c) (by omega), u8i_of (a := d) (by omega), u8i_of (a := e) (by omega), u8i_of (a := f) (by omega)]
  rfl
theorem enc_range (l : List UInt8) (n : Nat) (h : 6 * n ≤ l.length) : ((List.range n).flatMap fun j => setEnc (setId (ba l) j) (setVal (ba l) j)) = l.take (6 * n) := by
  induction n with
  | zero => rfl
  | succ n ih =>
    rw [List.range_succ, List.flatMap_append, ih (by omega), List.flatMap_cons, List.flatMap_nil, List.append_nil, setEnc_row l n (by omega)]
    rw [show 6 * (n + 1) = 6 * n + 6 by omega, List.take_add]
theorem enc_again (s : ByteArray) (h : s.size % 6 = 0) : (⟨⟨encX (s.size / 6) (setInts s (s.size / 6))⟩⟩ : ByteArray) = s := by
  apply ba_ext
  show encX (s.size / 6) (setInts s (s.size / 6)) = s.data.toList
  have hl := ba_len s
  rw [setInts, encX_rows _ _ (by rw [setRow_len]), setRow, List.flatMap_map]
  show ((List.range (s.size / 6)).flatMap fun j => setEnc (setId (ba s.data.toList) j) (setVal (ba s.data.toList) j)) = _
  rw [enc_range _ _ (by omega), List.take_of_length_le (by omega)]
/-- The settings that the program hands to Make: a row, or none. -/
def agS (k fl st : Int) (s : ByteArray) : ByteArray := if parR k fl st s = true then ⟨⟨encX (s.size / 6) (setInts s (s.size / 6))⟩⟩ else ⟨⟨[]⟩⟩
abbrev agX (k fl st : Int) (s : ByteArray) : ByteArray := wrO k fl (parO k fl st s).p (agS k fl st s)
structure Agn (k fl st : Int) (s X : ByteArray) : Prop where
  size : X.size = s.size
  out : parO k fl st X = parO k fl st s
  rows : parR k fl st X = parR k fl st s
  same : k = 4 → X = s
theorem Agn.refl (k fl st : Int) (s : ByteArray) : Agn k fl st s s := ⟨rfl, rfl, rfl, fun _ => rfl⟩
theorem Agn.of_eq {k fl st : Int} {s X : ByteArray} (h : X = s) : Agn k fl st s X := h ▸ .refl ..
theorem ag0 (fl st : Int) (s : ByteArray) (h : (parO 0 fl st s).is = false) : Agn 0 fl st s (agX 0 fl st s) := by
  have e := parO_0 fl st s
  by_cases hs : st = 0
  · rw [e, if_pos hs] at h; exact absurd h (by decide)
  rw [if_neg hs] at e
  by_cases h8 : fl / 8 % 2 = 1
  · have e1 := e
    unfold pad0 at e1
    rw [if_pos h8] at e1
    by_cases hz : s.size = 0
    · rw [e1, if_pos hz] at h; exact absurd h (by decide)
    rw [if_neg hz] at e1
    by_cases hp : ((s.extract 1 s.size).size : Int) < byteAt s 0
    · rw [e1, if_pos hp] at h; exact absurd h (by decide)
    rw [if_neg hp] at e1
    have hl : ∃ a t, s = ba (a :: t) := by
      have : s.data.toList ≠ [] := fun hh => hz (by rw [← ba_len, hh]; rfl)
      match hq : s.data.toList, this with
      | a :: t, _ => exact ⟨a, t, by rw [← hq]⟩
    obtain ⟨a, t, rfl⟩ := hl
    have hb0 : byteAt (ba (a :: t)) 0 = a.toNat := rfl
    have ha := u8_lt a
    rw [hb0, extE_ba] at hp e1
    rw [List.drop_succ_cons, List.drop_zero] at hp e1
    have hts : (ba t).size = t.length := rfl
    rw [hts] at hp e1
    have hn : ((t.length : Int) - a.toNat).toNat = t.length - a.toNat := by omega
    rw [hn, ext_ba] at e1
    have hX : agX 0 fl st (ba (a :: t)) = ba (a :: (t.take (t.length - a.toNat) ++ List.replicate a.toNat 0)) := by
      unfold agX
      rw [e1, wrO_0, if_pos ⟨h8, by show (0 : Int) < 1 + a.toNat; omega, by show 1 + (a.toNat : Int) ≤ 256; omega⟩]
      unfold padB
      show (⟨⟨[u8i (1 + (a.toNat : Int) - 1)]⟩⟩ : ByteArray) ++ ba (List.drop 0 (t.take (t.length - a.toNat))) ++ _ = _
      rw [u8i_of (a := a) (by omega), List.drop_zero]
      have hr : (1 + (a.toNat : Int) - 1).toNat = a.toNat := by omega
      have hrep : ∀ n : Nat, Lib.repeatL [(0 : UInt8)] n = List.replicate n 0 := by
        intro n
        induction n with
        | zero => rfl
        | succ n ih => rw [Lib.repeatL, ih]; rfl
      show ((⟨⟨[a]⟩⟩ : ByteArray) ++ ba (t.take (t.length - a.toNat))) ++ (⟨(Lib.repeatL [(0 : UInt8)] (1 + (a.toNat : Int) - 1).toNat).toArray⟩ : ByteArray) = _
      rw [hr, hrep, ba_app]
      show ba ([a] ++ t.take (t.length - a.toNat)) ++ ba (List.replicate a.toNat 0) = _
      rw [ba_app]
      rfl
    rw [hX]
    refine ⟨?_, ?_, ?_, fun h => absurd h (by decide)⟩
    · show (a :: (t.take (t.length - a.toNat) ++ List.replicate a.toNat 0)).length = (a :: t).length
      simp; omega
    · rw [e1, parO_0, if_neg hs]
      unfold pad0
      rw [if_pos h8, if_neg (by show ¬ ((a :: (t.take (t.length - a.toNat) ++ List.replicate a.toNat 0)).length = 0); simp), extE_ba]
      have hc : byteAt (ba (a :: (t.take (t.length - a.toNat) ++ List.replicate a.toNat 0))) 0 = a.toNat := rfl
      rw [hc, List.drop_succ_cons, List.drop_zero]
      have hsz : (ba (t.take (t.length - a.toNat) ++ List.replicate a.toNat 0)).size = t.length := by
        show (t.take (t.length - a.toNat) ++ List.replicate a.toNat 0).length = _
        simp; omega
      rw [hsz, if_neg hp, hn, ext_ba, List.take_left' (by simp)]
    · rw [noR (by decide), noR (by decide)]
  · unfold pad0 at e
    rw [if_neg h8, extE0] at e
    refine .of_eq ?_
    unfold agX
    rw [e, wrO_0, if_neg (fun hh => h8 hh.1)]
theorem ag1 (fl st : Int) (s : ByteArray) (h8 : ¬ fl / 8 % 2 = 1) (h : (parO 1 fl st s).is = false) : Agn 1 fl st s (agX 1 fl st s) := by
  have e := parO_1 fl st s
  by_cases hs : st = 0
  · rw [e, if_pos hs] at h; exact absurd h (by decide)
  rw [if_neg hs] at e
  unfold pad1 at e
  rw [if_neg h8] at e
  refine .of_eq ?_
  by_cases h32 : fl / 32 % 2 = 1
  · rw [if_pos h32] at e
    unfold pri at e
    by_cases h5 : s.size < 5
    · rw [e, if_pos h5] at h; exact absurd h (by decide)
    rw [if_neg h5, if_neg (by omega), sub0c, extE0] at e
    unfold agX
    rw [e, wrO_1, if_pos h32]
    have := pri5_again s.data.toList (s.data.toList.drop 5) (by rw [ba_len]; omega) 0 0 0
    rw [List.take_append_drop] at this
    rw [extE_ba s.data.toList]
    exact this
  · rw [if_neg h32] at e
    unfold pln at e
    rw [if_neg (by omega), sub0c, extE0] at e
    unfold agX
    rw [e, wrO_1, if_neg h32]
theorem ag2 (fl st : Int) (s : ByteArray) (h : (parO 2 fl st s).is = false) : Agn 2 fl st s (agX 2 fl st s) := by
  have e := parO_2 fl st s
  by_cases hs : st = 0
  · rw [e, if_pos hs] at h; exact absurd h (by decide)
  rw [if_neg hs] at e
  unfold par2 at e
  by_cases h5 : s.size = 5
  · rw [if_pos h5] at e
    refine .of_eq ?_
    unfold agX
    rw [e, wrO_2]
    have := pri5_again s.data.toList [] (by rw [ba_len]; omega) 0 0 0
    rw [List.append_nil, List.take_of_length_le (by rw [ba_len]; omega)] at this
    exact this
  · rw [e, if_neg h5] at h; exact absurd h (by decide)
theorem ag3 (fl st : Int) (s : ByteArray) (h : (parO 3 fl st s).is = false) : Agn 3 fl st s (agX 3 fl st s) := by
  have e := parO_3 fl st s
  by_cases hs : st = 0
  · rw [e, if_pos hs] at h; exact absurd h (by decide)
  rw [if_neg hs] at e
  unfold par3 at e
  by_cases h5 : s.size = 4
  · rw [if_pos h5] at e
    refine .of_eq ?_
    unfold agX
    rw [e, wrO_3]
    obtain ⟨a, b, c, d, t, hl⟩ := len4 (l := s.data.toList) (by rw [ba_len]; omega)
    have ht : t = [] := by
      have := ba_len s
      rw [hl] at this
      simp at this
      exact List.length_eq_zero_iff.1 (by omega)
    subst ht
    have : s = ba [a, b, c, d] := by rw [← hl]
    rw [this]
    exact four_big a b c d []
  · rw [e, if_neg h5] at h; exact absurd h (by decide)
theorem ag4 (fl st : Int) (s : ByteArray) (h : (parO 4 fl st s).is = false) : Agn 4 fl st s (agX 4 fl st s) := by
  have e := parO_4 fl st s
  by_cases hs : st = 0
  · rw [if_pos hs] at e
    unfold par4 at e
    by_cases h6 : setSix s fl = true
    · rw [e, if_pos h6] at h; exact absurd h (by decide)
    rw [if_neg h6] at e
    by_cases hc : setCode s = 0
    · have h6' : setSix s fl = false := by simpa using h6
      have hm : s.size % 6 = 0 := by unfold setSix at h6'; simp at h6'; omega
      refine .of_eq ?_
      unfold agX
      rw [wrO_4]
      unfold agS
      by_cases hr : parR 4 fl st s = true
      · rw [if_pos hr]; exact enc_again s hm
      · rw [if_neg hr]
        have hz : s.size / 6 = 0 := by
          by_cases hz : s.size / 6 = 0
          · exact hz
          · exact absurd (by unfold parR; exact decide_eq_true ⟨rfl, hs, h6', hc, hz⟩) hr
        apply ba_ext
        exact (List.length_eq_zero_iff.1 (by rw [ba_len]; omega)).symm
    · rw [e, if_neg hc] at h; exact absurd h (by show ¬ (true = false); decide)
  · rw [e, if_neg hs] at h; exact absurd h (by decide)
theorem ag6 (fl st : Int) (s : ByteArray) (h : (parO 6 fl st s).is = false) : Agn 6 fl st s (agX 6 fl st s) := by
  have e := parO_6 fl st s
  by_cases hs : st = 0
  · rw [if_pos hs] at e
    unfold par6 at e
    by_cases h5 : s.size = 8
    · rw [if_pos h5] at e
      refine .of_eq ?_
      unfold agX
      rw [e, wrO_D (by unfold OtherW; decide)]
    · rw [e, if_neg h5] at h; exact absurd h (by decide)
  · rw [e, if_neg hs] at h; exact absurd h (by decide)
theorem ag9 (fl st : Int) (s : ByteArray) (h : (parO 9 fl st s).is = false) : Agn 9 fl st s (agX 9 fl st s) := by
  have e := parO_9 fl st s
  by_cases hs : st = 0
  · rw [e, if_pos hs] at h; exact absurd h (by decide)
  rw [if_neg hs] at e
  refine .of_eq ?_
  unfold agX
  rw [e, wrO_D (by unfold OtherW; decide)]
theorem ag7 (fl st : Int) (s : ByteArray) (h : (parO 7 fl st s).is = false) : Agn 7 fl st s (agX 7 fl st s) := by
  have e := parO_7 fl st s
  by_cases hs : st = 0
  · rw [if_pos hs] at e
    unfold par7 at e
    by_cases h5 : s.size < 8
    · rw [e, if_pos h5] at h; exact absurd h (by decide)
    rw [if_neg h5] at e
    have hl := ba_len s
    have hd : s.extract 8 s.size = ba (s.data.toList.drop 8) := extE_ba s.data.toList 8
    have h4 : s.extract 4 s.size = ba (s.data.toList.drop 4) := extE_ba s.data.toList 4
    rw [hd, h4] at e
    have b1 := big4_bd s
    have b2 := big4_bd (ba (s.data.toList.drop 4))
    have hX : agX 7 fl st s = four (big4 s % 2147483648) ++ four (big4 (ba (s.data.toList.drop 4))) ++ ba (s.data.toList.drop 8) := by
      unfold agX
      rw [e, wrO_7]
    rw [hX]
    have z1 : (four (big4 s % 2147483648) ++ four (big4 (ba (s.data.toList.drop 4))) ++ ba (s.data.toList.drop 8)).size = s.size := by
      rw [ap_size, ap_size, four_size, four_size]
      show 4 + 4 + (s.data.toList.drop 8).length = _
      rw [List.length_drop]; omega
    refine ⟨z1, ?_, ?_, fun h => absurd h (by decide)⟩
    · rw [e, parO_7, if_pos hs]
      unfold par7
      rw [z1, if_neg h5, ← z1]
      have q1 : big4 (four (big4 s % 2147483648) ++ four (big4 (ba (s.data.toList.drop 4))) ++ ba (s.data.toList.drop 8)) = big4 s % 2147483648 := by
        conv => lhs; arg 1; rw [show four (big4 (ba (s.data.toList.drop 4))) = ba (four (big4 (ba (s.data.toList.drop 4)))).data.toList from rfl]
        unfold four
        rw [ba_app, ba_app, List.append_assoc, ← ba_app]
        exact big4_four (by omega) (by omega) _
      have q2 : (four (big4 s % 2147483648) ++ four (big4 (ba (s.data.toList.drop 4))) ++ ba (s.data.toList.drop 8)).extract 4 (four (big4 s % 2147483648) ++ four (big4 (ba (s.data.toList.drop 4))) ++ ba (s.data.toList.drop 8)).size = four (big4 (ba (s.data.toList.drop 4))) ++ ba (s.data.toList.drop 8) := by
        unfold four
        rw [ba_app, ba_app, extE_ba, ba_app]
        rfl
      have q3 : (four (big4 s % 2147483648) ++ four (big4 (ba (s.data.toList.drop 4))) ++ ba (s.data.toList.drop 8)).extract 8 (four (big4 s % 2147483648) ++ four (big4 (ba (s.data.toList.drop 4))) ++ ba (s.data.toList.drop 8)).size = ba (s.data.toList.drop 8) := by
        unfold four
        rw [ba_app, ba_app, extE_ba]
        rfl
      rw [q1, q2, q3, big4_four b2.1 b2.2, Int.emod_emod_of_dvd _ (by decide)]
    · rw [noR (by decide), noR (by decide)]
  · rw [e, if_neg hs] at h; exact absurd h (by decide)
theorem ag8 (fl st : Int) (s : ByteArray) (h : (parO 8 fl st s).is = false) : Agn 8 fl st s (agX 8 fl st s) := by
  have e := parO_8 fl st s
  unfold par8 at e
  by_cases h5 : s.size = 4
  · rw [if_pos h5] at e
    by_cases hz : big4 s % 2147483648 = 0
    · rw [e, if_pos hz] at h; exact absurd h (by simp)
    rw [if_neg hz] at e
    have b1 := big4_bd s
    have hX : agX 8 fl st s = four (big4 s % 2147483648) := by
      unfold agX
      rw [e, wrO_8]
    have hb : big4 (four (big4 s % 2147483648)) = big4 s % 2147483648 := by
      have := big4_four (n := big4 s % 2147483648) (by omega) (by omega) []
      rwa [show four (big4 s % 2147483648) ++ ba [] = four (big4 s % 2147483648) by unfold four; rw [ba_app]; rfl] at this
    rw [hX]
    refine ⟨by rw [four_size, h5], ?_, by rw [noR (by decide), noR (by decide)], fun h => absurd h (by decide)⟩
    rw [e, parO_8]
    unfold par8
    rw [hb, Int.emod_emod_of_dvd _ (by decide), if_pos (four_size _), if_neg hz]
  · rw [e, if_neg h5] at h; exact absurd h (by decide)
theorem ag16 (fl st : Int) (s : ByteArray) (h : (parO 16 fl st s).is = false) : Agn 16 fl st s (agX 16 fl st s) := by
  have e := parO_16 fl st s
  by_cases hs : st = 0
  · rw [if_pos hs] at e
    unfold par16 at e
    by_cases h5 : s.size < 4
    · rw [e, if_pos h5] at h; exact absurd h (by decide)
    rw [if_neg h5] at e
    by_cases hz : big4 s % 2147483648 = 0
    · rw [e, if_pos hz] at h; exact absurd h (by decide)
    rw [if_neg hz] at e
    have hl := ba_len s
    have h4 : s.extract 4 s.size = ba (s.data.toList.drop 4) := extE_ba s.data.toList 4
    rw [h4] at e
    have b1 := big4_bd s
    have hX : agX 16 fl st s = four (big4 s % 2147483648) ++ ba (s.data.toList.drop 4) := by
      unfold agX
      rw [e, wrO_16]
    rw [hX]
    have z1 : (four (big4 s % 2147483648) ++ ba (s.data.toList.drop 4)).size = s.size := by
      rw [ap_size, four_size]
      show 4 + (s.data.toList.drop 4).length = _
      rw [List.length_drop]; omega
    refine ⟨z1, ?_, by rw [noR (by decide), noR (by decide)], fun h => absurd h (by decide)⟩
    rw [e, parO_16, if_pos hs]
    unfold par16
    have q2 : (four (big4 s % 2147483648) ++ ba (s.data.toList.drop 4)).extract 4 (four (big4 s % 2147483648) ++ ba (s.data.toList.drop 4)).size = ba (s.data.toList.drop 4) := by
      unfold four
      rw [ba_app, extE_ba]
      rfl
    rw [q2, z1, if_neg h5, big4_four (by omega) (by omega), Int.emod_emod_of_dvd _ (by decide), if_neg hz]
  · rw [e, if_neg hs] at h; exact absurd h (by decide)
theorem agn (k fl st : Int) (s : ByteArray) (hk : 0 ≤ k ∧ k ≤ 9 ∨ k = 16) (h8 : ¬ (k = 1 ∧ fl / 8 % 2 = 1)) (h : (parO k fl st s).is = false) : Agn k fl st s (agX k fl st s) := by
  have hc : k = 0 ∨ k = 1 ∨ k = 2 ∨ k = 3 ∨ k = 4 ∨ k = 5 ∨ k = 6 ∨ k = 7 ∨ k = 8 ∨ k = 9 ∨ k = 16 := by omega
  rcases hc with rfl | rfl | rfl | rfl | rfl | rfl | rfl | rfl | rfl | rfl | rfl
  · exact ag0 fl st s h
  · exact ag1 fl st s (fun hh => h8 ⟨rfl, hh⟩) h
  · exact ag2 fl st s h
  · exact ag3 fl st s h
  · exact ag4 fl st s h
  · rw [parO_5] at h; exact absurd h (by decide)
  · exact ag6 fl st s h
  · exact ag7 fl st s h
  · exact ag8 fl st s h
  · exact ag9 fl st s h
  · exact ag16 fl st s h
end Go.Ev
