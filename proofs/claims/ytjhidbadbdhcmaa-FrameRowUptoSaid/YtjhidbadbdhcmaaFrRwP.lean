/- The law FrameRow: its way, from loop to loop; the frames are together no longer than the second form's bound lets them be. -/
import Derived.Test.YtjhidbadbdhcmaaFrRw
import Derived.Test.YtjhidbadbdhcmaaEvTd
namespace Go.Ev
open Go Go.Proofs Go.RowKit
set_option linter.unusedVariables false
set_option maxRecDepth 100000
structure Fr where
  k : Int
  fl : Int
  st : Int
  s : ByteArray
def frCel (f : Fr) : List Value := [vi f.k, vi f.fl, vi f.st, .string f.s]
theorem frCel_len (f : Fr) : (frCel f).length = 4 := rfl
theorem frCel_ren (d : List Nat) (f : Fr) : (frCel f).map (renV d) = frCel f := rfl
theorem frCel_scal (f : Fr) : ∀ v ∈ frCel f, scal v = true := by
  intro v hv
  simp only [frCel, List.mem_cons, List.not_mem_nil, or_false] at hv
  rcases hv with rfl | rfl | rfl | rfl <;> rfl
abbrev fRow (F : List Fr) : List Value := F.flatMap frCel
def frGood (f : Fr) : Bool := decide (FrOk f.k f.fl f.st) && decide (f.s.size ≤ 16777215)
def frEnc (f : Fr) : List UInt8 := head9 f.k f.fl f.st f.s.size ++ f.s.data.toList
theorem frEnc_len (f : Fr) : (frEnc f).length = 9 + f.s.size := by unfold frEnc; rw [List.length_append, head_len, ba_len]
theorem frGood_iff {f : Fr} : frGood f = true ↔ FrOk f.k f.fl f.st ∧ f.s.size ≤ 16777215 := by unfold frGood; simp
theorem wrE_good (f : Fr) : (wrE f.k f.fl f.st f.s = 0) ↔ frGood f = true := by
  rw [frGood_iff]
  unfold wrE
  constructor
  · intro h
    split at h
    · rename_i h1
      split at h
      · cases h
      · exact ⟨h1, by omega⟩
    · cases h
  · rintro ⟨h1, h2⟩
    rw [if_pos h1, if_neg (by omega)]
theorem wrB_good {f : Fr} (h : frGood f = true) : (wrB f.k f.fl f.st f.s).data.toList = frEnc f := by
  obtain ⟨h1, h2⟩ := frGood_iff.1 h
  unfold wrB
  rw [if_pos h1, if_neg (by omega), ba_list]; rfl
theorem wrB_size {f : Fr} (h : frGood f = true) : (wrB f.k f.fl f.st f.s).size = 9 + f.s.size := by
  rw [← ba_len, wrB_good h, frEnc_len]

/-! ### What frame.Next finds -/
theorem next_whole {f : Fr} (h : frGood f = true) {s : ByteArray} {r : List UInt8} (hs : s.data.toList = frEnc f ++ r) :
    nxE s 16777215 = 0 ∧ nxN s 16777215 = 9 + f.s.size ∧ nxK s 16777215 = f.k ∧ nxF s 16777215 = f.fl ∧ nxS s 16777215 = f.st ∧ nxP s 16777215 = f.s ∧ 9 + f.s.size ≤ s.size := by
  obtain ⟨h1, h2⟩ := frGood_iff.1 h
  have hs' : s.data.toList = head9 f.k f.fl f.st f.s.size ++ (f.s.data.toList ++ r) := by rw [hs]; unfold frEnc; rw [List.append_assoc]
  obtain ⟨t1, t2, t3, t4, t5⟩ := next_head h1 ⟨by omega, by omega⟩ hs'
  rw [List.length_append, ba_len] at t5
  have hn : NxOk s 16777215 := ⟨by omega, by omega, by omega⟩
  refine ⟨?_, ?_, ?_, ?_, ?_, ?_, by omega⟩
  · unfold nxE; rw [if_neg (by omega), if_neg (by omega), if_neg (by omega)]
  · unfold nxN; rw [if_pos hn, t1]
  · unfold nxK; rw [if_pos hn, t2]
  · unfold nxF; rw [if_pos hn, t3]
  · unfold nxS; rw [if_pos hn, t4]
  · unfold nxP
    rw [if_pos hn]
    apply ba_ext
    rw [toList_ext, hs', t1]
    have e : (9 + (f.s.size : Int)).toNat = 9 + f.s.size := by omega
    rw [e, List.drop_take, List.drop_left' (head_len _ _ _ _)]
    have : 9 + f.s.size - 9 = f.s.size := by omega
    rw [this, List.take_left' (ba_len _)]
theorem byte_pre {s : ByteArray} {x y : List UInt8} {i : Nat} (h : s.data.toList ++ x = y) (hi : i < s.size) {b : UInt8} (hb : y[i]? = some b) : byteAt s i = b.toNat := by
  refine byteAt_of ?_
  rw [← h, List.getElem?_append_left (by rw [ba_len]; exact hi)] at hb
  exact hb
theorem next_part {f : Fr} (h : frGood f = true) {s : ByteArray} {x r : List UInt8} (hs : s.data.toList ++ x = frEnc f ++ r) (hl : s.size < 9 + f.s.size) : nxE s 16777215 = 40 := by
  obtain ⟨h1, h2⟩ := frGood_iff.1 h
  unfold nxE
  by_cases h3 : s.size < 3
  · rw [if_pos h3]
  rw [if_neg h3]
  have e0 : byteAt s 0 = (u8i (f.s.size / 65536)).toNat := byte_pre (i := 0) hs (by omega) rfl
  have e1 : byteAt s 1 = (u8i (f.s.size / 256)).toNat := byte_pre (i := 1) hs (by omega) rfl
  have e2 : byteAt s 2 = (u8i f.s.size).toNat := byte_pre (i := 2) hs (by omega) rfl
  have hb : big3 s = f.s.size := by
    unfold big3
    rw [e0, e1, e2, u8i_nat, u8i_nat, u8i_nat]
    omega
  rw [if_neg (by omega), if_pos (by omega)]

/-! ### The states -/
def rwI (F : List Fr) (cut : Int) (id : Nat) (μ : List Nat) (m : Nat) (vs : List Value) (H : AHeap) : Prop :=
  match id with
  | 0 => ∃ i : Nat, vs = [sl F.length, vi cut, nl, nl, vi i] ∧ H = rwH0 (fRow F) ∧ i ≤ F.length ∧ (F.take i).filter frGood = [] ∧ m = F.length - i
  | 1 => ∃ (i : Nat) (G : List Fr), vs = [sl F.length, vi cut, slb 1 (G.flatMap frEnc).length, slb 2 G.length, vi i] ∧ H = rwH1 (fRow F) (bcells (G.flatMap frEnc)) (fRow G) ∧ i ≤ F.length ∧ (F.take i).filter frGood = G ∧ m = F.length - i
  | 2 => ∃ (s t : ByteArray), vs = [nl, .string s, .string t, vi 0] ∧ H = rwH0 (fRow F) ∧ s.data.toList ++ t.data.toList = [] ∧ m = 0
  | 3 => ∃ (s t : ByteArray) (i : Nat), vs = [slb 1 (F.filter frGood).length, .string s, .string t, vi i] ∧ H = rwH2 (fRow F) (fRow (F.filter frGood)) ∧ i ≤ (F.filter frGood).length ∧
      s.data.toList ++ t.data.toList = ((F.filter frGood).drop i).flatMap frEnc ∧ m = 2 * ((F.filter frGood).length - i) + (if t.size = 0 then 0 else 1)
  | _ => False
abbrev rwE : KF := endK frN [.tmp 4] fun v _ => v = .bool true
abbrev rwSeg (F : List Fr) (cut : Int) (p : List Bool) (ms : List Nat) (m : Nat) (idx : List Nat) (vs : List Value) (H : AHeap) : Prop := segA frN rwHint 30 20 11 1 97 rwCuts (ofI (rwI F cut)) rwB p ms m idx vs H rwE

theorem frAgg : (frN.ty 23).map (fun i => (isAggD i.desc, i.size)) = some (true, 4) := by kernel_rfl
theorem i_succ {i : Nat} (h : i ≤ 1048576) : IntKind.wrap IntKind.i64 ((i : Int) + 1) = ((i + 1 : Nat) : Int) := by rw [wr_i64]; omega
theorem filter_take_succ {F : List Fr} {i : Nat} {f : Fr} (hf : F[i]? = some f) : (F.take (i + 1)).filter frGood = (F.take i).filter frGood ++ (if frGood f = true then [f] else []) := by
  rw [List.take_add_one, hf, List.filter_append]
  congr 1
  cases h : frGood f <;> simp [h]
theorem rseg0 {F : List Fr} {cut : Int} (hn : F.length ≤ 1048576) (hb : ∀ i, (((F.take i).filter frGood).flatMap frEnc).length ≤ 20000000) (m : Nat) (vs : List Value) (H : AHeap) (hI : rwI F cut 0 [] m vs H) :
    Hd (rwSeg F cut rwP1 [] m [0,1,5,6,7] vs H) := by
  obtain ⟨i, rfl, rfl, hi, hG, rfl⟩ := hI
  constructor
  unfold rwSeg
  rw [rw0]
  refine ifK_dec (fun h => ?_) (fun h => ?_)
  · refine ifK_dec (fun _ => ?_) (fun h' => absurd ⟨by omega, h⟩ h')
    obtain ⟨f, hf⟩ : ∃ f, F[i]? = some f := ⟨_, List.getElem?_eq_getElem (by omega)⟩
    have hb1 := hb (i + 1)
    rw [filter_take_succ hf, hG] at hb1
    refine ⟨f.k, f.fl, f.st, f.s, loadAgg (a := f) frAgg frCel_len hf rfl (by rw [Int.toNat_natCast]; omega), ?_⟩
    refine ifK_dec (fun hw => ?_) (fun hw => ?_)
    · have hg := (wrE_good f).1 hw
      have hs := wrB_size hg
      rw [if_pos hg, List.nil_append, List.flatMap_cons, List.flatMap_nil, List.append_nil, frEnc_len] at hb1
      refine ifK_dec (fun h0 => by omega) (fun _ => ?_)
      refine ifK_dec (fun _ => ?_) (fun h' => absurd ⟨by omega, by omega⟩ h')
      refine ifK_dec (fun _ => ?_) (fun h' => absurd ⟨by omega, h⟩ h')
      refine ⟨f.k, f.fl, f.st, f.s, loadAgg (a := f) frAgg frCel_len hf rfl (by rw [Int.toNat_natCast]; omega), ?_⟩
      refine ⟨F.length - (i + 1), by omega, i + 1, [f], ?_, ?_, by omega, ?_, rfl⟩
      · rw [i_succ (by omega), hs]
        simp [frEnc_len]
      · rw [rows_ren _ (frCel_ren _), bytesOf_eq, bcells_ren, wrB_good hg]
        simp only [List.flatMap_cons, List.flatMap_nil, List.append_nil]
        rfl
      · rw [filter_take_succ hf, hG, if_pos hg]; rfl
    · refine ⟨F.length - (i + 1), by omega, i + 1, ?_, ?_, by omega, ?_, rfl⟩
      · rw [i_succ (by omega)]
      · rw [rows_ren _ (frCel_ren _)]; rfl
      · rw [filter_take_succ hf, hG, if_neg (fun hg => hw ((wrE_good f).2 hg))]; rfl
  · have hin : i = F.length := by omega
    subst hin
    rw [List.take_length] at hG
    have hc : (if (0 : Int) < if (0 : Int) > cut then (0 : Int) else cut then (0 : Int) else if (0 : Int) > cut then (0 : Int) else cut) = (0 : Int) := by
      split
      · rfl
      · split at * <;> omega
    rw [hc]
    refine ifK_dec (fun _ => ?_) (fun h => absurd ⟨rfl, rfl⟩ h)
    refine ifK_dec (fun _ => ?_) (fun h => absurd ⟨rfl, rfl⟩ h)
    refine ⟨0, trivial, ⟨⟨[]⟩⟩, ⟨⟨[]⟩⟩, rfl, ?_, rfl, rfl⟩
    rw [rows_ren _ (frCel_ren _)]; rfl
theorem clamp (nb cut : Int) (h : 0 ≤ nb) : ∃ c : Nat, (if nb < if (0 : Int) > cut then (0 : Int) else cut then nb else if (0 : Int) > cut then (0 : Int) else cut) = (c : Int) ∧ (c : Int) ≤ nb := by
  refine ⟨(if nb < if (0 : Int) > cut then (0 : Int) else cut then nb else if (0 : Int) > cut then (0 : Int) else cut).toNat, ?_, ?_⟩ <;> (split <;> (try split at *) <;> omega)
theorem rseg1 {F : List Fr} {cut : Int} (hn : F.length ≤ 1048576) (hb : ∀ i, (((F.take i).filter frGood).flatMap frEnc).length ≤ 20000000) (m : Nat) (vs : List Value) (H : AHeap) (hI : rwI F cut 1 [] m vs H) :
    Hd (rwSeg F cut rwP1 [] m [0,1,5,6,7] vs H) := by
  obtain ⟨i, G, rfl, rfl, hi, hG, rfl⟩ := hI
  have hGl : G.length ≤ F.length := by
    rw [← hG]; exact Nat.le_trans (List.length_filter_le _ _) (by rw [List.length_take]; omega)
  have hbi := hb i
  rw [hG] at hbi
  constructor
  unfold rwSeg
  rw [rw1]
  refine ifK_dec (fun h => ?_) (fun h => ?_)
  · refine ifK_dec (fun _ => ?_) (fun h' => absurd ⟨by omega, h⟩ h')
    obtain ⟨f, hf⟩ : ∃ f, F[i]? = some f := ⟨_, List.getElem?_eq_getElem (by omega)⟩
    have hb1 := hb (i + 1)
    rw [filter_take_succ hf, hG] at hb1
    refine ⟨f.k, f.fl, f.st, f.s, loadAgg (a := f) frAgg frCel_len hf rfl (by rw [Int.toNat_natCast]; omega), ?_⟩
    refine ifK_dec (fun hw => ?_) (fun hw => ?_)
    · have hg := (wrE_good f).1 hw
      have hs := wrB_size hg
      rw [if_pos hg, List.flatMap_append, List.length_append, List.flatMap_cons, List.flatMap_nil, List.append_nil, frEnc_len] at hb1
      refine ifK_dec (fun h0 => by omega) (fun _ => ?_)
      refine ifK_t (by simp) ?_
      refine ifK_dec (fun _ => ?_) (fun h' => absurd ⟨by rw [List.length_map]; omega, by omega, by omega, by omega⟩ h')
      refine ifK_dec (fun _ => ?_) (fun h' => absurd ⟨by omega, h⟩ h')
      refine ⟨f.k, f.fl, f.st, f.s, loadAgg (a := f) frAgg frCel_len hf rfl (by rw [Int.toNat_natCast]; omega), ?_⟩
      refine ifK_t (by simp) ?_
      refine ifK_dec (fun _ => ?_) (fun h' => absurd ⟨by rw [rows_len frCel_len]; omega, by omega, by omega, by omega⟩ h')
      refine ⟨F.length - (i + 1), by omega, i + 1, G ++ [f], ?_, ?_, by omega, ?_, rfl⟩
      · rw [i_succ (by omega), hs]
        simp [frEnc_len]
      · have e1 : List.take ((G.flatMap frEnc).length * 1) (List.drop 0 (bcells (G.flatMap frEnc))) = bcells (G.flatMap frEnc) := by
          rw [List.drop_zero, List.take_of_length_le (by rw [List.length_map]; omega)]
        have e2 : List.take (G.length * 4) (List.drop 0 (fRow G)) = fRow G := by
          rw [List.drop_zero, List.take_of_length_le (by rw [rows_len frCel_len]; exact Nat.le_refl _)]
        have e3 : bcells (G.flatMap frEnc) ++ bcells (frEnc f) = bcells ((G ++ [f]).flatMap frEnc) := by
          rw [List.flatMap_append, List.flatMap_cons, List.flatMap_nil, List.append_nil]; unfold bcells; rw [List.map_append]
        have e4 : fRow G ++ [vi f.k, vi f.fl, vi f.st, .string f.s] = fRow (G ++ [f]) := by
          show _ = (G ++ [f]).flatMap frCel
          rw [List.flatMap_append, List.flatMap_cons, List.flatMap_nil, List.append_nil]; rfl
        rw [rows_ren _ (frCel_ren _), bytesOf_eq, wrB_good hg, e1, e2, e3, e4, bcells_ren, rows_ren _ (frCel_ren _)]
        rfl
      · rw [filter_take_succ hf, hG, if_pos hg]
    · refine ⟨F.length - (i + 1), by omega, i + 1, G, ?_, ?_, by omega, ?_, rfl⟩
      · rw [i_succ (by omega)]
      · rw [rows_ren _ (frCel_ren _), rows_ren _ (frCel_ren _), bcells_ren]; rfl
      · rw [filter_take_succ hf, hG, if_neg (fun hg => hw ((wrE_good f).2 hg)), List.append_nil]
  · have hin : i = F.length := by omega
    subst hin
    rw [List.take_length] at hG
    obtain ⟨c, hc, hcn⟩ := clamp ((G.flatMap frEnc).length : Nat) cut (by omega)
    rw [hc]
    have z0 : Int.toNat 0 = 0 := rfl
    rw [z0, Int.toNat_natCast, Int.toNat_natCast]
    have e0 : List.take (c - 0) (List.drop (0 + 0 * 1) (bcells (G.flatMap frEnc))) = bcells ((G.flatMap frEnc).take c) := by
      simp [bcells]
    have e1 : List.take ((G.flatMap frEnc).length - c) (List.drop (0 + c * 1) (bcells (G.flatMap frEnc))) = bcells ((G.flatMap frEnc).drop c) := by
      rw [show 0 + c * 1 = c by omega, List.take_of_length_le (by simp [bcells])]
      unfold bcells
      rw [List.map_drop]
    have hl : (bcells (G.flatMap frEnc)).length = (G.flatMap frEnc).length := List.length_map _
    refine ifK_dec (fun _ => ?_) (fun h' => absurd ⟨by omega, by omega, by omega⟩ h')
    rw [e0, e1, u8s_map, u8s_map, hl]
    refine ifK_t (by rw [Bool.and_true]; exact decide_eq_true (by omega)) ?_
    refine ifK_dec (fun _ => ?_) (fun h' => absurd ⟨by omega, by omega, by omega⟩ h')
    refine ifK_t (by rw [Bool.and_true]; exact decide_eq_true (by omega)) ?_
    rw [bytesFrom_map, bytesFrom_map]
    refine ⟨_, trivial, ⟨⟨(G.flatMap frEnc).take c⟩⟩, ⟨⟨(G.flatMap frEnc).drop c⟩⟩, 0, ?_, ?_, by omega, ?_, rfl⟩
    · rw [hG]; rfl
    · rw [rows_ren _ (frCel_ren _), rows_ren _ (frCel_ren _), hG]; rfl
    · rw [hG]
      show (G.flatMap frEnc).take c ++ (G.flatMap frEnc).drop c = _
      rw [List.take_append_drop, List.drop_zero]
theorem rseg2 {F : List Fr} {cut : Int} (m : Nat) (vs : List Value) (H : AHeap) (hI : rwI F cut 2 [] m vs H) : Hd (rwSeg F cut rwP2 [] m [6,11,12,13] vs H) := by
  obtain ⟨s, t, rfl, rfl, hst, rfl⟩ := hI
  obtain ⟨h1, h2⟩ := List.append_eq_nil_iff.1 hst
  have e1 : s = ⟨⟨[]⟩⟩ := ba_ext h1
  have e2 : t = ⟨⟨[]⟩⟩ := ba_ext h2
  subst e1 e2
  constructor
  unfold rwSeg
  rw [rw2]
  refine ifK_dec (fun h => by omega) (fun _ => ?_)
  exact ifK_t rfl (ifK_t rfl rfl)
theorem sz0 {t : ByteArray} : t.size = 0 ↔ seq t (⟨⟨[]⟩⟩ : ByteArray) = true := by
  rw [seq_iff', ← ba_len]
  show _ ↔ t.data.toList = []
  exact List.length_eq_zero_iff
theorem rseg3 {F : List Fr} {cut : Int} (hn : F.length ≤ 1048576) (hb : ∀ i, (((F.take i).filter frGood).flatMap frEnc).length ≤ 20000000) (m : Nat) (vs : List Value) (H : AHeap) (hI : rwI F cut 3 [] m vs H) :
    Hd (rwSeg F cut rwP2 [] m [6,11,12,13] vs H) := by
  obtain ⟨s, t, i, rfl, rfl, hi, hst, rfl⟩ := hI
  have hbt := hb F.length
  rw [List.take_length] at hbt
  have hall : ∀ f ∈ F.filter frGood, frGood f = true := fun f hf => (List.mem_filter.1 hf).2
  have hGl : (F.filter frGood).length ≤ F.length := List.length_filter_le _ _
  have hsum : s.size + t.size ≤ 20000000 := by
    have h1 := congrArg List.length hst
    rw [List.length_append, ba_len, ba_len] at h1
    have h2 : (((F.filter frGood).drop i).flatMap frEnc).length ≤ ((F.filter frGood).flatMap frEnc).length := by
      have := congrArg List.length (congrArg (List.flatMap frEnc) (List.take_append_drop i (F.filter frGood)))
      rw [List.flatMap_append, List.length_append] at this
      omega
    omega
  have hren : ∀ d, List.map (renV d) (fRow F) = fRow F := fun d => rows_ren _ (frCel_ren _) _
  have hren2 : ∀ d, List.map (renV d) (fRow (F.filter frGood)) = fRow (F.filter frGood) := fun d => rows_ren _ (frCel_ren _) _
  generalize hGe : F.filter frGood = G at *
  constructor
  unfold rwSeg
  rw [rw3]
  refine ifK_dec (fun h => ?_) (fun h => ?_)
  · obtain ⟨f, hf⟩ : ∃ f, G[i]? = some f := ⟨_, List.getElem?_eq_getElem (by omega)⟩
    have hgf := hall f (List.mem_of_getElem? hf)
    have hd : (G.drop i).flatMap frEnc = frEnc f ++ (G.drop (i + 1)).flatMap frEnc := by
      have hlt : i < G.length := by omega
      rw [List.drop_eq_getElem_cons hlt, List.flatMap_cons]
      congr 2
      have := List.getElem?_eq_getElem hlt
      rw [hf] at this
      injection this with this
      exact this.symm
    rw [hd] at hst
    have hlen := congrArg List.length hst
    rw [List.length_append, List.length_append, ba_len, ba_len, frEnc_len] at hlen
    by_cases hw : 9 + f.s.size ≤ s.size
    · -- the first frame is there
      have hsl : s.data.toList = frEnc f ++ s.data.toList.drop (9 + f.s.size) := by
        have h1 : s.data.toList.take (9 + f.s.size) = frEnc f := by
          have := congrArg (List.take (9 + f.s.size)) hst
          rw [List.take_append_of_le_length (by rw [ba_len]; omega), List.take_left' (frEnc_len f)] at this
          exact this
        rw [← h1, List.take_append_drop]
      obtain ⟨n1, n2, n3, n4, n5, n6, n7⟩ := next_whole hgf hsl
      rw [n1, n2, n3, n4, n5, n6]
      refine ifK_dec (fun h => by cases h) (fun _ => ?_)
      refine ifK_f (by simp) ?_
      refine ifK_dec (fun _ => ?_) (fun h' => absurd ⟨by omega, h⟩ h')
      refine ⟨f.k, f.fl, f.st, f.s, loadAgg (a := f) frAgg frCel_len hf rfl (by rw [Int.toNat_natCast]; omega), ?_⟩
      refine ifK_f (by simp [seq_self]) ?_
      refine ifK_dec (fun _ => ?_) (fun h' => absurd ⟨by omega, by omega, by omega⟩ h')
      have e9 : Int.toNat (9 + (f.s.size : Int)) = 9 + f.s.size := by omega
      rw [e9, Int.toNat_natCast, i_succ (by omega), hren, hren2]
      refine ⟨2 * (G.length - (i + 1)) + (if t.size = 0 then 0 else 1), by omega, s.extract (9 + f.s.size) s.size, t, i + 1, ?_, ?_, ?_, ?_, ?_⟩
      · rw [hGe]
      · rw [hGe]; rfl
      · rw [hGe]; omega
      · rw [hGe, toList_ext, List.take_of_length_le (by rw [ba_len]; exact Nat.le_refl _)]
        have h2 := hst
        rw [hsl, List.append_assoc] at h2
        exact List.append_cancel_left h2
      · rw [hGe]
    · have hE := next_part hgf hst (by omega)
      rw [hE]
      have ht : ¬ t.size = 0 := by omega
      have hts : seq t (⟨⟨[]⟩⟩ : ByteArray) = false := by
        rw [sz0] at ht; simpa using ht
      refine ifK_t (by simp) ?_
      rw [hts]
      refine ifK_dec (fun _ => ?_) (fun h' => absurd (by omega) h')
      rw [hren, hren2]
      refine ⟨2 * (G.length - i), by rw [if_neg ht]; omega, s ++ t, ⟨⟨[]⟩⟩, i, ?_, ?_, ?_, ?_, ?_⟩
      · rw [hGe]
      · rw [hGe]; rfl
      · rw [hGe]; exact hi
      · rw [hGe, ba_list2, hd]
        show (s.data.toList ++ t.data.toList) ++ [] = _
        rw [List.append_nil]
        exact hst
      · rw [hGe]; rfl
  · have hin : i = G.length := by omega
    subst hin
    rw [List.drop_length] at hst
    obtain ⟨h1, h2⟩ := List.append_eq_nil_iff.1 hst
    have e1 : s = ⟨⟨[]⟩⟩ := ba_ext h1
    have e2 : t = ⟨⟨[]⟩⟩ := ba_ext h2
    subst e1 e2
    exact ifK_t rfl (ifK_t rfl rfl)
end Go.Ev
