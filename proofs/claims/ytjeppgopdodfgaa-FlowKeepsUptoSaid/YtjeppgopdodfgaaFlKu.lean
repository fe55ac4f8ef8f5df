/- The law FlowKeeps: its whole way; the script is no longer than the second form's bound. (under way) -/
import Derived.Test.YtjeppgopdodfgaaFlKt
namespace Go.Ev
open Go Go.Proofs Go.RowKit
set_option linter.unusedVariables false
set_option maxRecDepth 100000
theorem ktri {w0 : World} {sz : Int} {n : Nat} {L : List Value} (hn : (n : Int) ≤ 1048576) (hL : ScrOk n L) :
    Tri flA.P w0 (bodyOf Try.prog 5) (fun tm H => tm = [vi sz, sl n] ++ List.replicate 112 undef ∧ H = AHeap.empty.push (.cells L ⟨2, none, false⟩ .ro [])) (QEnd flA [.tmp 4] (.bool true)) := by
  refine Tri.loopfn laT laF laS laM kHint (f := 5) (k := 20) (n := 20) (rs := [.tmp 4]) (N := 114) (idx := kIdx) (I := KI sz n L) (O := KO sz n L) (pre := kC [true,true,true,true,true,true,false,false]) (body := kC [true,true,true,true,true,true,false,true,false,false])
    (post := kC [true,true,true,true,true,true,true]) (m := 6) (by kernel_rfl) (by kernel_rfl) (by kernel_rfl) ?_ (fun m => kround hn hL m) ?_
  · rintro tm H ⟨rfl, rfl⟩
    rw [kB]
    refine ifK_dec (fun h => ⟨.inr rfl, rfl⟩) (fun h1 => ?_)
    refine ifK_dec (fun h => ⟨.inr rfl, rfl⟩) (fun h2 => ?_)
    exact ⟨rfl, .inl ⟨_, 0, 0, 0, 0, sz, sz, 0, 0, rfl, rfl, by unfold KeepOk; omega, by omega, rfl⟩⟩
  · refine Tri.endK laT laF laS laM kHint (f := 5) (k := 20) (n := 20) (by kernel_rfl) ?_
    intro vs H h
    have h' : ∃ m, KI sz n L m vs H := h
    clear h
    obtain ⟨m, got, used, gr, i, a, b, c, d, hv, hH, hk, hi, hm⟩ := h'
    rw [hv, hH]
    clear hv hH
    unfold KVs
    rw [kE]
    obtain ⟨e1, e2, e3, e4, e5, e6, e7, e8, e9, e10, e11, e12, e13⟩ := hk
    repeat' first
      | exact ⟨.inr rfl, rfl⟩
      | refine ifK_dec (fun _ => ?_) (fun _ => ?_)
    all_goals (exfalso; simp only [wr_i64] at *; omega)
theorem kwalkNil (sz : Int) : Evals flA kHint 30 5 [vi sz, .slice none 0 0] := by
  constructor
  rw [kN]
  repeat' first
    | exact rfl
    | refine ifK_dec (fun _ => ?_) (fun _ => ?_)
  all_goals (exfalso; simp only [wr_i64] at *; omega)
end Go.Ev
