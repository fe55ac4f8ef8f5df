/-
  No cell of these rows narrows 'for every input' (looked for: loops, veiled, ifaces, maps, wideKeys, modest, calm, conditions, laid).
  DERIVED. THE GIVEN ROWS OF THIS SEAT. 5 by the template 'for every input the law returns true; each argument reads behind the call as it read before'; 0 by the template 'total and deterministic' (their statements: YtjmcnnekgccjdaaTotals.lean).
  GIVEN WITH THE SEED: the statements are not yours to turn. If you find one false, say at which input.
  Laid BY PROGRAM, IN A SANDBOX (cutbox-rows.mjs): the forced cells as the released guide's own fill.sh prints them over the translation ed922742235b8082… (all of the seat's roots in one cut). By AI agents, Wed Nov 11 2026. No macro, syntax, notation, axiom, sorry.
-/
import Derived.Test.YtjmcnnekgccjdaaChecked
import GoSem.Claim
import GoSem.ClaimJoined
import GoSem.ClaimMapViews
import Derived.JoinedTies
import Derived.KernelRfl
namespace Go.Proofs.Ytjmcnnekgccjdaa
/- THE CELL 'sum', in the pinned program and in every row, IS THE sha256 OF THE DUMP (.gsa) THAT YtjmcnnekgccjdaaProg.lean LOADS. Nothing in Lean hashes anything: it is a label: what it is worth is what the hold of that sum in a sandbox is worth. -/
noncomputable def Try.pinned : Pinned := { name := "ytjmcnnekgccjdaa", sum := "ed922742235b8082a3cd1bc6d4a5ac2fa905c2edb30ce10602f8a700b071ba37", checked := Try.checked }
namespace Rows
def none {H : Type} : Left H := { results := [], args := [] }

/-- 'ostlerlaw08.StreamDrops': WHATEVER THE INPUT: true; the input reads as it did. -/
def streamDropsSpec : ChangeSpec := { name := "streamDrops", fn := fun _ => fun
  | [d1, d2] => { results := [.lit (.bool true)], args := [d1, d2] }
  | _ => none }
def streamDropsRow : OpenClaim := { program := "ytjmcnnekgccjdaa", sum := "ed922742235b8082a3cd1bc6d4a5ac2fa905c2edb30ce10602f8a700b071ba37", func := "ostler/ostlerlaw08.StreamDrops", spec := "streamDrops", apart := false }
def StreamDropsSaid : Prop := streamDropsRow.holds Try.pinned (OpenSpec.ofChange streamDropsSpec)

/-- ITS FALSE NEIGHBOUR: 'it returns false'. Refute it at one input. -/
def streamDropsWrong : ChangeSpec := { name := "streamDrops", fn := fun _ => fun
  | [d1, d2] => { results := [.lit (.bool false)], args := [d1, d2] }
  | _ => none }
def StreamDropsWrongFalsely : Prop := streamDropsRow.holds Try.pinned (OpenSpec.ofChange streamDropsWrong)

/-- 'ostlerlaw08.StreamOnward': WHATEVER THE INPUT: true; the input reads as it did. -/
def streamOnwardSpec : ChangeSpec := { name := "streamOnward", fn := fun _ => fun
  | [d1, d2, d3] => { results := [.lit (.bool true)], args := [d1, d2, d3] }
  | _ => none }
def streamOnwardRow : OpenClaim := { program := "ytjmcnnekgccjdaa", sum := "ed922742235b8082a3cd1bc6d4a5ac2fa905c2edb30ce10602f8a700b071ba37", func := "ostler/ostlerlaw08.StreamOnward", spec := "streamOnward", apart := false }
def StreamOnwardSaid : Prop := streamOnwardRow.holds Try.pinned (OpenSpec.ofChange streamOnwardSpec)

/-- ITS FALSE NEIGHBOUR: 'it returns false'. Refute it at one input. -/
def streamOnwardWrong : ChangeSpec := { name := "streamOnward", fn := fun _ => fun
  | [d1, d2, d3] => { results := [.lit (.bool false)], args := [d1, d2, d3] }
  | _ => none }
def StreamOnwardWrongFalsely : Prop := streamOnwardRow.holds Try.pinned (OpenSpec.ofChange streamOnwardWrong)

/-- 'ostlerlaw08.StreamWhole': WHATEVER THE INPUT: true; the input reads as it did. -/
def streamWholeSpec : ChangeSpec := { name := "streamWhole", fn := fun _ => fun
  | [d1, d2] => { results := [.lit (.bool true)], args := [d1, d2] }
  | _ => none }
def streamWholeRow : OpenClaim := { program := "ytjmcnnekgccjdaa", sum := "ed922742235b8082a3cd1bc6d4a5ac2fa905c2edb30ce10602f8a700b071ba37", func := "ostler/ostlerlaw08.StreamWhole", spec := "streamWhole", unfollowed := true, recurses := true, apart := false }
def StreamWholeSaid : Prop := streamWholeRow.holds Try.pinned (OpenSpec.ofChange streamWholeSpec)

/-- ITS FALSE NEIGHBOUR: 'it returns false'. Refute it at one input. -/
def streamWholeWrong : ChangeSpec := { name := "streamWhole", fn := fun _ => fun
  | [d1, d2] => { results := [.lit (.bool false)], args := [d1, d2] }
  | _ => none }
def StreamWholeWrongFalsely : Prop := streamWholeRow.holds Try.pinned (OpenSpec.ofChange streamWholeWrong)

/-- 'ostlerlaw08.StreamBounds': WHATEVER THE INPUT: true; the input reads as it did. -/
def streamBoundsSpec : ChangeSpec := { name := "streamBounds", fn := fun _ => fun
  | [d1, d2] => { results := [.lit (.bool true)], args := [d1, d2] }
  | _ => none }
def streamBoundsRow : OpenClaim := { program := "ytjmcnnekgccjdaa", sum := "ed922742235b8082a3cd1bc6d4a5ac2fa905c2edb30ce10602f8a700b071ba37", func := "ostler/ostlerlaw08.StreamBounds", spec := "streamBounds", unfollowed := true, recurses := true, apart := false }
def StreamBoundsSaid : Prop := streamBoundsRow.holds Try.pinned (OpenSpec.ofChange streamBoundsSpec)

/-- ITS FALSE NEIGHBOUR: 'it returns false'. Refute it at one input. -/
def streamBoundsWrong : ChangeSpec := { name := "streamBounds", fn := fun _ => fun
  | [d1, d2] => { results := [.lit (.bool false)], args := [d1, d2] }
  | _ => none }
def StreamBoundsWrongFalsely : Prop := streamBoundsRow.holds Try.pinned (OpenSpec.ofChange streamBoundsWrong)

/-- 'ostlerlaw08.StreamNil': WHATEVER THE INPUT: true; the input reads as it did. -/
def streamNilSpec : ChangeSpec := { name := "streamNil", fn := fun _ => fun
  | [d1, d2] => { results := [.lit (.bool true)], args := [d1, d2] }
  | _ => none }
def streamNilRow : OpenClaim := { program := "ytjmcnnekgccjdaa", sum := "ed922742235b8082a3cd1bc6d4a5ac2fa905c2edb30ce10602f8a700b071ba37", func := "ostler/ostlerlaw08.StreamNil", spec := "streamNil", unfollowed := true, recurses := true, apart := false }
def StreamNilSaid : Prop := streamNilRow.holds Try.pinned (OpenSpec.ofChange streamNilSpec)

/-- ITS FALSE NEIGHBOUR: 'it returns false'. Refute it at one input. -/
def streamNilWrong : ChangeSpec := { name := "streamNil", fn := fun _ => fun
  | [d1, d2] => { results := [.lit (.bool false)], args := [d1, d2] }
  | _ => none }
def StreamNilWrongFalsely : Prop := streamNilRow.holds Try.pinned (OpenSpec.ofChange streamNilWrong)

/- THE SECOND FORM. 'bulk': how many values and letters a reading holds, each counted each time it is reached (what is shared counts as often as it is met; a slice's spare places count too). A statement '..UptoSaid' is the law's where the arguments, and the package variables that the reading takes, are together of bulk at most 1048576: NARROWER than '..Said'. Prove '..Said' where nothing that the law and all that it calls make is longer than what came in: it says more and counts as full. Else prove '..UptoSaid'. A law counts once. -/
mutual
def uptoBulk {H : Type} : DataW H → Nat
  | .lit (.string bytes) => bytes.length + 1
  | .lit _ => 1
  | .nil => 1
  | .ptr d => uptoBulk d + 1
  | .slice elems spare => uptoBulkAll elems + uptoBulkAll spare + 1
  | .agg parts => uptoBulkAll parts + 1
  | .iface _ d => uptoBulk d + 1
  | .map entries => uptoBulkEntries entries + 1
  | .held _ => 1
def uptoBulkAll {H : Type} : List (DataW H) → Nat
  | [] => 0
  | d :: r => uptoBulk d + uptoBulkAll r
def uptoBulkEntries {H : Type} : List (Lit × DataW H) → Nat
  | [] => 0
  | x :: r => uptoBulkEntry x + uptoBulkEntries r
def uptoBulkEntry {H : Type} : Lit × DataW H → Nat
  | (.string bytes, d) => bytes.length + uptoBulk d + 1
  | (_, d) => uptoBulk d + 1
 end
def uptoSmall : (H : Type) → List (DataW H) → Bool := fun _ ds => decide (uptoBulkAll ds ≤ 1048576)
def OpenSpec.upto (s : _root_.Go.ChangeSpec) : _root_.Go.OpenSpec := { _root_.Go.OpenSpec.ofChange s with cond := some uptoSmall }

/-- 'ostlerlaw08.StreamDrops', WHERE WHAT IT READS IS OF BULK AT MOST 1048576: true; the input reads as it did. -/
def streamDropsUptoRow : OpenClaim := { program := "ytjmcnnekgccjdaa", sum := "ed922742235b8082a3cd1bc6d4a5ac2fa905c2edb30ce10602f8a700b071ba37", func := "ostler/ostlerlaw08.StreamDrops", spec := "streamDrops", apart := false, narrowed := true }
def StreamDropsUptoSaid : Prop := streamDropsUptoRow.holds Try.pinned (OpenSpec.upto streamDropsSpec)

/-- 'ostlerlaw08.StreamOnward', WHERE WHAT IT READS IS OF BULK AT MOST 1048576: true; the input reads as it did. -/
def streamOnwardUptoRow : OpenClaim := { program := "ytjmcnnekgccjdaa", sum := "ed922742235b8082a3cd1bc6d4a5ac2fa905c2edb30ce10602f8a700b071ba37", func := "ostler/ostlerlaw08.StreamOnward", spec := "streamOnward", apart := false, narrowed := true }
def StreamOnwardUptoSaid : Prop := streamOnwardUptoRow.holds Try.pinned (OpenSpec.upto streamOnwardSpec)

/-- 'ostlerlaw08.StreamWhole', WHERE WHAT IT READS IS OF BULK AT MOST 1048576: true; the input reads as it did. -/
def streamWholeUptoRow : OpenClaim := { program := "ytjmcnnekgccjdaa", sum := "ed922742235b8082a3cd1bc6d4a5ac2fa905c2edb30ce10602f8a700b071ba37", func := "ostler/ostlerlaw08.StreamWhole", spec := "streamWhole", unfollowed := true, recurses := true, apart := false, narrowed := true }
def StreamWholeUptoSaid : Prop := streamWholeUptoRow.holds Try.pinned (OpenSpec.upto streamWholeSpec)

/-- 'ostlerlaw08.StreamBounds', WHERE WHAT IT READS IS OF BULK AT MOST 1048576: true; the input reads as it did. -/
def streamBoundsUptoRow : OpenClaim := { program := "ytjmcnnekgccjdaa", sum := "ed922742235b8082a3cd1bc6d4a5ac2fa905c2edb30ce10602f8a700b071ba37", func := "ostler/ostlerlaw08.StreamBounds", spec := "streamBounds", unfollowed := true, recurses := true, apart := false, narrowed := true }
def StreamBoundsUptoSaid : Prop := streamBoundsUptoRow.holds Try.pinned (OpenSpec.upto streamBoundsSpec)

/-- 'ostlerlaw08.StreamNil', WHERE WHAT IT READS IS OF BULK AT MOST 1048576: true; the input reads as it did. -/
def streamNilUptoRow : OpenClaim := { program := "ytjmcnnekgccjdaa", sum := "ed922742235b8082a3cd1bc6d4a5ac2fa905c2edb30ce10602f8a700b071ba37", func := "ostler/ostlerlaw08.StreamNil", spec := "streamNil", unfollowed := true, recurses := true, apart := false, narrowed := true }
def StreamNilUptoSaid : Prop := streamNilUptoRow.holds Try.pinned (OpenSpec.upto streamNilSpec)

end Rows
end Go.Proofs.Ytjmcnnekgccjdaa
