/-
  No cell of these rows narrows 'for every input' (looked for: loops, veiled, ifaces, maps, wideKeys, modest, calm, conditions, laid).
  DERIVED. THE GIVEN ROWS OF THIS SEAT. 3 by the template 'for every input the law returns true; each argument reads behind the call as it read before'; 0 by the template 'total and deterministic' (their statements: YtpckfllalpiliaaTotals.lean).
  GIVEN WITH THE SEED: the statements are not yours to turn. If you find one false, say at which input.
  Laid BY PROGRAM, IN A SANDBOX (cutbox-rows.mjs): the forced cells as the released guide's own fill.sh prints them over the translation 2be2fb2e62548e3b… (all of the seat's roots in one cut). By AI agents, Wed Nov 11 2026. No macro, syntax, notation, axiom, sorry.
-/
import Derived.Test.YtpckfllalpiliaaChecked
import GoSem.Claim
import GoSem.ClaimJoined
import GoSem.ClaimMapViews
import Derived.JoinedTies
import Derived.KernelRfl
namespace Go.Proofs.Ytpckfllalpiliaa
/- THE CELL 'sum', in the pinned program and in every row, IS THE sha256 OF THE DUMP (.gsa) THAT YtpckfllalpiliaaProg.lean LOADS. Nothing in Lean hashes anything: it is a label: what it is worth is what the hold of that sum in a sandbox is worth. -/
noncomputable def Try.pinned : Pinned := { name := "ytpckfllalpiliaa", sum := "2be2fb2e62548e3bdcc98ffda59da4369229a3c362f03e8de59d40caf7a70e99", checked := Try.checked }
namespace Rows
def none {H : Type} : Left H := { results := [], args := [] }

/-- 'galloonlaw09.RemnantBounds': WHATEVER THE INPUT: true; the input reads as it did. -/
def remnantBoundsSpec : ChangeSpec := { name := "remnantBounds", fn := fun _ => fun
  | [d1, d2, d3] => { results := [.lit (.bool true)], args := [d1, d2, d3] }
  | _ => none }
def remnantBoundsRow : OpenClaim := { program := "ytpckfllalpiliaa", sum := "2be2fb2e62548e3bdcc98ffda59da4369229a3c362f03e8de59d40caf7a70e99", func := "galloon/galloonlaw09.RemnantBounds", spec := "remnantBounds", unfollowed := true, recurses := true, apart := false }
def RemnantBoundsSaid : Prop := remnantBoundsRow.holds Try.pinned (OpenSpec.ofChange remnantBoundsSpec)

/-- ITS FALSE NEIGHBOUR: 'it returns false'. Refute it at one input. -/
def remnantBoundsWrong : ChangeSpec := { name := "remnantBounds", fn := fun _ => fun
  | [d1, d2, d3] => { results := [.lit (.bool false)], args := [d1, d2, d3] }
  | _ => none }
def RemnantBoundsWrongFalsely : Prop := remnantBoundsRow.holds Try.pinned (OpenSpec.ofChange remnantBoundsWrong)

/-- 'galloonlaw09.RemnantMore': WHATEVER THE INPUT: true; the input reads as it did. -/
def remnantMoreSpec : ChangeSpec := { name := "remnantMore", fn := fun _ => fun
  | [d1, d2, d3] => { results := [.lit (.bool true)], args := [d1, d2, d3] }
  | _ => none }
def remnantMoreRow : OpenClaim := { program := "ytpckfllalpiliaa", sum := "2be2fb2e62548e3bdcc98ffda59da4369229a3c362f03e8de59d40caf7a70e99", func := "galloon/galloonlaw09.RemnantMore", spec := "remnantMore", unfollowed := true, recurses := true, apart := false }
def RemnantMoreSaid : Prop := remnantMoreRow.holds Try.pinned (OpenSpec.ofChange remnantMoreSpec)

/-- ITS FALSE NEIGHBOUR: 'it returns false'. Refute it at one input. -/
def remnantMoreWrong : ChangeSpec := { name := "remnantMore", fn := fun _ => fun
  | [d1, d2, d3] => { results := [.lit (.bool false)], args := [d1, d2, d3] }
  | _ => none }
def RemnantMoreWrongFalsely : Prop := remnantMoreRow.holds Try.pinned (OpenSpec.ofChange remnantMoreWrong)

/-- 'galloonlaw09.RemnantBests': WHATEVER THE INPUT: true; the input reads as it did. -/
def remnantBestsSpec : ChangeSpec := { name := "remnantBests", fn := fun _ => fun
  | [d1, d2] => { results := [.lit (.bool true)], args := [d1, d2] }
  | _ => none }
def remnantBestsRow : OpenClaim := { program := "ytpckfllalpiliaa", sum := "2be2fb2e62548e3bdcc98ffda59da4369229a3c362f03e8de59d40caf7a70e99", func := "galloon/galloonlaw09.RemnantBests", spec := "remnantBests", unfollowed := true, recurses := true, apart := false }
def RemnantBestsSaid : Prop := remnantBestsRow.holds Try.pinned (OpenSpec.ofChange remnantBestsSpec)

/-- ITS FALSE NEIGHBOUR: 'it returns false'. Refute it at one input. -/
def remnantBestsWrong : ChangeSpec := { name := "remnantBests", fn := fun _ => fun
  | [d1, d2] => { results := [.lit (.bool false)], args := [d1, d2] }
  | _ => none }
def RemnantBestsWrongFalsely : Prop := remnantBestsRow.holds Try.pinned (OpenSpec.ofChange remnantBestsWrong)

/- THE SECOND FORM. 'bulk': how many values and letters a reading holds, each counted each time it is reached (what is shared counts as often as it is met; a slice's spare places count too). A statement '..UptoSaid' is the law's where the arguments, and the package variables that the reading takes, are together of bulk at most 1048576: NARROWER than '..Said'. Prove '..Said' where nothing that the law and all that it calls make is longer than what came in: it says more and counts as full. Else prove '..UptoSaid'. A law counts once. -/
mutual
def uptoBulk {H : Type} : DataW H → Nat
  | .lit (.string bytes) => bytes.length + 1
  | .lit _ => 1
  | .nil => 1
  | .ptr d => uptoBulk d + 1
  | .slice elems spare => uptoBulkAll elems + uptoBulkAll spare + 1
  | .agg parts => uptoBulkAll parts + 1
  | .iface _ d => uptoBulk d + 1
  | .map entries => uptoBulkEntries entries + 1
  | .held _ => 1
def uptoBulkAll {H : Type} : List (DataW H) → Nat
  | [] => 0
  | d :: r => uptoBulk d + uptoBulkAll r
def uptoBulkEntries {H : Type} : List (Lit × DataW H) → Nat
  | [] => 0
  | x :: r => uptoBulkEntry x + uptoBulkEntries r
def uptoBulkEntry {H : Type} : Lit × DataW H → Nat
  | (.string bytes, d) => bytes.length + uptoBulk d + 1
  | (_, d) => uptoBulk d + 1
 end
def uptoSmall : (H : Type) → List (DataW H) → Bool := fun _ ds => decide (uptoBulkAll ds ≤ 1048576)
def OpenSpec.upto (s : _root_.Go.ChangeSpec) : _root_.Go.OpenSpec := { _root_.Go.OpenSpec.ofChange s with cond := some uptoSmall }

/-- 'galloonlaw09.RemnantBounds', WHERE WHAT IT READS IS OF BULK AT MOST 1048576: true; the input reads as it did. -/
def remnantBoundsUptoRow : OpenClaim := { program := "ytpckfllalpiliaa", sum := "2be2fb2e62548e3bdcc98ffda59da4369229a3c362f03e8de59d40caf7a70e99", func := "galloon/galloonlaw09.RemnantBounds", spec := "remnantBounds", unfollowed := true, recurses := true, apart := false, narrowed := true }
def RemnantBoundsUptoSaid : Prop := remnantBoundsUptoRow.holds Try.pinned (OpenSpec.upto remnantBoundsSpec)

/-- 'galloonlaw09.RemnantMore', WHERE WHAT IT READS IS OF BULK AT MOST 1048576: true; the input reads as it did. -/
def remnantMoreUptoRow : OpenClaim := { program := "ytpckfllalpiliaa", sum := "2be2fb2e62548e3bdcc98ffda59da4369229a3c362f03e8de59d40caf7a70e99", func := "galloon/galloonlaw09.RemnantMore", spec := "remnantMore", unfollowed := true, recurses := true, apart := false, narrowed := true }
def RemnantMoreUptoSaid : Prop := remnantMoreUptoRow.holds Try.pinned (OpenSpec.upto remnantMoreSpec)

/-- 'galloonlaw09.RemnantBests', WHERE WHAT IT READS IS OF BULK AT MOST 1048576: true; the input reads as it did. -/
def remnantBestsUptoRow : OpenClaim := { program := "ytpckfllalpiliaa", sum := "2be2fb2e62548e3bdcc98ffda59da4369229a3c362f03e8de59d40caf7a70e99", func := "galloon/galloonlaw09.RemnantBests", spec := "remnantBests", unfollowed := true, recurses := true, apart := false, narrowed := true }
def RemnantBestsUptoSaid : Prop := remnantBestsUptoRow.holds Try.pinned (OpenSpec.upto remnantBestsSpec)

end Rows
end Go.Proofs.Ytpckfllalpiliaa
