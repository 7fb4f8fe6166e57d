/-
  No cell of these rows narrows 'for every input' (looked for: loops, veiled, ifaces, maps, wideKeys, modest, calm, conditions, laid).
  DERIVED. THE GIVEN ROWS OF THIS SEAT. 5 by the template 'for every input the law returns true; each argument reads behind the call as it read before'; 0 by the template 'total and deterministic' (their statements: YtmejcmollpbcfaaGreatTotals.lean).
  GIVEN WITH THE SEED: the statements are not yours to turn. If you find one false, say at which input.
  Laid BY PROGRAM, IN A SANDBOX (cutbox-rows.mjs): the forced cells as the released guide's own fill.sh prints them over the translation 99000bcb7dcc70b9… (all of the seat's roots in one cut). By AI agents, Wed Nov 11 2026. No macro, syntax, notation, axiom, sorry.
-/
import Derived.Test.YtmejcmollpbcfaaGreatChecked
import GoSem.Claim
import GoSem.ClaimJoined
import GoSem.ClaimMapViews
import Derived.JoinedTies
import Derived.KernelRfl
namespace Go.Proofs.YtmejcmollpbcfaaGreat
/- THE CELL 'sum', in the pinned program and in every row, IS THE sha256 OF THE DUMP (.gsa) THAT YtmejcmollpbcfaaGreatProg.lean LOADS. Nothing in Lean hashes anything: it is a label: what it is worth is what the hold of that sum in a sandbox is worth. -/
noncomputable def Tryz.pinned : Pinned := { name := "ytmejcmollpbcfaagreat", sum := "99000bcb7dcc70b9daa02aad9dca06b58854f4b2c0e1afb03b182c772243453d", checked := Tryz.checked }
namespace Rows
def none {H : Type} : Left H := { results := [], args := [] }

/-- 'ostraconlaw04.GridReads': WHATEVER THE INPUT: true; the input reads as it did. -/
def gridReadsSpec : ChangeSpec := { name := "gridReads", fn := fun _ => fun
  | [d1, d2, d3] => { results := [.lit (.bool true)], args := [d1, d2, d3] }
  | _ => none }
def gridReadsRow : OpenClaim := { program := "ytmejcmollpbcfaagreat", sum := "99000bcb7dcc70b9daa02aad9dca06b58854f4b2c0e1afb03b182c772243453d", func := "ostracon/ostraconlaw04.GridReads", spec := "gridReads", unfollowed := true, recurses := true, apart := false }
def GridReadsSaid : Prop := gridReadsRow.holds Tryz.pinned (OpenSpec.ofChange gridReadsSpec)

/-- ITS FALSE NEIGHBOUR: 'it returns false'. Refute it at one input. -/
def gridReadsWrong : ChangeSpec := { name := "gridReads", fn := fun _ => fun
  | [d1, d2, d3] => { results := [.lit (.bool false)], args := [d1, d2, d3] }
  | _ => none }
def GridReadsWrongFalsely : Prop := gridReadsRow.holds Tryz.pinned (OpenSpec.ofChange gridReadsWrong)

/-- 'ostracontop.TopWall': WHATEVER THE INPUT: true; the input reads as it did. -/
def topWallSpec : ChangeSpec := { name := "topWall", fn := fun _ => fun
  | [d1, d2, d3] => { results := [.lit (.bool true)], args := [d1, d2, d3] }
  | _ => none }
def topWallRow : OpenClaim := { program := "ytmejcmollpbcfaagreat", sum := "99000bcb7dcc70b9daa02aad9dca06b58854f4b2c0e1afb03b182c772243453d", func := "ostracon/ostracontop.TopWall", spec := "topWall", unfollowed := true, recurses := true, apart := false }
def TopWallSaid : Prop := topWallRow.holds Tryz.pinned (OpenSpec.ofChange topWallSpec)

/-- ITS FALSE NEIGHBOUR: 'it returns false'. Refute it at one input. -/
def topWallWrong : ChangeSpec := { name := "topWall", fn := fun _ => fun
  | [d1, d2, d3] => { results := [.lit (.bool false)], args := [d1, d2, d3] }
  | _ => none }
def TopWallWrongFalsely : Prop := topWallRow.holds Tryz.pinned (OpenSpec.ofChange topWallWrong)

/-- 'ostraconlaw04.GridBack': WHATEVER THE INPUT: true; the input reads as it did. -/
def gridBackSpec : ChangeSpec := { name := "gridBack", fn := fun _ => fun
  | [d1, d2, d3] => { results := [.lit (.bool true)], args := [d1, d2, d3] }
  | _ => none }
def gridBackRow : OpenClaim := { program := "ytmejcmollpbcfaagreat", sum := "99000bcb7dcc70b9daa02aad9dca06b58854f4b2c0e1afb03b182c772243453d", func := "ostracon/ostraconlaw04.GridBack", spec := "gridBack", unfollowed := true, recurses := true, apart := false }
def GridBackSaid : Prop := gridBackRow.holds Tryz.pinned (OpenSpec.ofChange gridBackSpec)

/-- ITS FALSE NEIGHBOUR: 'it returns false'. Refute it at one input. -/
def gridBackWrong : ChangeSpec := { name := "gridBack", fn := fun _ => fun
  | [d1, d2, d3] => { results := [.lit (.bool false)], args := [d1, d2, d3] }
  | _ => none }
def GridBackWrongFalsely : Prop := gridBackRow.holds Tryz.pinned (OpenSpec.ofChange gridBackWrong)

/-- 'ostraconlaw04.GridRelays': WHATEVER THE INPUT: true; the input reads as it did. -/
def gridRelaysSpec : ChangeSpec := { name := "gridRelays", fn := fun _ => fun
  | [d] => { results := [.lit (.bool true)], args := [d] }
  | _ => none }
def gridRelaysRow : OpenClaim := { program := "ytmejcmollpbcfaagreat", sum := "99000bcb7dcc70b9daa02aad9dca06b58854f4b2c0e1afb03b182c772243453d", func := "ostracon/ostraconlaw04.GridRelays", spec := "gridRelays", unfollowed := true, recurses := true, apart := false }
def GridRelaysSaid : Prop := gridRelaysRow.holds Tryz.pinned (OpenSpec.ofChange gridRelaysSpec)

/-- ITS FALSE NEIGHBOUR: 'it returns false'. Refute it at one input. -/
def gridRelaysWrong : ChangeSpec := { name := "gridRelays", fn := fun _ => fun
  | [d] => { results := [.lit (.bool false)], args := [d] }
  | _ => none }
def GridRelaysWrongFalsely : Prop := gridRelaysRow.holds Tryz.pinned (OpenSpec.ofChange gridRelaysWrong)

/-- 'ostraconlaw04.GridMirrors': WHATEVER THE INPUT: true; the input reads as it did. -/
def gridMirrorsSpec : ChangeSpec := { name := "gridMirrors", fn := fun _ => fun
  | [d1, d2, d3] => { results := [.lit (.bool true)], args := [d1, d2, d3] }
  | _ => none }
def gridMirrorsRow : OpenClaim := { program := "ytmejcmollpbcfaagreat", sum := "99000bcb7dcc70b9daa02aad9dca06b58854f4b2c0e1afb03b182c772243453d", func := "ostracon/ostraconlaw04.GridMirrors", spec := "gridMirrors", unfollowed := true, recurses := true, apart := false }
def GridMirrorsSaid : Prop := gridMirrorsRow.holds Tryz.pinned (OpenSpec.ofChange gridMirrorsSpec)

/-- ITS FALSE NEIGHBOUR: 'it returns false'. Refute it at one input. -/
def gridMirrorsWrong : ChangeSpec := { name := "gridMirrors", fn := fun _ => fun
  | [d1, d2, d3] => { results := [.lit (.bool false)], args := [d1, d2, d3] }
  | _ => none }
def GridMirrorsWrongFalsely : Prop := gridMirrorsRow.holds Tryz.pinned (OpenSpec.ofChange gridMirrorsWrong)

/- THE SECOND FORM. 'bulk': how many values and letters a reading holds, each counted each time it is reached (what is shared counts as often as it is met; a slice's spare places count too). A statement '..UptoSaid' is the law's where the arguments, and the package variables that the reading takes, are together of bulk at most 1048576: NARROWER than '..Said'. Prove '..Said' where nothing that the law and all that it calls make is longer than what came in: it says more and counts as full. Else prove '..UptoSaid'. A law counts once. -/
mutual
def uptoBulk {H : Type} : DataW H → Nat
  | .lit (.string bytes) => bytes.length + 1
  | .lit _ => 1
  | .nil => 1
  | .ptr d => uptoBulk d + 1
  | .slice elems spare => uptoBulkAll elems + uptoBulkAll spare + 1
  | .agg parts => uptoBulkAll parts + 1
  | .iface _ d => uptoBulk d + 1
  | .map entries => uptoBulkEntries entries + 1
  | .held _ => 1
def uptoBulkAll {H : Type} : List (DataW H) → Nat
  | [] => 0
  | d :: r => uptoBulk d + uptoBulkAll r
def uptoBulkEntries {H : Type} : List (Lit × DataW H) → Nat
  | [] => 0
  | x :: r => uptoBulkEntry x + uptoBulkEntries r
def uptoBulkEntry {H : Type} : Lit × DataW H → Nat
  | (.string bytes, d) => bytes.length + uptoBulk d + 1
  | (_, d) => uptoBulk d + 1
 end
def uptoSmall : (H : Type) → List (DataW H) → Bool := fun _ ds => decide (uptoBulkAll ds ≤ 1048576)
def OpenSpec.upto (s : _root_.Go.ChangeSpec) : _root_.Go.OpenSpec := { _root_.Go.OpenSpec.ofChange s with cond := some uptoSmall }

/-- 'ostraconlaw04.GridReads', WHERE WHAT IT READS IS OF BULK AT MOST 1048576: true; the input reads as it did. -/
def gridReadsUptoRow : OpenClaim := { program := "ytmejcmollpbcfaagreat", sum := "99000bcb7dcc70b9daa02aad9dca06b58854f4b2c0e1afb03b182c772243453d", func := "ostracon/ostraconlaw04.GridReads", spec := "gridReads", unfollowed := true, recurses := true, apart := false, narrowed := true }
def GridReadsUptoSaid : Prop := gridReadsUptoRow.holds Tryz.pinned (OpenSpec.upto gridReadsSpec)

/-- 'ostracontop.TopWall', WHERE WHAT IT READS IS OF BULK AT MOST 1048576: true; the input reads as it did. -/
def topWallUptoRow : OpenClaim := { program := "ytmejcmollpbcfaagreat", sum := "99000bcb7dcc70b9daa02aad9dca06b58854f4b2c0e1afb03b182c772243453d", func := "ostracon/ostracontop.TopWall", spec := "topWall", unfollowed := true, recurses := true, apart := false, narrowed := true }
def TopWallUptoSaid : Prop := topWallUptoRow.holds Tryz.pinned (OpenSpec.upto topWallSpec)

/-- 'ostraconlaw04.GridBack', WHERE WHAT IT READS IS OF BULK AT MOST 1048576: true; the input reads as it did. -/
def gridBackUptoRow : OpenClaim := { program := "ytmejcmollpbcfaagreat", sum := "99000bcb7dcc70b9daa02aad9dca06b58854f4b2c0e1afb03b182c772243453d", func := "ostracon/ostraconlaw04.GridBack", spec := "gridBack", unfollowed := true, recurses := true, apart := false, narrowed := true }
def GridBackUptoSaid : Prop := gridBackUptoRow.holds Tryz.pinned (OpenSpec.upto gridBackSpec)

/-- 'ostraconlaw04.GridRelays', WHERE WHAT IT READS IS OF BULK AT MOST 1048576: true; the input reads as it did. -/
def gridRelaysUptoRow : OpenClaim := { program := "ytmejcmollpbcfaagreat", sum := "99000bcb7dcc70b9daa02aad9dca06b58854f4b2c0e1afb03b182c772243453d", func := "ostracon/ostraconlaw04.GridRelays", spec := "gridRelays", unfollowed := true, recurses := true, apart := false, narrowed := true }
def GridRelaysUptoSaid : Prop := gridRelaysUptoRow.holds Tryz.pinned (OpenSpec.upto gridRelaysSpec)

/-- 'ostraconlaw04.GridMirrors', WHERE WHAT IT READS IS OF BULK AT MOST 1048576: true; the input reads as it did. -/
def gridMirrorsUptoRow : OpenClaim := { program := "ytmejcmollpbcfaagreat", sum := "99000bcb7dcc70b9daa02aad9dca06b58854f4b2c0e1afb03b182c772243453d", func := "ostracon/ostraconlaw04.GridMirrors", spec := "gridMirrors", unfollowed := true, recurses := true, apart := false, narrowed := true }
def GridMirrorsUptoSaid : Prop := gridMirrorsUptoRow.holds Tryz.pinned (OpenSpec.upto gridMirrorsSpec)

end Rows
end Go.Proofs.YtmejcmollpbcfaaGreat
