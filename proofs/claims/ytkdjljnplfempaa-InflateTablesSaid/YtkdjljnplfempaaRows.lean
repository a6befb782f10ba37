/-
  No cell of these rows narrows 'for every input' (looked for: loops, veiled, ifaces, maps, wideKeys, modest, calm, conditions, laid).
  DERIVED. THE GIVEN ROWS OF THIS SEAT. 7 by the template 'for every input the law returns true; each argument reads behind the call as it read before'; 0 by the template 'total and deterministic' (their statements: YtkdjljnplfempaaTotals.lean).
  GIVEN WITH THE SEED: the statements are not yours to turn. If you find one false, say at which input.
  Laid BY PROGRAM, IN A SANDBOX (cutbox-rows.mjs): the forced cells as the released guide's own fill.sh prints them over the translation b8ae3dcb29d9beae… (all of the seat's roots in one cut). By AI agents, Wed Nov 11 2026. No macro, syntax, notation, axiom, sorry.
-/
import Derived.Test.YtkdjljnplfempaaChecked
import GoSem.Claim
import GoSem.ClaimJoined
import GoSem.ClaimMapViews
import Derived.JoinedTies
import Derived.KernelRfl
namespace Go.Proofs.Ytkdjljnplfempaa
/- THE CELL 'sum', in the pinned program and in every row, IS THE sha256 OF THE DUMP (.gsa) THAT YtkdjljnplfempaaProg.lean LOADS. Nothing in Lean hashes anything: it is a label: what it is worth is what the hold of that sum in a sandbox is worth. -/
noncomputable def Try.pinned : Pinned := { name := "ytkdjljnplfempaa", sum := "b8ae3dcb29d9beae1ba079c7aee794e854cbd1d152c2888940b6162ccbcbfdde", checked := Try.checked }
namespace Rows
def none {H : Type} : Left H := { results := [], args := [] }

/-- 'wayfarerlaw05.InflateReads': WHATEVER THE INPUT: true; the input reads as it did. -/
def inflateReadsSpec : ChangeSpec := { name := "inflateReads", fn := fun _ => fun
  | [d1, d2] => { results := [.lit (.bool true)], args := [d1, d2] }
  | _ => none }
def inflateReadsRow : OpenClaim := { program := "ytkdjljnplfempaa", sum := "b8ae3dcb29d9beae1ba079c7aee794e854cbd1d152c2888940b6162ccbcbfdde", func := "wayfarer/wayfarerlaw05.InflateReads", spec := "inflateReads", unfollowed := true, recurses := true, plainKeys := false, apart := false }
def InflateReadsSaid : Prop := inflateReadsRow.holds Try.pinned (OpenSpec.ofChange inflateReadsSpec)

/-- ITS FALSE NEIGHBOUR: 'it returns false'. Refute it at one input. -/
def inflateReadsWrong : ChangeSpec := { name := "inflateReads", fn := fun _ => fun
  | [d1, d2] => { results := [.lit (.bool false)], args := [d1, d2] }
  | _ => none }
def InflateReadsWrongFalsely : Prop := inflateReadsRow.holds Try.pinned (OpenSpec.ofChange inflateReadsWrong)

/-- 'wayfarerlaw05.InflateTables': WHATEVER THE INPUT: true; the input reads as it did. -/
def inflateTablesSpec : ChangeSpec := { name := "inflateTables", fn := fun _ => fun
  | [d] => { results := [.lit (.bool true)], args := [d] }
  | _ => none }
def inflateTablesRow : OpenClaim := { program := "ytkdjljnplfempaa", sum := "b8ae3dcb29d9beae1ba079c7aee794e854cbd1d152c2888940b6162ccbcbfdde", func := "wayfarer/wayfarerlaw05.InflateTables", spec := "inflateTables", unfollowed := true, recurses := true, plainKeys := false, apart := false }
def InflateTablesSaid : Prop := inflateTablesRow.holds Try.pinned (OpenSpec.ofChange inflateTablesSpec)

/-- ITS FALSE NEIGHBOUR: 'it returns false'. Refute it at one input. -/
def inflateTablesWrong : ChangeSpec := { name := "inflateTables", fn := fun _ => fun
  | [d] => { results := [.lit (.bool false)], args := [d] }
  | _ => none }
def InflateTablesWrongFalsely : Prop := inflateTablesRow.holds Try.pinned (OpenSpec.ofChange inflateTablesWrong)

/-- 'wayfarerlaw05.InflateAhead': WHATEVER THE INPUT: true; the input reads as it did. -/
def inflateAheadSpec : ChangeSpec := { name := "inflateAhead", fn := fun _ => fun
  | [d1, d2, d3] => { results := [.lit (.bool true)], args := [d1, d2, d3] }
  | _ => none }
def inflateAheadRow : OpenClaim := { program := "ytkdjljnplfempaa", sum := "b8ae3dcb29d9beae1ba079c7aee794e854cbd1d152c2888940b6162ccbcbfdde", func := "wayfarer/wayfarerlaw05.InflateAhead", spec := "inflateAhead", unfollowed := true, recurses := true, plainKeys := false, apart := false }
def InflateAheadSaid : Prop := inflateAheadRow.holds Try.pinned (OpenSpec.ofChange inflateAheadSpec)

/-- ITS FALSE NEIGHBOUR: 'it returns false'. Refute it at one input. -/
def inflateAheadWrong : ChangeSpec := { name := "inflateAhead", fn := fun _ => fun
  | [d1, d2, d3] => { results := [.lit (.bool false)], args := [d1, d2, d3] }
  | _ => none }
def InflateAheadWrongFalsely : Prop := inflateAheadRow.holds Try.pinned (OpenSpec.ofChange inflateAheadWrong)

/-- 'wayfarerlaw04.HuffLengths': WHATEVER THE INPUT: true; the input reads as it did. -/
def huffLengthsSpec : ChangeSpec := { name := "huffLengths", fn := fun _ => fun
  | [d1, d2] => { results := [.lit (.bool true)], args := [d1, d2] }
  | _ => none }
def huffLengthsRow : OpenClaim := { program := "ytkdjljnplfempaa", sum := "b8ae3dcb29d9beae1ba079c7aee794e854cbd1d152c2888940b6162ccbcbfdde", func := "wayfarer/wayfarerlaw04.HuffLengths", spec := "huffLengths", unfollowed := true, recurses := true, plainKeys := false, apart := false }
def HuffLengthsSaid : Prop := huffLengthsRow.holds Try.pinned (OpenSpec.ofChange huffLengthsSpec)

/-- ITS FALSE NEIGHBOUR: 'it returns false'. Refute it at one input. -/
def huffLengthsWrong : ChangeSpec := { name := "huffLengths", fn := fun _ => fun
  | [d1, d2] => { results := [.lit (.bool false)], args := [d1, d2] }
  | _ => none }
def HuffLengthsWrongFalsely : Prop := huffLengthsRow.holds Try.pinned (OpenSpec.ofChange huffLengthsWrong)

/-- 'wayfarerlaw06.DeflateBack': WHATEVER THE INPUT: true; the input reads as it did. -/
def deflateBackSpec : ChangeSpec := { name := "deflateBack", fn := fun _ => fun
  | [d] => { results := [.lit (.bool true)], args := [d] }
  | _ => none }
def deflateBackRow : OpenClaim := { program := "ytkdjljnplfempaa", sum := "b8ae3dcb29d9beae1ba079c7aee794e854cbd1d152c2888940b6162ccbcbfdde", func := "wayfarer/wayfarerlaw06.DeflateBack", spec := "deflateBack", unfollowed := true, recurses := true, plainKeys := false, apart := false }
def DeflateBackSaid : Prop := deflateBackRow.holds Try.pinned (OpenSpec.ofChange deflateBackSpec)

/-- ITS FALSE NEIGHBOUR: 'it returns false'. Refute it at one input. -/
def deflateBackWrong : ChangeSpec := { name := "deflateBack", fn := fun _ => fun
  | [d] => { results := [.lit (.bool false)], args := [d] }
  | _ => none }
def DeflateBackWrongFalsely : Prop := deflateBackRow.holds Try.pinned (OpenSpec.ofChange deflateBackWrong)

/-- 'wayfarerlaw06.DeflateSmall': WHATEVER THE INPUT: true; the input reads as it did. -/
def deflateSmallSpec : ChangeSpec := { name := "deflateSmall", fn := fun _ => fun
  | [d1, d2] => { results := [.lit (.bool true)], args := [d1, d2] }
  | _ => none }
def deflateSmallRow : OpenClaim := { program := "ytkdjljnplfempaa", sum := "b8ae3dcb29d9beae1ba079c7aee794e854cbd1d152c2888940b6162ccbcbfdde", func := "wayfarer/wayfarerlaw06.DeflateSmall", spec := "deflateSmall", unfollowed := true, recurses := true, plainKeys := false, apart := false }
def DeflateSmallSaid : Prop := deflateSmallRow.holds Try.pinned (OpenSpec.ofChange deflateSmallSpec)

/-- ITS FALSE NEIGHBOUR: 'it returns false'. Refute it at one input. -/
def deflateSmallWrong : ChangeSpec := { name := "deflateSmall", fn := fun _ => fun
  | [d1, d2] => { results := [.lit (.bool false)], args := [d1, d2] }
  | _ => none }
def DeflateSmallWrongFalsely : Prop := deflateSmallRow.holds Try.pinned (OpenSpec.ofChange deflateSmallWrong)

/-- 'wayfarerlaw06.DeflateFresh': WHATEVER THE INPUT: true; the input reads as it did. -/
def deflateFreshSpec : ChangeSpec := { name := "deflateFresh", fn := fun _ => fun
  | [d] => { results := [.lit (.bool true)], args := [d] }
  | _ => none }
def deflateFreshRow : OpenClaim := { program := "ytkdjljnplfempaa", sum := "b8ae3dcb29d9beae1ba079c7aee794e854cbd1d152c2888940b6162ccbcbfdde", func := "wayfarer/wayfarerlaw06.DeflateFresh", spec := "deflateFresh", unfollowed := true, recurses := true, plainKeys := false, apart := false }
def DeflateFreshSaid : Prop := deflateFreshRow.holds Try.pinned (OpenSpec.ofChange deflateFreshSpec)

/-- ITS FALSE NEIGHBOUR: 'it returns false'. Refute it at one input. -/
def deflateFreshWrong : ChangeSpec := { name := "deflateFresh", fn := fun _ => fun
  | [d] => { results := [.lit (.bool false)], args := [d] }
  | _ => none }
def DeflateFreshWrongFalsely : Prop := deflateFreshRow.holds Try.pinned (OpenSpec.ofChange deflateFreshWrong)

/- THE SECOND FORM. 'bulk': how many values and letters a reading holds, each counted each time it is reached (what is shared counts as often as it is met; a slice's spare places count too). A statement '..UptoSaid' is the law's where the arguments, and the package variables that the reading takes, are together of bulk at most 1048576: NARROWER than '..Said'. Prove '..Said' where nothing that the law and all that it calls make is longer than what came in: it says more and counts as full. Else prove '..UptoSaid'. A law counts once. -/
mutual
def uptoBulk {H : Type} : DataW H → Nat
  | .lit (.string bytes) => bytes.length + 1
  | .lit _ => 1
  | .nil => 1
  | .ptr d => uptoBulk d + 1
  | .slice elems spare => uptoBulkAll elems + uptoBulkAll spare + 1
  | .agg parts => uptoBulkAll parts + 1
  | .iface _ d => uptoBulk d + 1
  | .map entries => uptoBulkEntries entries + 1
  | .held _ => 1
def uptoBulkAll {H : Type} : List (DataW H) → Nat
  | [] => 0
  | d :: r => uptoBulk d + uptoBulkAll r
def uptoBulkEntries {H : Type} : List (Lit × DataW H) → Nat
  | [] => 0
  | x :: r => uptoBulkEntry x + uptoBulkEntries r
def uptoBulkEntry {H : Type} : Lit × DataW H → Nat
  | (.string bytes, d) => bytes.length + uptoBulk d + 1
  | (_, d) => uptoBulk d + 1
 end
def uptoSmall : (H : Type) → List (DataW H) → Bool := fun _ ds => decide (uptoBulkAll ds ≤ 1048576)
def OpenSpec.upto (s : _root_.Go.ChangeSpec) : _root_.Go.OpenSpec := { _root_.Go.OpenSpec.ofChange s with cond := some uptoSmall }

/-- 'wayfarerlaw05.InflateReads', WHERE WHAT IT READS IS OF BULK AT MOST 1048576: true; the input reads as it did. -/
def inflateReadsUptoRow : OpenClaim := { program := "ytkdjljnplfempaa", sum := "b8ae3dcb29d9beae1ba079c7aee794e854cbd1d152c2888940b6162ccbcbfdde", func := "wayfarer/wayfarerlaw05.InflateReads", spec := "inflateReads", unfollowed := true, recurses := true, plainKeys := false, apart := false, narrowed := true }
def InflateReadsUptoSaid : Prop := inflateReadsUptoRow.holds Try.pinned (OpenSpec.upto inflateReadsSpec)

/-- 'wayfarerlaw05.InflateTables', WHERE WHAT IT READS IS OF BULK AT MOST 1048576: true; the input reads as it did. -/
def inflateTablesUptoRow : OpenClaim := { program := "ytkdjljnplfempaa", sum := "b8ae3dcb29d9beae1ba079c7aee794e854cbd1d152c2888940b6162ccbcbfdde", func := "wayfarer/wayfarerlaw05.InflateTables", spec := "inflateTables", unfollowed := true, recurses := true, plainKeys := false, apart := false, narrowed := true }
def InflateTablesUptoSaid : Prop := inflateTablesUptoRow.holds Try.pinned (OpenSpec.upto inflateTablesSpec)

/-- 'wayfarerlaw05.InflateAhead', WHERE WHAT IT READS IS OF BULK AT MOST 1048576: true; the input reads as it did. -/
def inflateAheadUptoRow : OpenClaim := { program := "ytkdjljnplfempaa", sum := "b8ae3dcb29d9beae1ba079c7aee794e854cbd1d152c2888940b6162ccbcbfdde", func := "wayfarer/wayfarerlaw05.InflateAhead", spec := "inflateAhead", unfollowed := true, recurses := true, plainKeys := false, apart := false, narrowed := true }
def InflateAheadUptoSaid : Prop := inflateAheadUptoRow.holds Try.pinned (OpenSpec.upto inflateAheadSpec)

/-- 'wayfarerlaw04.HuffLengths', WHERE WHAT IT READS IS OF BULK AT MOST 1048576: true; the input reads as it did. -/
def huffLengthsUptoRow : OpenClaim := { program := "ytkdjljnplfempaa", sum := "b8ae3dcb29d9beae1ba079c7aee794e854cbd1d152c2888940b6162ccbcbfdde", func := "wayfarer/wayfarerlaw04.HuffLengths", spec := "huffLengths", unfollowed := true, recurses := true, plainKeys := false, apart := false, narrowed := true }
def HuffLengthsUptoSaid : Prop := huffLengthsUptoRow.holds Try.pinned (OpenSpec.upto huffLengthsSpec)

/-- 'wayfarerlaw06.DeflateBack', WHERE WHAT IT READS IS OF BULK AT MOST 1048576: true; the input reads as it did. -/
def deflateBackUptoRow : OpenClaim := { program := "ytkdjljnplfempaa", sum := "b8ae3dcb29d9beae1ba079c7aee794e854cbd1d152c2888940b6162ccbcbfdde", func := "wayfarer/wayfarerlaw06.DeflateBack", spec := "deflateBack", unfollowed := true, recurses := true, plainKeys := false, apart := false, narrowed := true }
def DeflateBackUptoSaid : Prop := deflateBackUptoRow.holds Try.pinned (OpenSpec.upto deflateBackSpec)

/-- 'wayfarerlaw06.DeflateSmall', WHERE WHAT IT READS IS OF BULK AT MOST 1048576: true; the input reads as it did. -/
def deflateSmallUptoRow : OpenClaim := { program := "ytkdjljnplfempaa", sum := "b8ae3dcb29d9beae1ba079c7aee794e854cbd1d152c2888940b6162ccbcbfdde", func := "wayfarer/wayfarerlaw06.DeflateSmall", spec := "deflateSmall", unfollowed := true, recurses := true, plainKeys := false, apart := false, narrowed := true }
def DeflateSmallUptoSaid : Prop := deflateSmallUptoRow.holds Try.pinned (OpenSpec.upto deflateSmallSpec)

/-- 'wayfarerlaw06.DeflateFresh', WHERE WHAT IT READS IS OF BULK AT MOST 1048576: true; the input reads as it did. -/
def deflateFreshUptoRow : OpenClaim := { program := "ytkdjljnplfempaa", sum := "b8ae3dcb29d9beae1ba079c7aee794e854cbd1d152c2888940b6162ccbcbfdde", func := "wayfarer/wayfarerlaw06.DeflateFresh", spec := "deflateFresh", unfollowed := true, recurses := true, plainKeys := false, apart := false, narrowed := true }
def DeflateFreshUptoSaid : Prop := deflateFreshUptoRow.holds Try.pinned (OpenSpec.upto deflateFreshSpec)

end Rows
end Go.Proofs.Ytkdjljnplfempaa
