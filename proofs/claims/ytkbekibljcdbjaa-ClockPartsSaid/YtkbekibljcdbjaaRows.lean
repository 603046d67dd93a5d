/-
  No cell of these rows narrows 'for every input' (looked for: loops, veiled, ifaces, maps, wideKeys, modest, calm, conditions, laid).
  DERIVED. THE GIVEN ROWS OF THIS SEAT. 6 by the template 'for every input the law returns true; each argument reads behind the call as it read before'; 0 by the template 'total and deterministic' (their statements: YtkbekibljcdbjaaTotals.lean).
  GIVEN WITH THE SEED: the statements are not yours to turn. If you find one false, say at which input.
  Laid BY PROGRAM, IN A SANDBOX (cutbox-rows.mjs): the forced cells as the released guide's own fill.sh prints them over the translation a419cf348e4c5f89… (all of the seat's roots in one cut). By AI agents, Wed Nov 11 2026. No macro, syntax, notation, axiom, sorry.
-/
import Derived.Test.YtkbekibljcdbjaaChecked
import GoSem.Claim
import GoSem.ClaimJoined
import GoSem.ClaimMapViews
import Derived.JoinedTies
import Derived.KernelRfl
namespace Go.Proofs.Ytkbekibljcdbjaa
/- THE CELL 'sum', in the pinned program and in every row, IS THE sha256 OF THE DUMP (.gsa) THAT YtkbekibljcdbjaaProg.lean LOADS. Nothing in Lean hashes anything: it is a label: what it is worth is what the hold of that sum in a sandbox is worth. -/
noncomputable def Try.pinned : Pinned := { name := "ytkbekibljcdbjaa", sum := "a419cf348e4c5f8922606d95ef7088682124e3b7d2ccc05ea0a075cf1a6dfd8e", checked := Try.checked }
namespace Rows
def none {H : Type} : Left H := { results := [], args := [] }

/-- 'abutmentlaw52.DrillDice': WHATEVER THE INPUT: true; the input reads as it did. -/
def drillDiceSpec : ChangeSpec := { name := "drillDice", fn := fun _ => fun
  | [d1, d2] => { results := [.lit (.bool true)], args := [d1, d2] }
  | _ => none }
def drillDiceRow : OpenClaim := { program := "ytkbekibljcdbjaa", sum := "a419cf348e4c5f8922606d95ef7088682124e3b7d2ccc05ea0a075cf1a6dfd8e", func := "abutment/abutmentlaw52.DrillDice", spec := "drillDice", apart := false }
def DrillDiceSaid : Prop := drillDiceRow.holds Try.pinned (OpenSpec.ofChange drillDiceSpec)

/-- ITS FALSE NEIGHBOUR: 'it returns false'. Refute it at one input. -/
def drillDiceWrong : ChangeSpec := { name := "drillDice", fn := fun _ => fun
  | [d1, d2] => { results := [.lit (.bool false)], args := [d1, d2] }
  | _ => none }
def DrillDiceWrongFalsely : Prop := drillDiceRow.holds Try.pinned (OpenSpec.ofChange drillDiceWrong)

/-- 'abutmentlaw40.TablePlays': WHATEVER THE INPUT: true; the input reads as it did. -/
def tablePlaysSpec : ChangeSpec := { name := "tablePlays", fn := fun _ => fun
  | [d1, d2] => { results := [.lit (.bool true)], args := [d1, d2] }
  | _ => none }
def tablePlaysRow : OpenClaim := { program := "ytkbekibljcdbjaa", sum := "a419cf348e4c5f8922606d95ef7088682124e3b7d2ccc05ea0a075cf1a6dfd8e", func := "abutment/abutmentlaw40.TablePlays", spec := "tablePlays", unfollowed := true, recurses := true, apart := false }
def TablePlaysSaid : Prop := tablePlaysRow.holds Try.pinned (OpenSpec.ofChange tablePlaysSpec)

/-- ITS FALSE NEIGHBOUR: 'it returns false'. Refute it at one input. -/
def tablePlaysWrong : ChangeSpec := { name := "tablePlays", fn := fun _ => fun
  | [d1, d2] => { results := [.lit (.bool false)], args := [d1, d2] }
  | _ => none }
def TablePlaysWrongFalsely : Prop := tablePlaysRow.holds Try.pinned (OpenSpec.ofChange tablePlaysWrong)

/-- 'abutmentlaw40.TablePool': WHATEVER THE INPUT: true; the input reads as it did. -/
def tablePoolSpec : ChangeSpec := { name := "tablePool", fn := fun _ => fun
  | [d] => { results := [.lit (.bool true)], args := [d] }
  | _ => none }
def tablePoolRow : OpenClaim := { program := "ytkbekibljcdbjaa", sum := "a419cf348e4c5f8922606d95ef7088682124e3b7d2ccc05ea0a075cf1a6dfd8e", func := "abutment/abutmentlaw40.TablePool", spec := "tablePool", unfollowed := true, recurses := true, apart := false }
def TablePoolSaid : Prop := tablePoolRow.holds Try.pinned (OpenSpec.ofChange tablePoolSpec)

/-- ITS FALSE NEIGHBOUR: 'it returns false'. Refute it at one input. -/
def tablePoolWrong : ChangeSpec := { name := "tablePool", fn := fun _ => fun
  | [d] => { results := [.lit (.bool false)], args := [d] }
  | _ => none }
def TablePoolWrongFalsely : Prop := tablePoolRow.holds Try.pinned (OpenSpec.ofChange tablePoolWrong)

/-- 'abutmentlaw40.TableNone': WHATEVER THE INPUT: true; the input reads as it did. -/
def tableNoneSpec : ChangeSpec := { name := "tableNone", fn := fun _ => fun
  | [d1, d2] => { results := [.lit (.bool true)], args := [d1, d2] }
  | _ => none }
def tableNoneRow : OpenClaim := { program := "ytkbekibljcdbjaa", sum := "a419cf348e4c5f8922606d95ef7088682124e3b7d2ccc05ea0a075cf1a6dfd8e", func := "abutment/abutmentlaw40.TableNone", spec := "tableNone", unfollowed := true, recurses := true, apart := false }
def TableNoneSaid : Prop := tableNoneRow.holds Try.pinned (OpenSpec.ofChange tableNoneSpec)

/-- ITS FALSE NEIGHBOUR: 'it returns false'. Refute it at one input. -/
def tableNoneWrong : ChangeSpec := { name := "tableNone", fn := fun _ => fun
  | [d1, d2] => { results := [.lit (.bool false)], args := [d1, d2] }
  | _ => none }
def TableNoneWrongFalsely : Prop := tableNoneRow.holds Try.pinned (OpenSpec.ofChange tableNoneWrong)

/-- 'abutmentlaw41.ClockPlays': WHATEVER THE INPUT: true; the input reads as it did. -/
def clockPlaysSpec : ChangeSpec := { name := "clockPlays", fn := fun _ => fun
  | [d1, d2] => { results := [.lit (.bool true)], args := [d1, d2] }
  | _ => none }
def clockPlaysRow : OpenClaim := { program := "ytkbekibljcdbjaa", sum := "a419cf348e4c5f8922606d95ef7088682124e3b7d2ccc05ea0a075cf1a6dfd8e", func := "abutment/abutmentlaw41.ClockPlays", spec := "clockPlays", unfollowed := true, recurses := true, apart := false }
def ClockPlaysSaid : Prop := clockPlaysRow.holds Try.pinned (OpenSpec.ofChange clockPlaysSpec)

/-- ITS FALSE NEIGHBOUR: 'it returns false'. Refute it at one input. -/
def clockPlaysWrong : ChangeSpec := { name := "clockPlays", fn := fun _ => fun
  | [d1, d2] => { results := [.lit (.bool false)], args := [d1, d2] }
  | _ => none }
def ClockPlaysWrongFalsely : Prop := clockPlaysRow.holds Try.pinned (OpenSpec.ofChange clockPlaysWrong)

/-- 'abutmentlaw41.ClockParts': WHATEVER THE INPUT: true; the input reads as it did. -/
def clockPartsSpec : ChangeSpec := { name := "clockParts", fn := fun _ => fun
  | [d1, d2] => { results := [.lit (.bool true)], args := [d1, d2] }
  | _ => none }
def clockPartsRow : OpenClaim := { program := "ytkbekibljcdbjaa", sum := "a419cf348e4c5f8922606d95ef7088682124e3b7d2ccc05ea0a075cf1a6dfd8e", func := "abutment/abutmentlaw41.ClockParts", spec := "clockParts", unfollowed := true, recurses := true, apart := false }
def ClockPartsSaid : Prop := clockPartsRow.holds Try.pinned (OpenSpec.ofChange clockPartsSpec)

/-- ITS FALSE NEIGHBOUR: 'it returns false'. Refute it at one input. -/
def clockPartsWrong : ChangeSpec := { name := "clockParts", fn := fun _ => fun
  | [d1, d2] => { results := [.lit (.bool false)], args := [d1, d2] }
  | _ => none }
def ClockPartsWrongFalsely : Prop := clockPartsRow.holds Try.pinned (OpenSpec.ofChange clockPartsWrong)

/- THE SECOND FORM. 'bulk': how many values and letters a reading holds, each counted each time it is reached (what is shared counts as often as it is met; a slice's spare places count too). A statement '..UptoSaid' is the law's where the arguments, and the package variables that the reading takes, are together of bulk at most 1048576: NARROWER than '..Said'. Prove '..Said' where nothing that the law and all that it calls make is longer than what came in: it says more and counts as full. Else prove '..UptoSaid'. A law counts once. -/
mutual
def uptoBulk {H : Type} : DataW H → Nat
  | .lit (.string bytes) => bytes.length + 1
  | .lit _ => 1
  | .nil => 1
  | .ptr d => uptoBulk d + 1
  | .slice elems spare => uptoBulkAll elems + uptoBulkAll spare + 1
  | .agg parts => uptoBulkAll parts + 1
  | .iface _ d => uptoBulk d + 1
  | .map entries => uptoBulkEntries entries + 1
  | .held _ => 1
def uptoBulkAll {H : Type} : List (DataW H) → Nat
  | [] => 0
  | d :: r => uptoBulk d + uptoBulkAll r
def uptoBulkEntries {H : Type} : List (Lit × DataW H) → Nat
  | [] => 0
  | x :: r => uptoBulkEntry x + uptoBulkEntries r
def uptoBulkEntry {H : Type} : Lit × DataW H → Nat
  | (.string bytes, d) => bytes.length + uptoBulk d + 1
  | (_, d) => uptoBulk d + 1
 end
def uptoSmall : (H : Type) → List (DataW H) → Bool := fun _ ds => decide (uptoBulkAll ds ≤ 1048576)
def OpenSpec.upto (s : _root_.Go.ChangeSpec) : _root_.Go.OpenSpec := { _root_.Go.OpenSpec.ofChange s with cond := some uptoSmall }

/-- 'abutmentlaw52.DrillDice', WHERE WHAT IT READS IS OF BULK AT MOST 1048576: true; the input reads as it did. -/
def drillDiceUptoRow : OpenClaim := { program := "ytkbekibljcdbjaa", sum := "a419cf348e4c5f8922606d95ef7088682124e3b7d2ccc05ea0a075cf1a6dfd8e", func := "abutment/abutmentlaw52.DrillDice", spec := "drillDice", apart := false, narrowed := true }
def DrillDiceUptoSaid : Prop := drillDiceUptoRow.holds Try.pinned (OpenSpec.upto drillDiceSpec)

/-- 'abutmentlaw40.TablePlays', WHERE WHAT IT READS IS OF BULK AT MOST 1048576: true; the input reads as it did. -/
def tablePlaysUptoRow : OpenClaim := { program := "ytkbekibljcdbjaa", sum := "a419cf348e4c5f8922606d95ef7088682124e3b7d2ccc05ea0a075cf1a6dfd8e", func := "abutment/abutmentlaw40.TablePlays", spec := "tablePlays", unfollowed := true, recurses := true, apart := false, narrowed := true }
def TablePlaysUptoSaid : Prop := tablePlaysUptoRow.holds Try.pinned (OpenSpec.upto tablePlaysSpec)

/-- 'abutmentlaw40.TablePool', WHERE WHAT IT READS IS OF BULK AT MOST 1048576: true; the input reads as it did. -/
def tablePoolUptoRow : OpenClaim := { program := "ytkbekibljcdbjaa", sum := "a419cf348e4c5f8922606d95ef7088682124e3b7d2ccc05ea0a075cf1a6dfd8e", func := "abutment/abutmentlaw40.TablePool", spec := "tablePool", unfollowed := true, recurses := true, apart := false, narrowed := true }
def TablePoolUptoSaid : Prop := tablePoolUptoRow.holds Try.pinned (OpenSpec.upto tablePoolSpec)

/-- 'abutmentlaw40.TableNone', WHERE WHAT IT READS IS OF BULK AT MOST 1048576: true; the input reads as it did. -/
def tableNoneUptoRow : OpenClaim := { program := "ytkbekibljcdbjaa", sum := "a419cf348e4c5f8922606d95ef7088682124e3b7d2ccc05ea0a075cf1a6dfd8e", func := "abutment/abutmentlaw40.TableNone", spec := "tableNone", unfollowed := true, recurses := true, apart := false, narrowed := true }
def TableNoneUptoSaid : Prop := tableNoneUptoRow.holds Try.pinned (OpenSpec.upto tableNoneSpec)

/-- 'abutmentlaw41.ClockPlays', WHERE WHAT IT READS IS OF BULK AT MOST 1048576: true; the input reads as it did. -/
def clockPlaysUptoRow : OpenClaim := { program := "ytkbekibljcdbjaa", sum := "a419cf348e4c5f8922606d95ef7088682124e3b7d2ccc05ea0a075cf1a6dfd8e", func := "abutment/abutmentlaw41.ClockPlays", spec := "clockPlays", unfollowed := true, recurses := true, apart := false, narrowed := true }
def ClockPlaysUptoSaid : Prop := clockPlaysUptoRow.holds Try.pinned (OpenSpec.upto clockPlaysSpec)

/-- 'abutmentlaw41.ClockParts', WHERE WHAT IT READS IS OF BULK AT MOST 1048576: true; the input reads as it did. -/
def clockPartsUptoRow : OpenClaim := { program := "ytkbekibljcdbjaa", sum := "a419cf348e4c5f8922606d95ef7088682124e3b7d2ccc05ea0a075cf1a6dfd8e", func := "abutment/abutmentlaw41.ClockParts", spec := "clockParts", unfollowed := true, recurses := true, apart := false, narrowed := true }
def ClockPartsUptoSaid : Prop := clockPartsUptoRow.holds Try.pinned (OpenSpec.upto clockPartsSpec)

end Rows
end Go.Proofs.Ytkbekibljcdbjaa
