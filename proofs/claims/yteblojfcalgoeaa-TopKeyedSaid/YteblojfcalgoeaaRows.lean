/-
  No cell of these rows narrows 'for every input' (looked for: loops, veiled, ifaces, maps, wideKeys, modest, calm, conditions, laid).
  DERIVED. THE GIVEN ROWS OF THIS SEAT. 4 by the template 'for every input the law returns true; each argument reads behind the call as it read before'; 0 by the template 'total and deterministic' (their statements: YteblojfcalgoeaaTotals.lean).
  GIVEN WITH THE SEED: the statements are not yours to turn. If you find one false, say at which input.
  Laid BY PROGRAM, IN A SANDBOX (cutbox-rows.mjs): the forced cells as the released guide's own fill.sh prints them over the translation 20eb9f13882eff1e… (all of the seat's roots in one cut). By AI agents, Wed Nov 11 2026. No macro, syntax, notation, axiom, sorry.
-/
import Derived.Test.YteblojfcalgoeaaChecked
import GoSem.Claim
import GoSem.ClaimJoined
import GoSem.ClaimMapViews
import Derived.JoinedTies
import Derived.KernelRfl
namespace Go.Proofs.Yteblojfcalgoeaa
/- THE CELL 'sum', in the pinned program and in every row, IS THE sha256 OF THE DUMP (.gsa) THAT YteblojfcalgoeaaProg.lean LOADS. Nothing in Lean hashes anything: it is a label: what it is worth is what the hold of that sum in a sandbox is worth. -/
noncomputable def Try.pinned : Pinned := { name := "yteblojfcalgoeaa", sum := "20eb9f13882eff1e3d8733278a27a6a2e42c5c348c156f6621c30aba758c000a", checked := Try.checked }
namespace Rows
def none {H : Type} : Left H := { results := [], args := [] }

/-- 'cairntop.TopCoded': WHATEVER THE INPUT: true; the input reads as it did. -/
def topCodedSpec : ChangeSpec := { name := "topCoded", fn := fun _ => fun
  | [d1, d2] => { results := [.lit (.bool true)], args := [d1, d2] }
  | _ => none }
def topCodedRow : OpenClaim := { program := "yteblojfcalgoeaa", sum := "20eb9f13882eff1e3d8733278a27a6a2e42c5c348c156f6621c30aba758c000a", func := "cairn/cairntop.TopCoded", spec := "topCoded", unfollowed := true, recurses := true, leaving := true, apart := false }
def TopCodedSaid : Prop := topCodedRow.holds Try.pinned (OpenSpec.ofChange topCodedSpec)

/-- ITS FALSE NEIGHBOUR: 'it returns false'. Refute it at one input. -/
def topCodedWrong : ChangeSpec := { name := "topCoded", fn := fun _ => fun
  | [d1, d2] => { results := [.lit (.bool false)], args := [d1, d2] }
  | _ => none }
def TopCodedWrongFalsely : Prop := topCodedRow.holds Try.pinned (OpenSpec.ofChange topCodedWrong)

/-- 'cairntop.TopFanned': WHATEVER THE INPUT: true; the input reads as it did. -/
def topFannedSpec : ChangeSpec := { name := "topFanned", fn := fun _ => fun
  | [d1, d2] => { results := [.lit (.bool true)], args := [d1, d2] }
  | _ => none }
def topFannedRow : OpenClaim := { program := "yteblojfcalgoeaa", sum := "20eb9f13882eff1e3d8733278a27a6a2e42c5c348c156f6621c30aba758c000a", func := "cairn/cairntop.TopFanned", spec := "topFanned", unfollowed := true, recurses := true, leaving := true, apart := false }
def TopFannedSaid : Prop := topFannedRow.holds Try.pinned (OpenSpec.ofChange topFannedSpec)

/-- ITS FALSE NEIGHBOUR: 'it returns false'. Refute it at one input. -/
def topFannedWrong : ChangeSpec := { name := "topFanned", fn := fun _ => fun
  | [d1, d2] => { results := [.lit (.bool false)], args := [d1, d2] }
  | _ => none }
def TopFannedWrongFalsely : Prop := topFannedRow.holds Try.pinned (OpenSpec.ofChange topFannedWrong)

/-- 'cairntop.TopNear': WHATEVER THE INPUT: true; the input reads as it did. -/
def topNearSpec : ChangeSpec := { name := "topNear", fn := fun _ => fun
  | [d1, d2, d3, d4, d5] => { results := [.lit (.bool true)], args := [d1, d2, d3, d4, d5] }
  | _ => none }
def topNearRow : OpenClaim := { program := "yteblojfcalgoeaa", sum := "20eb9f13882eff1e3d8733278a27a6a2e42c5c348c156f6621c30aba758c000a", func := "cairn/cairntop.TopNear", spec := "topNear", unfollowed := true, recurses := true, leaving := true, apart := false }
def TopNearSaid : Prop := topNearRow.holds Try.pinned (OpenSpec.ofChange topNearSpec)

/-- ITS FALSE NEIGHBOUR: 'it returns false'. Refute it at one input. -/
def topNearWrong : ChangeSpec := { name := "topNear", fn := fun _ => fun
  | [d1, d2, d3, d4, d5] => { results := [.lit (.bool false)], args := [d1, d2, d3, d4, d5] }
  | _ => none }
def TopNearWrongFalsely : Prop := topNearRow.holds Try.pinned (OpenSpec.ofChange topNearWrong)

/-- 'cairntop.TopKeyed': WHATEVER THE INPUT: true; the input reads as it did. -/
def topKeyedSpec : ChangeSpec := { name := "topKeyed", fn := fun _ => fun
  | [d1, d2, d3] => { results := [.lit (.bool true)], args := [d1, d2, d3] }
  | _ => none }
def topKeyedRow : OpenClaim := { program := "yteblojfcalgoeaa", sum := "20eb9f13882eff1e3d8733278a27a6a2e42c5c348c156f6621c30aba758c000a", func := "cairn/cairntop.TopKeyed", spec := "topKeyed", unfollowed := true, recurses := true, leaving := true, apart := false }
def TopKeyedSaid : Prop := topKeyedRow.holds Try.pinned (OpenSpec.ofChange topKeyedSpec)

/-- ITS FALSE NEIGHBOUR: 'it returns false'. Refute it at one input. -/
def topKeyedWrong : ChangeSpec := { name := "topKeyed", fn := fun _ => fun
  | [d1, d2, d3] => { results := [.lit (.bool false)], args := [d1, d2, d3] }
  | _ => none }
def TopKeyedWrongFalsely : Prop := topKeyedRow.holds Try.pinned (OpenSpec.ofChange topKeyedWrong)

/- THE SECOND FORM. 'bulk': how many values and letters a reading holds, each counted each time it is reached (what is shared counts as often as it is met; a slice's spare places count too). A statement '..UptoSaid' is the law's where the arguments, and the package variables that the reading takes, are together of bulk at most 1048576: NARROWER than '..Said'. Prove '..Said' where nothing that the law and all that it calls make is longer than what came in: it says more and counts as full. Else prove '..UptoSaid'. A law counts once. -/
mutual
def uptoBulk {H : Type} : DataW H → Nat
  | .lit (.string bytes) => bytes.length + 1
  | .lit _ => 1
  | .nil => 1
  | .ptr d => uptoBulk d + 1
  | .slice elems spare => uptoBulkAll elems + uptoBulkAll spare + 1
  | .agg parts => uptoBulkAll parts + 1
  | .iface _ d => uptoBulk d + 1
  | .map entries => uptoBulkEntries entries + 1
  | .held _ => 1
def uptoBulkAll {H : Type} : List (DataW H) → Nat
  | [] => 0
  | d :: r => uptoBulk d + uptoBulkAll r
def uptoBulkEntries {H : Type} : List (Lit × DataW H) → Nat
  | [] => 0
  | x :: r => uptoBulkEntry x + uptoBulkEntries r
def uptoBulkEntry {H : Type} : Lit × DataW H → Nat
  | (.string bytes, d) => bytes.length + uptoBulk d + 1
  | (_, d) => uptoBulk d + 1
 end
def uptoSmall : (H : Type) → List (DataW H) → Bool := fun _ ds => decide (uptoBulkAll ds ≤ 1048576)
def OpenSpec.upto (s : _root_.Go.ChangeSpec) : _root_.Go.OpenSpec := { _root_.Go.OpenSpec.ofChange s with cond := some uptoSmall }

/-- 'cairntop.TopCoded', WHERE WHAT IT READS IS OF BULK AT MOST 1048576: true; the input reads as it did. -/
def topCodedUptoRow : OpenClaim := { program := "yteblojfcalgoeaa", sum := "20eb9f13882eff1e3d8733278a27a6a2e42c5c348c156f6621c30aba758c000a", func := "cairn/cairntop.TopCoded", spec := "topCoded", unfollowed := true, recurses := true, leaving := true, apart := false, narrowed := true }
def TopCodedUptoSaid : Prop := topCodedUptoRow.holds Try.pinned (OpenSpec.upto topCodedSpec)

/-- 'cairntop.TopFanned', WHERE WHAT IT READS IS OF BULK AT MOST 1048576: true; the input reads as it did. -/
def topFannedUptoRow : OpenClaim := { program := "yteblojfcalgoeaa", sum := "20eb9f13882eff1e3d8733278a27a6a2e42c5c348c156f6621c30aba758c000a", func := "cairn/cairntop.TopFanned", spec := "topFanned", unfollowed := true, recurses := true, leaving := true, apart := false, narrowed := true }
def TopFannedUptoSaid : Prop := topFannedUptoRow.holds Try.pinned (OpenSpec.upto topFannedSpec)

/-- 'cairntop.TopNear', WHERE WHAT IT READS IS OF BULK AT MOST 1048576: true; the input reads as it did. -/
def topNearUptoRow : OpenClaim := { program := "yteblojfcalgoeaa", sum := "20eb9f13882eff1e3d8733278a27a6a2e42c5c348c156f6621c30aba758c000a", func := "cairn/cairntop.TopNear", spec := "topNear", unfollowed := true, recurses := true, leaving := true, apart := false, narrowed := true }
def TopNearUptoSaid : Prop := topNearUptoRow.holds Try.pinned (OpenSpec.upto topNearSpec)

/-- 'cairntop.TopKeyed', WHERE WHAT IT READS IS OF BULK AT MOST 1048576: true; the input reads as it did. -/
def topKeyedUptoRow : OpenClaim := { program := "yteblojfcalgoeaa", sum := "20eb9f13882eff1e3d8733278a27a6a2e42c5c348c156f6621c30aba758c000a", func := "cairn/cairntop.TopKeyed", spec := "topKeyed", unfollowed := true, recurses := true, leaving := true, apart := false, narrowed := true }
def TopKeyedUptoSaid : Prop := topKeyedUptoRow.holds Try.pinned (OpenSpec.upto topKeyedSpec)

end Rows
end Go.Proofs.Yteblojfcalgoeaa
