/-
  No cell of these rows narrows 'for every input' (looked for: loops, veiled, ifaces, maps, wideKeys, modest, calm, conditions, laid).
  DERIVED. THE GIVEN ROWS OF THIS SEAT. 7 by the template 'for every input the law returns true; each argument reads behind the call as it read before'; 0 by the template 'total and deterministic' (their statements: YtdcphhcgogmaoaaTotals.lean).
  GIVEN WITH THE SEED: the statements are not yours to turn. If you find one false, say at which input.
  Laid BY PROGRAM, IN A SANDBOX (cutbox-rows.mjs): the forced cells as the released guide's own fill.sh prints them over the translation 716e2ef059bc2c4c… (all of the seat's roots in one cut). By AI agents, Wed Nov 11 2026. No macro, syntax, notation, axiom, sorry.
-/
import Derived.Test.YtdcphhcgogmaoaaChecked
import GoSem.Claim
import GoSem.ClaimJoined
import GoSem.ClaimMapViews
import Derived.JoinedTies
import Derived.KernelRfl
namespace Go.Proofs.Ytdcphhcgogmaoaa
/- THE CELL 'sum', in the pinned program and in every row, IS THE sha256 OF THE DUMP (.gsa) THAT YtdcphhcgogmaoaaProg.lean LOADS. Nothing in Lean hashes anything: it is a label: what it is worth is what the hold of that sum in a sandbox is worth. -/
noncomputable def Try.pinned : Pinned := { name := "ytdcphhcgogmaoaa", sum := "716e2ef059bc2c4c71694eac264eb2fcae426466ea99bf9926176fa544c2867f", checked := Try.checked }
namespace Rows
def none {H : Type} : Left H := { results := [], args := [] }

/-- 'missivelaw03.ScalarAdds': WHATEVER THE INPUT: true; the input reads as it did. -/
def scalarAddsSpec : ChangeSpec := { name := "scalarAdds", fn := fun _ => fun
  | [d1, d2] => { results := [.lit (.bool true)], args := [d1, d2] }
  | _ => none }
def scalarAddsRow : OpenClaim := { program := "ytdcphhcgogmaoaa", sum := "716e2ef059bc2c4c71694eac264eb2fcae426466ea99bf9926176fa544c2867f", func := "missive/missivelaw03.ScalarAdds", spec := "scalarAdds", inPlace := ["math/bits.Add64", "math/bits.Sub64"], unfollowed := true, recurses := true, apart := false }
def ScalarAddsSaid : Prop := scalarAddsRow.holds Try.pinned (OpenSpec.ofChange scalarAddsSpec)

/-- ITS FALSE NEIGHBOUR: 'it returns false'. Refute it at one input. -/
def scalarAddsWrong : ChangeSpec := { name := "scalarAdds", fn := fun _ => fun
  | [d1, d2] => { results := [.lit (.bool false)], args := [d1, d2] }
  | _ => none }
def ScalarAddsWrongFalsely : Prop := scalarAddsRow.holds Try.pinned (OpenSpec.ofChange scalarAddsWrong)

/-- 'missivelaw03.ScalarMuls': WHATEVER THE INPUT: true; the input reads as it did. -/
def scalarMulsSpec : ChangeSpec := { name := "scalarMuls", fn := fun _ => fun
  | [d1, d2] => { results := [.lit (.bool true)], args := [d1, d2] }
  | _ => none }
def scalarMulsRow : OpenClaim := { program := "ytdcphhcgogmaoaa", sum := "716e2ef059bc2c4c71694eac264eb2fcae426466ea99bf9926176fa544c2867f", func := "missive/missivelaw03.ScalarMuls", spec := "scalarMuls", inPlace := ["math/bits.Add64", "math/bits.Sub64"], unfollowed := true, recurses := true, apart := false }
def ScalarMulsSaid : Prop := scalarMulsRow.holds Try.pinned (OpenSpec.ofChange scalarMulsSpec)

/-- ITS FALSE NEIGHBOUR: 'it returns false'. Refute it at one input. -/
def scalarMulsWrong : ChangeSpec := { name := "scalarMuls", fn := fun _ => fun
  | [d1, d2] => { results := [.lit (.bool false)], args := [d1, d2] }
  | _ => none }
def ScalarMulsWrongFalsely : Prop := scalarMulsRow.holds Try.pinned (OpenSpec.ofChange scalarMulsWrong)

/-- 'missivelaw03.ScalarRing': WHATEVER THE INPUT: true; the input reads as it did. -/
def scalarRingSpec : ChangeSpec := { name := "scalarRing", fn := fun _ => fun
  | [d1, d2, d3] => { results := [.lit (.bool true)], args := [d1, d2, d3] }
  | _ => none }
def scalarRingRow : OpenClaim := { program := "ytdcphhcgogmaoaa", sum := "716e2ef059bc2c4c71694eac264eb2fcae426466ea99bf9926176fa544c2867f", func := "missive/missivelaw03.ScalarRing", spec := "scalarRing", inPlace := ["math/bits.Add64", "math/bits.Sub64"], unfollowed := true, recurses := true, apart := false }
def ScalarRingSaid : Prop := scalarRingRow.holds Try.pinned (OpenSpec.ofChange scalarRingSpec)

/-- ITS FALSE NEIGHBOUR: 'it returns false'. Refute it at one input. -/
def scalarRingWrong : ChangeSpec := { name := "scalarRing", fn := fun _ => fun
  | [d1, d2, d3] => { results := [.lit (.bool false)], args := [d1, d2, d3] }
  | _ => none }
def ScalarRingWrongFalsely : Prop := scalarRingRow.holds Try.pinned (OpenSpec.ofChange scalarRingWrong)

/-- 'missivelaw03.ScalarParts': WHATEVER THE INPUT: true; the input reads as it did. -/
def scalarPartsSpec : ChangeSpec := { name := "scalarParts", fn := fun _ => fun
  | [d1, d2] => { results := [.lit (.bool true)], args := [d1, d2] }
  | _ => none }
def scalarPartsRow : OpenClaim := { program := "ytdcphhcgogmaoaa", sum := "716e2ef059bc2c4c71694eac264eb2fcae426466ea99bf9926176fa544c2867f", func := "missive/missivelaw03.ScalarParts", spec := "scalarParts", inPlace := ["math/bits.Add64", "math/bits.Sub64"], unfollowed := true, recurses := true, apart := false }
def ScalarPartsSaid : Prop := scalarPartsRow.holds Try.pinned (OpenSpec.ofChange scalarPartsSpec)

/-- ITS FALSE NEIGHBOUR: 'it returns false'. Refute it at one input. -/
def scalarPartsWrong : ChangeSpec := { name := "scalarParts", fn := fun _ => fun
  | [d1, d2] => { results := [.lit (.bool false)], args := [d1, d2] }
  | _ => none }
def ScalarPartsWrongFalsely : Prop := scalarPartsRow.holds Try.pinned (OpenSpec.ofChange scalarPartsWrong)

/-- 'missivelaw03.ScalarLess': WHATEVER THE INPUT: true; the input reads as it did. -/
def scalarLessSpec : ChangeSpec := { name := "scalarLess", fn := fun _ => fun
  | [d] => { results := [.lit (.bool true)], args := [d] }
  | _ => none }
def scalarLessRow : OpenClaim := { program := "ytdcphhcgogmaoaa", sum := "716e2ef059bc2c4c71694eac264eb2fcae426466ea99bf9926176fa544c2867f", func := "missive/missivelaw03.ScalarLess", spec := "scalarLess", inPlace := ["math/bits.Add64", "math/bits.Sub64"], unfollowed := true, recurses := true, apart := false }
def ScalarLessSaid : Prop := scalarLessRow.holds Try.pinned (OpenSpec.ofChange scalarLessSpec)

/-- ITS FALSE NEIGHBOUR: 'it returns false'. Refute it at one input. -/
def scalarLessWrong : ChangeSpec := { name := "scalarLess", fn := fun _ => fun
  | [d] => { results := [.lit (.bool false)], args := [d] }
  | _ => none }
def ScalarLessWrongFalsely : Prop := scalarLessRow.holds Try.pinned (OpenSpec.ofChange scalarLessWrong)

/-- 'missivelaw03.ScalarReduces': WHATEVER THE INPUT: true; the input reads as it did. -/
def scalarReducesSpec : ChangeSpec := { name := "scalarReduces", fn := fun _ => fun
  | [d] => { results := [.lit (.bool true)], args := [d] }
  | _ => none }
def scalarReducesRow : OpenClaim := { program := "ytdcphhcgogmaoaa", sum := "716e2ef059bc2c4c71694eac264eb2fcae426466ea99bf9926176fa544c2867f", func := "missive/missivelaw03.ScalarReduces", spec := "scalarReduces", inPlace := ["math/bits.Add64", "math/bits.Sub64"], unfollowed := true, recurses := true, apart := false }
def ScalarReducesSaid : Prop := scalarReducesRow.holds Try.pinned (OpenSpec.ofChange scalarReducesSpec)

/-- ITS FALSE NEIGHBOUR: 'it returns false'. Refute it at one input. -/
def scalarReducesWrong : ChangeSpec := { name := "scalarReduces", fn := fun _ => fun
  | [d] => { results := [.lit (.bool false)], args := [d] }
  | _ => none }
def ScalarReducesWrongFalsely : Prop := scalarReducesRow.holds Try.pinned (OpenSpec.ofChange scalarReducesWrong)

/-- 'missivelaw03.ScalarKnown': WHATEVER THE INPUT: true; the input reads as it did. -/
def scalarKnownSpec : ChangeSpec := { name := "scalarKnown", fn := fun _ => fun
  | [] => { results := [.lit (.bool true)], args := [] }
  | _ => none }
def scalarKnownRow : OpenClaim := { program := "ytdcphhcgogmaoaa", sum := "716e2ef059bc2c4c71694eac264eb2fcae426466ea99bf9926176fa544c2867f", func := "missive/missivelaw03.ScalarKnown", spec := "scalarKnown", inPlace := ["math/bits.Add64", "math/bits.Sub64"], unfollowed := true, recurses := true, apart := false }
def ScalarKnownSaid : Prop := scalarKnownRow.holds Try.pinned (OpenSpec.ofChange scalarKnownSpec)

/-- ITS FALSE NEIGHBOUR: 'it returns false'. Refute it at one input. -/
def scalarKnownWrong : ChangeSpec := { name := "scalarKnown", fn := fun _ => fun
  | [] => { results := [.lit (.bool false)], args := [] }
  | _ => none }
def ScalarKnownWrongFalsely : Prop := scalarKnownRow.holds Try.pinned (OpenSpec.ofChange scalarKnownWrong)

/- THE SECOND FORM. 'bulk': how many values and letters a reading holds, each counted each time it is reached (what is shared counts as often as it is met; a slice's spare places count too). A statement '..UptoSaid' is the law's where the arguments, and the package variables that the reading takes, are together of bulk at most 1048576: NARROWER than '..Said'. Prove '..Said' where nothing that the law and all that it calls make is longer than what came in: it says more and counts as full. Else prove '..UptoSaid'. A law counts once. -/
mutual
def uptoBulk {H : Type} : DataW H → Nat
  | .lit (.string bytes) => bytes.length + 1
  | .lit _ => 1
  | .nil => 1
  | .ptr d => uptoBulk d + 1
  | .slice elems spare => uptoBulkAll elems + uptoBulkAll spare + 1
  | .agg parts => uptoBulkAll parts + 1
  | .iface _ d => uptoBulk d + 1
  | .map entries => uptoBulkEntries entries + 1
  | .held _ => 1
def uptoBulkAll {H : Type} : List (DataW H) → Nat
  | [] => 0
  | d :: r => uptoBulk d + uptoBulkAll r
def uptoBulkEntries {H : Type} : List (Lit × DataW H) → Nat
  | [] => 0
  | x :: r => uptoBulkEntry x + uptoBulkEntries r
def uptoBulkEntry {H : Type} : Lit × DataW H → Nat
  | (.string bytes, d) => bytes.length + uptoBulk d + 1
  | (_, d) => uptoBulk d + 1
 end
def uptoSmall : (H : Type) → List (DataW H) → Bool := fun _ ds => decide (uptoBulkAll ds ≤ 1048576)
def OpenSpec.upto (s : _root_.Go.ChangeSpec) : _root_.Go.OpenSpec := { _root_.Go.OpenSpec.ofChange s with cond := some uptoSmall }

/-- 'missivelaw03.ScalarAdds', WHERE WHAT IT READS IS OF BULK AT MOST 1048576: true; the input reads as it did. -/
def scalarAddsUptoRow : OpenClaim := { program := "ytdcphhcgogmaoaa", sum := "716e2ef059bc2c4c71694eac264eb2fcae426466ea99bf9926176fa544c2867f", func := "missive/missivelaw03.ScalarAdds", spec := "scalarAdds", inPlace := ["math/bits.Add64", "math/bits.Sub64"], unfollowed := true, recurses := true, apart := false, narrowed := true }
def ScalarAddsUptoSaid : Prop := scalarAddsUptoRow.holds Try.pinned (OpenSpec.upto scalarAddsSpec)

/-- 'missivelaw03.ScalarMuls', WHERE WHAT IT READS IS OF BULK AT MOST 1048576: true; the input reads as it did. -/
def scalarMulsUptoRow : OpenClaim := { program := "ytdcphhcgogmaoaa", sum := "716e2ef059bc2c4c71694eac264eb2fcae426466ea99bf9926176fa544c2867f", func := "missive/missivelaw03.ScalarMuls", spec := "scalarMuls", inPlace := ["math/bits.Add64", "math/bits.Sub64"], unfollowed := true, recurses := true, apart := false, narrowed := true }
def ScalarMulsUptoSaid : Prop := scalarMulsUptoRow.holds Try.pinned (OpenSpec.upto scalarMulsSpec)

/-- 'missivelaw03.ScalarRing', WHERE WHAT IT READS IS OF BULK AT MOST 1048576: true; the input reads as it did. -/
def scalarRingUptoRow : OpenClaim := { program := "ytdcphhcgogmaoaa", sum := "716e2ef059bc2c4c71694eac264eb2fcae426466ea99bf9926176fa544c2867f", func := "missive/missivelaw03.ScalarRing", spec := "scalarRing", inPlace := ["math/bits.Add64", "math/bits.Sub64"], unfollowed := true, recurses := true, apart := false, narrowed := true }
def ScalarRingUptoSaid : Prop := scalarRingUptoRow.holds Try.pinned (OpenSpec.upto scalarRingSpec)

/-- 'missivelaw03.ScalarParts', WHERE WHAT IT READS IS OF BULK AT MOST 1048576: true; the input reads as it did. -/
def scalarPartsUptoRow : OpenClaim := { program := "ytdcphhcgogmaoaa", sum := "716e2ef059bc2c4c71694eac264eb2fcae426466ea99bf9926176fa544c2867f", func := "missive/missivelaw03.ScalarParts", spec := "scalarParts", inPlace := ["math/bits.Add64", "math/bits.Sub64"], unfollowed := true, recurses := true, apart := false, narrowed := true }
def ScalarPartsUptoSaid : Prop := scalarPartsUptoRow.holds Try.pinned (OpenSpec.upto scalarPartsSpec)

/-- 'missivelaw03.ScalarLess', WHERE WHAT IT READS IS OF BULK AT MOST 1048576: true; the input reads as it did. -/
def scalarLessUptoRow : OpenClaim := { program := "ytdcphhcgogmaoaa", sum := "716e2ef059bc2c4c71694eac264eb2fcae426466ea99bf9926176fa544c2867f", func := "missive/missivelaw03.ScalarLess", spec := "scalarLess", inPlace := ["math/bits.Add64", "math/bits.Sub64"], unfollowed := true, recurses := true, apart := false, narrowed := true }
def ScalarLessUptoSaid : Prop := scalarLessUptoRow.holds Try.pinned (OpenSpec.upto scalarLessSpec)

/-- 'missivelaw03.ScalarReduces', WHERE WHAT IT READS IS OF BULK AT MOST 1048576: true; the input reads as it did. -/
def scalarReducesUptoRow : OpenClaim := { program := "ytdcphhcgogmaoaa", sum := "716e2ef059bc2c4c71694eac264eb2fcae426466ea99bf9926176fa544c2867f", func := "missive/missivelaw03.ScalarReduces", spec := "scalarReduces", inPlace := ["math/bits.Add64", "math/bits.Sub64"], unfollowed := true, recurses := true, apart := false, narrowed := true }
def ScalarReducesUptoSaid : Prop := scalarReducesUptoRow.holds Try.pinned (OpenSpec.upto scalarReducesSpec)

/-- 'missivelaw03.ScalarKnown', WHERE WHAT IT READS IS OF BULK AT MOST 1048576: true; the input reads as it did. -/
def scalarKnownUptoRow : OpenClaim := { program := "ytdcphhcgogmaoaa", sum := "716e2ef059bc2c4c71694eac264eb2fcae426466ea99bf9926176fa544c2867f", func := "missive/missivelaw03.ScalarKnown", spec := "scalarKnown", inPlace := ["math/bits.Add64", "math/bits.Sub64"], unfollowed := true, recurses := true, apart := false, narrowed := true }
def ScalarKnownUptoSaid : Prop := scalarKnownUptoRow.holds Try.pinned (OpenSpec.upto scalarKnownSpec)

end Rows
end Go.Proofs.Ytdcphhcgogmaoaa
