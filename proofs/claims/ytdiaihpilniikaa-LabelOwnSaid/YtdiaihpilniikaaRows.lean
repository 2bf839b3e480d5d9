/-
  No cell of these rows narrows 'for every input' (looked for: loops, veiled, ifaces, maps, wideKeys, modest, calm, conditions, laid).
  DERIVED. THE GIVEN ROWS OF THIS SEAT. 7 by the template 'for every input the law returns true; each argument reads behind the call as it read before'; 0 by the template 'total and deterministic' (their statements: YtdiaihpilniikaaTotals.lean).
  GIVEN WITH THE SEED: the statements are not yours to turn. If you find one false, say at which input.
  Laid BY PROGRAM, IN A SANDBOX (cutbox-rows.mjs): the forced cells as the released guide's own fill.sh prints them over the translation 1391b742b490f508… (all of the seat's roots in one cut). By AI agents, Wed Nov 11 2026. No macro, syntax, notation, axiom, sorry.
-/
import Derived.Test.YtdiaihpilniikaaChecked
import GoSem.Claim
import GoSem.ClaimJoined
import GoSem.ClaimMapViews
import Derived.JoinedTies
import Derived.KernelRfl
namespace Go.Proofs.Ytdiaihpilniikaa
/- THE CELL 'sum', in the pinned program and in every row, IS THE sha256 OF THE DUMP (.gsa) THAT YtdiaihpilniikaaProg.lean LOADS. Nothing in Lean hashes anything: it is a label: what it is worth is what the hold of that sum in a sandbox is worth. -/
noncomputable def Try.pinned : Pinned := { name := "ytdiaihpilniikaa", sum := "1391b742b490f508efd48417d9f26e52abbb348ff71f4948398f2ca273e8270c", checked := Try.checked }
namespace Rows
def none {H : Type} : Left H := { results := [], args := [] }

/-- 'cairnlaw15.LabelNumbers': WHATEVER THE INPUT: true; the input reads as it did. -/
def labelNumbersSpec : ChangeSpec := { name := "labelNumbers", fn := fun _ => fun
  | [] => { results := [.lit (.bool true)], args := [] }
  | _ => none }
def labelNumbersRow : OpenClaim := { program := "ytdiaihpilniikaa", sum := "1391b742b490f508efd48417d9f26e52abbb348ff71f4948398f2ca273e8270c", func := "cairn/cairnlaw15.LabelNumbers", spec := "labelNumbers", unfollowed := true, recurses := true, apart := false }
def LabelNumbersSaid : Prop := labelNumbersRow.holds Try.pinned (OpenSpec.ofChange labelNumbersSpec)

/-- ITS FALSE NEIGHBOUR: 'it returns false'. Refute it at one input. -/
def labelNumbersWrong : ChangeSpec := { name := "labelNumbers", fn := fun _ => fun
  | [] => { results := [.lit (.bool false)], args := [] }
  | _ => none }
def LabelNumbersWrongFalsely : Prop := labelNumbersRow.holds Try.pinned (OpenSpec.ofChange labelNumbersWrong)

/-- 'cairnlaw15.LabelEncodes': WHATEVER THE INPUT: true; the input reads as it did. -/
def labelEncodesSpec : ChangeSpec := { name := "labelEncodes", fn := fun _ => fun
  | [d] => { results := [.lit (.bool true)], args := [d] }
  | _ => none }
def labelEncodesRow : OpenClaim := { program := "ytdiaihpilniikaa", sum := "1391b742b490f508efd48417d9f26e52abbb348ff71f4948398f2ca273e8270c", func := "cairn/cairnlaw15.LabelEncodes", spec := "labelEncodes", unfollowed := true, recurses := true, apart := false }
def LabelEncodesSaid : Prop := labelEncodesRow.holds Try.pinned (OpenSpec.ofChange labelEncodesSpec)

/-- ITS FALSE NEIGHBOUR: 'it returns false'. Refute it at one input. -/
def labelEncodesWrong : ChangeSpec := { name := "labelEncodes", fn := fun _ => fun
  | [d] => { results := [.lit (.bool false)], args := [d] }
  | _ => none }
def LabelEncodesWrongFalsely : Prop := labelEncodesRow.holds Try.pinned (OpenSpec.ofChange labelEncodesWrong)

/-- 'cairnlaw15.LabelParses': WHATEVER THE INPUT: true; the input reads as it did. -/
def labelParsesSpec : ChangeSpec := { name := "labelParses", fn := fun _ => fun
  | [d] => { results := [.lit (.bool true)], args := [d] }
  | _ => none }
def labelParsesRow : OpenClaim := { program := "ytdiaihpilniikaa", sum := "1391b742b490f508efd48417d9f26e52abbb348ff71f4948398f2ca273e8270c", func := "cairn/cairnlaw15.LabelParses", spec := "labelParses", unfollowed := true, recurses := true, apart := false }
def LabelParsesSaid : Prop := labelParsesRow.holds Try.pinned (OpenSpec.ofChange labelParsesSpec)

/-- ITS FALSE NEIGHBOUR: 'it returns false'. Refute it at one input. -/
def labelParsesWrong : ChangeSpec := { name := "labelParses", fn := fun _ => fun
  | [d] => { results := [.lit (.bool false)], args := [d] }
  | _ => none }
def LabelParsesWrongFalsely : Prop := labelParsesRow.holds Try.pinned (OpenSpec.ofChange labelParsesWrong)

/-- 'cairnlaw15.LabelBack': WHATEVER THE INPUT: true; the input reads as it did. -/
def labelBackSpec : ChangeSpec := { name := "labelBack", fn := fun _ => fun
  | [d] => { results := [.lit (.bool true)], args := [d] }
  | _ => none }
def labelBackRow : OpenClaim := { program := "ytdiaihpilniikaa", sum := "1391b742b490f508efd48417d9f26e52abbb348ff71f4948398f2ca273e8270c", func := "cairn/cairnlaw15.LabelBack", spec := "labelBack", unfollowed := true, recurses := true, apart := false }
def LabelBackSaid : Prop := labelBackRow.holds Try.pinned (OpenSpec.ofChange labelBackSpec)

/-- ITS FALSE NEIGHBOUR: 'it returns false'. Refute it at one input. -/
def labelBackWrong : ChangeSpec := { name := "labelBack", fn := fun _ => fun
  | [d] => { results := [.lit (.bool false)], args := [d] }
  | _ => none }
def LabelBackWrongFalsely : Prop := labelBackRow.holds Try.pinned (OpenSpec.ofChange labelBackWrong)

/-- 'cairnlaw15.LabelOne': WHATEVER THE INPUT: true; the input reads as it did. -/
def labelOneSpec : ChangeSpec := { name := "labelOne", fn := fun _ => fun
  | [d] => { results := [.lit (.bool true)], args := [d] }
  | _ => none }
def labelOneRow : OpenClaim := { program := "ytdiaihpilniikaa", sum := "1391b742b490f508efd48417d9f26e52abbb348ff71f4948398f2ca273e8270c", func := "cairn/cairnlaw15.LabelOne", spec := "labelOne", unfollowed := true, recurses := true, apart := false }
def LabelOneSaid : Prop := labelOneRow.holds Try.pinned (OpenSpec.ofChange labelOneSpec)

/-- ITS FALSE NEIGHBOUR: 'it returns false'. Refute it at one input. -/
def labelOneWrong : ChangeSpec := { name := "labelOne", fn := fun _ => fun
  | [d] => { results := [.lit (.bool false)], args := [d] }
  | _ => none }
def LabelOneWrongFalsely : Prop := labelOneRow.holds Try.pinned (OpenSpec.ofChange labelOneWrong)

/-- 'cairnlaw15.LabelOwn': WHATEVER THE INPUT: true; the input reads as it did. -/
def labelOwnSpec : ChangeSpec := { name := "labelOwn", fn := fun _ => fun
  | [d1, d2] => { results := [.lit (.bool true)], args := [d1, d2] }
  | _ => none }
def labelOwnRow : OpenClaim := { program := "ytdiaihpilniikaa", sum := "1391b742b490f508efd48417d9f26e52abbb348ff71f4948398f2ca273e8270c", func := "cairn/cairnlaw15.LabelOwn", spec := "labelOwn", unfollowed := true, recurses := true, apart := false }
def LabelOwnSaid : Prop := labelOwnRow.holds Try.pinned (OpenSpec.ofChange labelOwnSpec)

/-- ITS FALSE NEIGHBOUR: 'it returns false'. Refute it at one input. -/
def labelOwnWrong : ChangeSpec := { name := "labelOwn", fn := fun _ => fun
  | [d1, d2] => { results := [.lit (.bool false)], args := [d1, d2] }
  | _ => none }
def LabelOwnWrongFalsely : Prop := labelOwnRow.holds Try.pinned (OpenSpec.ofChange labelOwnWrong)

/-- 'cairnlaw15.LabelTold': WHATEVER THE INPUT: true; the input reads as it did. -/
def labelToldSpec : ChangeSpec := { name := "labelTold", fn := fun _ => fun
  | [d1, d2, d3] => { results := [.lit (.bool true)], args := [d1, d2, d3] }
  | _ => none }
def labelToldRow : OpenClaim := { program := "ytdiaihpilniikaa", sum := "1391b742b490f508efd48417d9f26e52abbb348ff71f4948398f2ca273e8270c", func := "cairn/cairnlaw15.LabelTold", spec := "labelTold", unfollowed := true, recurses := true, apart := false }
def LabelToldSaid : Prop := labelToldRow.holds Try.pinned (OpenSpec.ofChange labelToldSpec)

/-- ITS FALSE NEIGHBOUR: 'it returns false'. Refute it at one input. -/
def labelToldWrong : ChangeSpec := { name := "labelTold", fn := fun _ => fun
  | [d1, d2, d3] => { results := [.lit (.bool false)], args := [d1, d2, d3] }
  | _ => none }
def LabelToldWrongFalsely : Prop := labelToldRow.holds Try.pinned (OpenSpec.ofChange labelToldWrong)

/- THE SECOND FORM. 'bulk': how many values and letters a reading holds, each counted each time it is reached (what is shared counts as often as it is met; a slice's spare places count too). A statement '..UptoSaid' is the law's where the arguments, and the package variables that the reading takes, are together of bulk at most 1048576: NARROWER than '..Said'. Prove '..Said' where nothing that the law and all that it calls make is longer than what came in: it says more and counts as full. Else prove '..UptoSaid'. A law counts once. -/
mutual
def uptoBulk {H : Type} : DataW H → Nat
  | .lit (.string bytes) => bytes.length + 1
  | .lit _ => 1
  | .nil => 1
  | .ptr d => uptoBulk d + 1
  | .slice elems spare => uptoBulkAll elems + uptoBulkAll spare + 1
  | .agg parts => uptoBulkAll parts + 1
  | .iface _ d => uptoBulk d + 1
  | .map entries => uptoBulkEntries entries + 1
  | .held _ => 1
def uptoBulkAll {H : Type} : List (DataW H) → Nat
  | [] => 0
  | d :: r => uptoBulk d + uptoBulkAll r
def uptoBulkEntries {H : Type} : List (Lit × DataW H) → Nat
  | [] => 0
  | x :: r => uptoBulkEntry x + uptoBulkEntries r
def uptoBulkEntry {H : Type} : Lit × DataW H → Nat
  | (.string bytes, d) => bytes.length + uptoBulk d + 1
  | (_, d) => uptoBulk d + 1
 end
def uptoSmall : (H : Type) → List (DataW H) → Bool := fun _ ds => decide (uptoBulkAll ds ≤ 1048576)
def OpenSpec.upto (s : _root_.Go.ChangeSpec) : _root_.Go.OpenSpec := { _root_.Go.OpenSpec.ofChange s with cond := some uptoSmall }

/-- 'cairnlaw15.LabelNumbers', WHERE WHAT IT READS IS OF BULK AT MOST 1048576: true; the input reads as it did. -/
def labelNumbersUptoRow : OpenClaim := { program := "ytdiaihpilniikaa", sum := "1391b742b490f508efd48417d9f26e52abbb348ff71f4948398f2ca273e8270c", func := "cairn/cairnlaw15.LabelNumbers", spec := "labelNumbers", unfollowed := true, recurses := true, apart := false, narrowed := true }
def LabelNumbersUptoSaid : Prop := labelNumbersUptoRow.holds Try.pinned (OpenSpec.upto labelNumbersSpec)

/-- 'cairnlaw15.LabelEncodes', WHERE WHAT IT READS IS OF BULK AT MOST 1048576: true; the input reads as it did. -/
def labelEncodesUptoRow : OpenClaim := { program := "ytdiaihpilniikaa", sum := "1391b742b490f508efd48417d9f26e52abbb348ff71f4948398f2ca273e8270c", func := "cairn/cairnlaw15.LabelEncodes", spec := "labelEncodes", unfollowed := true, recurses := true, apart := false, narrowed := true }
def LabelEncodesUptoSaid : Prop := labelEncodesUptoRow.holds Try.pinned (OpenSpec.upto labelEncodesSpec)

/-- 'cairnlaw15.LabelParses', WHERE WHAT IT READS IS OF BULK AT MOST 1048576: true; the input reads as it did. -/
def labelParsesUptoRow : OpenClaim := { program := "ytdiaihpilniikaa", sum := "1391b742b490f508efd48417d9f26e52abbb348ff71f4948398f2ca273e8270c", func := "cairn/cairnlaw15.LabelParses", spec := "labelParses", unfollowed := true, recurses := true, apart := false, narrowed := true }
def LabelParsesUptoSaid : Prop := labelParsesUptoRow.holds Try.pinned (OpenSpec.upto labelParsesSpec)

/-- 'cairnlaw15.LabelBack', WHERE WHAT IT READS IS OF BULK AT MOST 1048576: true; the input reads as it did. -/
def labelBackUptoRow : OpenClaim := { program := "ytdiaihpilniikaa", sum := "1391b742b490f508efd48417d9f26e52abbb348ff71f4948398f2ca273e8270c", func := "cairn/cairnlaw15.LabelBack", spec := "labelBack", unfollowed := true, recurses := true, apart := false, narrowed := true }
def LabelBackUptoSaid : Prop := labelBackUptoRow.holds Try.pinned (OpenSpec.upto labelBackSpec)

/-- 'cairnlaw15.LabelOne', WHERE WHAT IT READS IS OF BULK AT MOST 1048576: true; the input reads as it did. -/
def labelOneUptoRow : OpenClaim := { program := "ytdiaihpilniikaa", sum := "1391b742b490f508efd48417d9f26e52abbb348ff71f4948398f2ca273e8270c", func := "cairn/cairnlaw15.LabelOne", spec := "labelOne", unfollowed := true, recurses := true, apart := false, narrowed := true }
def LabelOneUptoSaid : Prop := labelOneUptoRow.holds Try.pinned (OpenSpec.upto labelOneSpec)

/-- 'cairnlaw15.LabelOwn', WHERE WHAT IT READS IS OF BULK AT MOST 1048576: true; the input reads as it did. -/
def labelOwnUptoRow : OpenClaim := { program := "ytdiaihpilniikaa", sum := "1391b742b490f508efd48417d9f26e52abbb348ff71f4948398f2ca273e8270c", func := "cairn/cairnlaw15.LabelOwn", spec := "labelOwn", unfollowed := true, recurses := true, apart := false, narrowed := true }
def LabelOwnUptoSaid : Prop := labelOwnUptoRow.holds Try.pinned (OpenSpec.upto labelOwnSpec)

/-- 'cairnlaw15.LabelTold', WHERE WHAT IT READS IS OF BULK AT MOST 1048576: true; the input reads as it did. -/
def labelToldUptoRow : OpenClaim := { program := "ytdiaihpilniikaa", sum := "1391b742b490f508efd48417d9f26e52abbb348ff71f4948398f2ca273e8270c", func := "cairn/cairnlaw15.LabelTold", spec := "labelTold", unfollowed := true, recurses := true, apart := false, narrowed := true }
def LabelToldUptoSaid : Prop := labelToldUptoRow.holds Try.pinned (OpenSpec.upto labelToldSpec)

end Rows
end Go.Proofs.Ytdiaihpilniikaa
