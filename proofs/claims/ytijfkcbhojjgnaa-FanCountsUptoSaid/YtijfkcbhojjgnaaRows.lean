/-
  No cell of these rows narrows 'for every input' (looked for: loops, veiled, ifaces, maps, wideKeys, modest, calm, conditions, laid).
  DERIVED. THE GIVEN ROWS OF THIS SEAT. 7 by the template 'for every input the law returns true; each argument reads behind the call as it read before'; 0 by the template 'total and deterministic' (their statements: YtijfkcbhojjgnaaTotals.lean).
  GIVEN WITH THE SEED: the statements are not yours to turn. If you find one false, say at which input.
  Laid BY PROGRAM, IN A SANDBOX (cutbox-rows.mjs): the forced cells as the released guide's own fill.sh prints them over the translation 5817913b74085507… (all of the seat's roots in one cut). By AI agents, Wed Nov 11 2026. No macro, syntax, notation, axiom, sorry.
-/
import Derived.Test.YtijfkcbhojjgnaaChecked
import GoSem.Claim
import GoSem.ClaimJoined
import GoSem.ClaimMapViews
import Derived.JoinedTies
import Derived.KernelRfl
namespace Go.Proofs.Ytijfkcbhojjgnaa
/- THE CELL 'sum', in the pinned program and in every row, IS THE sha256 OF THE DUMP (.gsa) THAT YtijfkcbhojjgnaaProg.lean LOADS. Nothing in Lean hashes anything: it is a label: what it is worth is what the hold of that sum in a sandbox is worth. -/
noncomputable def Try.pinned : Pinned := { name := "ytijfkcbhojjgnaa", sum := "5817913b74085507391297bda1fd6b715d81b0aeba54fe69df36dddf6f076f1e", checked := Try.checked }
namespace Rows
def none {H : Type} : Left H := { results := [], args := [] }

/-- 'cairnlaw13.AtomicNames': WHATEVER THE INPUT: true; the input reads as it did. -/
def atomicNamesSpec : ChangeSpec := { name := "atomicNames", fn := fun _ => fun
  | [] => { results := [.lit (.bool true)], args := [] }
  | _ => none }
def atomicNamesRow : OpenClaim := { program := "ytijfkcbhojjgnaa", sum := "5817913b74085507391297bda1fd6b715d81b0aeba54fe69df36dddf6f076f1e", func := "cairn/cairnlaw13.AtomicNames", spec := "atomicNames", apart := false }
def AtomicNamesSaid : Prop := atomicNamesRow.holds Try.pinned (OpenSpec.ofChange atomicNamesSpec)

/-- ITS FALSE NEIGHBOUR: 'it returns false'. Refute it at one input. -/
def atomicNamesWrong : ChangeSpec := { name := "atomicNames", fn := fun _ => fun
  | [] => { results := [.lit (.bool false)], args := [] }
  | _ => none }
def AtomicNamesWrongFalsely : Prop := atomicNamesRow.holds Try.pinned (OpenSpec.ofChange atomicNamesWrong)

/-- 'cairnlaw16.FanNames': WHATEVER THE INPUT: true; the input reads as it did. -/
def fanNamesSpec : ChangeSpec := { name := "fanNames", fn := fun _ => fun
  | [] => { results := [.lit (.bool true)], args := [] }
  | _ => none }
def fanNamesRow : OpenClaim := { program := "ytijfkcbhojjgnaa", sum := "5817913b74085507391297bda1fd6b715d81b0aeba54fe69df36dddf6f076f1e", func := "cairn/cairnlaw16.FanNames", spec := "fanNames", apart := false }
def FanNamesSaid : Prop := fanNamesRow.holds Try.pinned (OpenSpec.ofChange fanNamesSpec)

/-- ITS FALSE NEIGHBOUR: 'it returns false'. Refute it at one input. -/
def fanNamesWrong : ChangeSpec := { name := "fanNames", fn := fun _ => fun
  | [] => { results := [.lit (.bool false)], args := [] }
  | _ => none }
def FanNamesWrongFalsely : Prop := fanNamesRow.holds Try.pinned (OpenSpec.ofChange fanNamesWrong)

/-- 'cairnlaw22.ListingNames': WHATEVER THE INPUT: true; the input reads as it did. -/
def listingNamesSpec : ChangeSpec := { name := "listingNames", fn := fun _ => fun
  | [] => { results := [.lit (.bool true)], args := [] }
  | _ => none }
def listingNamesRow : OpenClaim := { program := "ytijfkcbhojjgnaa", sum := "5817913b74085507391297bda1fd6b715d81b0aeba54fe69df36dddf6f076f1e", func := "cairn/cairnlaw22.ListingNames", spec := "listingNames", apart := false }
def ListingNamesSaid : Prop := listingNamesRow.holds Try.pinned (OpenSpec.ofChange listingNamesSpec)

/-- ITS FALSE NEIGHBOUR: 'it returns false'. Refute it at one input. -/
def listingNamesWrong : ChangeSpec := { name := "listingNames", fn := fun _ => fun
  | [] => { results := [.lit (.bool false)], args := [] }
  | _ => none }
def ListingNamesWrongFalsely : Prop := listingNamesRow.holds Try.pinned (OpenSpec.ofChange listingNamesWrong)

/-- 'cairnlaw16.FanCounts': WHATEVER THE INPUT: true; the input reads as it did. -/
def fanCountsSpec : ChangeSpec := { name := "fanCounts", fn := fun _ => fun
  | [d1, d2] => { results := [.lit (.bool true)], args := [d1, d2] }
  | _ => none }
def fanCountsRow : OpenClaim := { program := "ytijfkcbhojjgnaa", sum := "5817913b74085507391297bda1fd6b715d81b0aeba54fe69df36dddf6f076f1e", func := "cairn/cairnlaw16.FanCounts", spec := "fanCounts", apart := false }
def FanCountsSaid : Prop := fanCountsRow.holds Try.pinned (OpenSpec.ofChange fanCountsSpec)

/-- ITS FALSE NEIGHBOUR: 'it returns false'. Refute it at one input. -/
def fanCountsWrong : ChangeSpec := { name := "fanCounts", fn := fun _ => fun
  | [d1, d2] => { results := [.lit (.bool false)], args := [d1, d2] }
  | _ => none }
def FanCountsWrongFalsely : Prop := fanCountsRow.holds Try.pinned (OpenSpec.ofChange fanCountsWrong)

/-- 'cairnlaw16.FanFloats': WHATEVER THE INPUT: true; the input reads as it did. -/
def fanFloatsSpec : ChangeSpec := { name := "fanFloats", fn := fun _ => fun
  | [d1, d2] => { results := [.lit (.bool true)], args := [d1, d2] }
  | _ => none }
def fanFloatsRow : OpenClaim := { program := "ytijfkcbhojjgnaa", sum := "5817913b74085507391297bda1fd6b715d81b0aeba54fe69df36dddf6f076f1e", func := "cairn/cairnlaw16.FanFloats", spec := "fanFloats", apart := false }
def FanFloatsSaid : Prop := fanFloatsRow.holds Try.pinned (OpenSpec.ofChange fanFloatsSpec)

/-- ITS FALSE NEIGHBOUR: 'it returns false'. Refute it at one input. -/
def fanFloatsWrong : ChangeSpec := { name := "fanFloats", fn := fun _ => fun
  | [d1, d2] => { results := [.lit (.bool false)], args := [d1, d2] }
  | _ => none }
def FanFloatsWrongFalsely : Prop := fanFloatsRow.holds Try.pinned (OpenSpec.ofChange fanFloatsWrong)

/-- 'cairnlaw22.ListingMerges': WHATEVER THE INPUT: true; the input reads as it did. -/
def listingMergesSpec : ChangeSpec := { name := "listingMerges", fn := fun _ => fun
  | [d1, d2, d3, d4] => { results := [.lit (.bool true)], args := [d1, d2, d3, d4] }
  | _ => none }
def listingMergesRow : OpenClaim := { program := "ytijfkcbhojjgnaa", sum := "5817913b74085507391297bda1fd6b715d81b0aeba54fe69df36dddf6f076f1e", func := "cairn/cairnlaw22.ListingMerges", spec := "listingMerges", unfollowed := true, recurses := true, leaving := true, apart := false }
def ListingMergesSaid : Prop := listingMergesRow.holds Try.pinned (OpenSpec.ofChange listingMergesSpec)

/-- ITS FALSE NEIGHBOUR: 'it returns false'. Refute it at one input. -/
def listingMergesWrong : ChangeSpec := { name := "listingMerges", fn := fun _ => fun
  | [d1, d2, d3, d4] => { results := [.lit (.bool false)], args := [d1, d2, d3, d4] }
  | _ => none }
def ListingMergesWrongFalsely : Prop := listingMergesRow.holds Try.pinned (OpenSpec.ofChange listingMergesWrong)

/-- 'cairnlaw22.ListingTexts': WHATEVER THE INPUT: true; the input reads as it did. -/
def listingTextsSpec : ChangeSpec := { name := "listingTexts", fn := fun _ => fun
  | [d1, d2] => { results := [.lit (.bool true)], args := [d1, d2] }
  | _ => none }
def listingTextsRow : OpenClaim := { program := "ytijfkcbhojjgnaa", sum := "5817913b74085507391297bda1fd6b715d81b0aeba54fe69df36dddf6f076f1e", func := "cairn/cairnlaw22.ListingTexts", spec := "listingTexts", unfollowed := true, recurses := true, leaving := true, apart := false }
def ListingTextsSaid : Prop := listingTextsRow.holds Try.pinned (OpenSpec.ofChange listingTextsSpec)

/-- ITS FALSE NEIGHBOUR: 'it returns false'. Refute it at one input. -/
def listingTextsWrong : ChangeSpec := { name := "listingTexts", fn := fun _ => fun
  | [d1, d2] => { results := [.lit (.bool false)], args := [d1, d2] }
  | _ => none }
def ListingTextsWrongFalsely : Prop := listingTextsRow.holds Try.pinned (OpenSpec.ofChange listingTextsWrong)

/- THE SECOND FORM. 'bulk': how many values and letters a reading holds, each counted each time it is reached (what is shared counts as often as it is met; a slice's spare places count too). A statement '..UptoSaid' is the law's where the arguments, and the package variables that the reading takes, are together of bulk at most 1048576: NARROWER than '..Said'. Prove '..Said' where nothing that the law and all that it calls make is longer than what came in: it says more and counts as full. Else prove '..UptoSaid'. A law counts once. -/
mutual
def uptoBulk {H : Type} : DataW H → Nat
  | .lit (.string bytes) => bytes.length + 1
  | .lit _ => 1
  | .nil => 1
  | .ptr d => uptoBulk d + 1
  | .slice elems spare => uptoBulkAll elems + uptoBulkAll spare + 1
  | .agg parts => uptoBulkAll parts + 1
  | .iface _ d => uptoBulk d + 1
  | .map entries => uptoBulkEntries entries + 1
  | .held _ => 1
def uptoBulkAll {H : Type} : List (DataW H) → Nat
  | [] => 0
  | d :: r => uptoBulk d + uptoBulkAll r
def uptoBulkEntries {H : Type} : List (Lit × DataW H) → Nat
  | [] => 0
  | x :: r => uptoBulkEntry x + uptoBulkEntries r
def uptoBulkEntry {H : Type} : Lit × DataW H → Nat
  | (.string bytes, d) => bytes.length + uptoBulk d + 1
  | (_, d) => uptoBulk d + 1
 end
def uptoSmall : (H : Type) → List (DataW H) → Bool := fun _ ds => decide (uptoBulkAll ds ≤ 1048576)
def OpenSpec.upto (s : _root_.Go.ChangeSpec) : _root_.Go.OpenSpec := { _root_.Go.OpenSpec.ofChange s with cond := some uptoSmall }

/-- 'cairnlaw13.AtomicNames', WHERE WHAT IT READS IS OF BULK AT MOST 1048576: true; the input reads as it did. -/
def atomicNamesUptoRow : OpenClaim := { program := "ytijfkcbhojjgnaa", sum := "5817913b74085507391297bda1fd6b715d81b0aeba54fe69df36dddf6f076f1e", func := "cairn/cairnlaw13.AtomicNames", spec := "atomicNames", apart := false, narrowed := true }
def AtomicNamesUptoSaid : Prop := atomicNamesUptoRow.holds Try.pinned (OpenSpec.upto atomicNamesSpec)

/-- 'cairnlaw16.FanNames', WHERE WHAT IT READS IS OF BULK AT MOST 1048576: true; the input reads as it did. -/
def fanNamesUptoRow : OpenClaim := { program := "ytijfkcbhojjgnaa", sum := "5817913b74085507391297bda1fd6b715d81b0aeba54fe69df36dddf6f076f1e", func := "cairn/cairnlaw16.FanNames", spec := "fanNames", apart := false, narrowed := true }
def FanNamesUptoSaid : Prop := fanNamesUptoRow.holds Try.pinned (OpenSpec.upto fanNamesSpec)

/-- 'cairnlaw22.ListingNames', WHERE WHAT IT READS IS OF BULK AT MOST 1048576: true; the input reads as it did. -/
def listingNamesUptoRow : OpenClaim := { program := "ytijfkcbhojjgnaa", sum := "5817913b74085507391297bda1fd6b715d81b0aeba54fe69df36dddf6f076f1e", func := "cairn/cairnlaw22.ListingNames", spec := "listingNames", apart := false, narrowed := true }
def ListingNamesUptoSaid : Prop := listingNamesUptoRow.holds Try.pinned (OpenSpec.upto listingNamesSpec)

/-- 'cairnlaw16.FanCounts', WHERE WHAT IT READS IS OF BULK AT MOST 1048576: true; the input reads as it did. -/
def fanCountsUptoRow : OpenClaim := { program := "ytijfkcbhojjgnaa", sum := "5817913b74085507391297bda1fd6b715d81b0aeba54fe69df36dddf6f076f1e", func := "cairn/cairnlaw16.FanCounts", spec := "fanCounts", apart := false, narrowed := true }
def FanCountsUptoSaid : Prop := fanCountsUptoRow.holds Try.pinned (OpenSpec.upto fanCountsSpec)

/-- 'cairnlaw16.FanFloats', WHERE WHAT IT READS IS OF BULK AT MOST 1048576: true; the input reads as it did. -/
def fanFloatsUptoRow : OpenClaim := { program := "ytijfkcbhojjgnaa", sum := "5817913b74085507391297bda1fd6b715d81b0aeba54fe69df36dddf6f076f1e", func := "cairn/cairnlaw16.FanFloats", spec := "fanFloats", apart := false, narrowed := true }
def FanFloatsUptoSaid : Prop := fanFloatsUptoRow.holds Try.pinned (OpenSpec.upto fanFloatsSpec)

/-- 'cairnlaw22.ListingMerges', WHERE WHAT IT READS IS OF BULK AT MOST 1048576: true; the input reads as it did. -/
def listingMergesUptoRow : OpenClaim := { program := "ytijfkcbhojjgnaa", sum := "5817913b74085507391297bda1fd6b715d81b0aeba54fe69df36dddf6f076f1e", func := "cairn/cairnlaw22.ListingMerges", spec := "listingMerges", unfollowed := true, recurses := true, leaving := true, apart := false, narrowed := true }
def ListingMergesUptoSaid : Prop := listingMergesUptoRow.holds Try.pinned (OpenSpec.upto listingMergesSpec)

/-- 'cairnlaw22.ListingTexts', WHERE WHAT IT READS IS OF BULK AT MOST 1048576: true; the input reads as it did. -/
def listingTextsUptoRow : OpenClaim := { program := "ytijfkcbhojjgnaa", sum := "5817913b74085507391297bda1fd6b715d81b0aeba54fe69df36dddf6f076f1e", func := "cairn/cairnlaw22.ListingTexts", spec := "listingTexts", unfollowed := true, recurses := true, leaving := true, apart := false, narrowed := true }
def ListingTextsUptoSaid : Prop := listingTextsUptoRow.holds Try.pinned (OpenSpec.upto listingTextsSpec)

end Rows
end Go.Proofs.Ytijfkcbhojjgnaa
