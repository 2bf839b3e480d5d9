/-
  No cell of these rows narrows 'for every input' (looked for: loops, veiled, ifaces, maps, wideKeys, modest, calm, conditions, laid).
  DERIVED. THE GIVEN ROWS OF THIS SEAT. 5 by the template 'for every input the law returns true; each argument reads behind the call as it read before'; 0 by the template 'total and deterministic' (their statements: YtdmcjomcbhdcbaaGreatTotals.lean).
  GIVEN WITH THE SEED: the statements are not yours to turn. If you find one false, say at which input.
  Laid BY PROGRAM, IN A SANDBOX (cutbox-rows.mjs): the forced cells as the released guide's own fill.sh prints them over the translation 91586c1f640dd40d… (all of the seat's roots in one cut). By AI agents, Wed Nov 11 2026. No macro, syntax, notation, axiom, sorry.
-/
import Derived.Test.YtdmcjomcbhdcbaaGreatChecked
import GoSem.Claim
import GoSem.ClaimJoined
import GoSem.ClaimMapViews
import Derived.JoinedTies
import Derived.KernelRfl
namespace Go.Proofs.YtdmcjomcbhdcbaaGreat
/- THE CELL 'sum', in the pinned program and in every row, IS THE sha256 OF THE DUMP (.gsa) THAT YtdmcjomcbhdcbaaGreatProg.lean LOADS. Nothing in Lean hashes anything: it is a label: what it is worth is what the hold of that sum in a sandbox is worth. -/
noncomputable def Tryz.pinned : Pinned := { name := "ytdmcjomcbhdcbaagreat", sum := "91586c1f640dd40d8b4ac1d7e5365596316bc0a30b5b321d931292043c5df4ff", checked := Tryz.checked }
namespace Rows
def none {H : Type} : Left H := { results := [], args := [] }

/-- 'cairnlaw13.AtomicTurn': WHATEVER THE INPUT: true; the input reads as it did. -/
def atomicTurnSpec : ChangeSpec := { name := "atomicTurn", fn := fun _ => fun
  | [d1, d2, d3, d4, d5, d6] => { results := [.lit (.bool true)], args := [d1, d2, d3, d4, d5, d6] }
  | _ => none }
def atomicTurnRow : OpenClaim := { program := "ytdmcjomcbhdcbaagreat", sum := "91586c1f640dd40d8b4ac1d7e5365596316bc0a30b5b321d931292043c5df4ff", func := "cairn/cairnlaw13.AtomicTurn", spec := "atomicTurn", unfollowed := true, recurses := true, apart := false }
def AtomicTurnSaid : Prop := atomicTurnRow.holds Tryz.pinned (OpenSpec.ofChange atomicTurnSpec)

/-- ITS FALSE NEIGHBOUR: 'it returns false'. Refute it at one input. -/
def atomicTurnWrong : ChangeSpec := { name := "atomicTurn", fn := fun _ => fun
  | [d1, d2, d3, d4, d5, d6] => { results := [.lit (.bool false)], args := [d1, d2, d3, d4, d5, d6] }
  | _ => none }
def AtomicTurnWrongFalsely : Prop := atomicTurnRow.holds Tryz.pinned (OpenSpec.ofChange atomicTurnWrong)

/-- 'cairnlaw13.AtomicMap': WHATEVER THE INPUT: true; the input reads as it did. -/
def atomicMapSpec : ChangeSpec := { name := "atomicMap", fn := fun _ => fun
  | [d1, d2] => { results := [.lit (.bool true)], args := [d1, d2] }
  | _ => none }
def atomicMapRow : OpenClaim := { program := "ytdmcjomcbhdcbaagreat", sum := "91586c1f640dd40d8b4ac1d7e5365596316bc0a30b5b321d931292043c5df4ff", func := "cairn/cairnlaw13.AtomicMap", spec := "atomicMap", unfollowed := true, recurses := true, apart := false }
def AtomicMapSaid : Prop := atomicMapRow.holds Tryz.pinned (OpenSpec.ofChange atomicMapSpec)

/-- ITS FALSE NEIGHBOUR: 'it returns false'. Refute it at one input. -/
def atomicMapWrong : ChangeSpec := { name := "atomicMap", fn := fun _ => fun
  | [d1, d2] => { results := [.lit (.bool false)], args := [d1, d2] }
  | _ => none }
def AtomicMapWrongFalsely : Prop := atomicMapRow.holds Tryz.pinned (OpenSpec.ofChange atomicMapWrong)

/-- 'cairnlaw13.AtomicAlone': WHATEVER THE INPUT: true; the input reads as it did. -/
def atomicAloneSpec : ChangeSpec := { name := "atomicAlone", fn := fun _ => fun
  | [d1, d2, d3, d4] => { results := [.lit (.bool true)], args := [d1, d2, d3, d4] }
  | _ => none }
def atomicAloneRow : OpenClaim := { program := "ytdmcjomcbhdcbaagreat", sum := "91586c1f640dd40d8b4ac1d7e5365596316bc0a30b5b321d931292043c5df4ff", func := "cairn/cairnlaw13.AtomicAlone", spec := "atomicAlone", unfollowed := true, recurses := true, apart := false }
def AtomicAloneSaid : Prop := atomicAloneRow.holds Tryz.pinned (OpenSpec.ofChange atomicAloneSpec)

/-- ITS FALSE NEIGHBOUR: 'it returns false'. Refute it at one input. -/
def atomicAloneWrong : ChangeSpec := { name := "atomicAlone", fn := fun _ => fun
  | [d1, d2, d3, d4] => { results := [.lit (.bool false)], args := [d1, d2, d3, d4] }
  | _ => none }
def AtomicAloneWrongFalsely : Prop := atomicAloneRow.holds Tryz.pinned (OpenSpec.ofChange atomicAloneWrong)

/-- 'cairnlaw13.AtomicSwept': WHATEVER THE INPUT: true; the input reads as it did. -/
def atomicSweptSpec : ChangeSpec := { name := "atomicSwept", fn := fun _ => fun
  | [d1, d2, d3] => { results := [.lit (.bool true)], args := [d1, d2, d3] }
  | _ => none }
def atomicSweptRow : OpenClaim := { program := "ytdmcjomcbhdcbaagreat", sum := "91586c1f640dd40d8b4ac1d7e5365596316bc0a30b5b321d931292043c5df4ff", func := "cairn/cairnlaw13.AtomicSwept", spec := "atomicSwept", unfollowed := true, recurses := true, apart := false }
def AtomicSweptSaid : Prop := atomicSweptRow.holds Tryz.pinned (OpenSpec.ofChange atomicSweptSpec)

/-- ITS FALSE NEIGHBOUR: 'it returns false'. Refute it at one input. -/
def atomicSweptWrong : ChangeSpec := { name := "atomicSwept", fn := fun _ => fun
  | [d1, d2, d3] => { results := [.lit (.bool false)], args := [d1, d2, d3] }
  | _ => none }
def AtomicSweptWrongFalsely : Prop := atomicSweptRow.holds Tryz.pinned (OpenSpec.ofChange atomicSweptWrong)

/-- 'cairnlaw13.AtomicScripts': WHATEVER THE INPUT: true; the input reads as it did. -/
def atomicScriptsSpec : ChangeSpec := { name := "atomicScripts", fn := fun _ => fun
  | [d1, d2] => { results := [.lit (.bool true)], args := [d1, d2] }
  | _ => none }
def atomicScriptsRow : OpenClaim := { program := "ytdmcjomcbhdcbaagreat", sum := "91586c1f640dd40d8b4ac1d7e5365596316bc0a30b5b321d931292043c5df4ff", func := "cairn/cairnlaw13.AtomicScripts", spec := "atomicScripts", unfollowed := true, recurses := true, apart := false }
def AtomicScriptsSaid : Prop := atomicScriptsRow.holds Tryz.pinned (OpenSpec.ofChange atomicScriptsSpec)

/-- ITS FALSE NEIGHBOUR: 'it returns false'. Refute it at one input. -/
def atomicScriptsWrong : ChangeSpec := { name := "atomicScripts", fn := fun _ => fun
  | [d1, d2] => { results := [.lit (.bool false)], args := [d1, d2] }
  | _ => none }
def AtomicScriptsWrongFalsely : Prop := atomicScriptsRow.holds Tryz.pinned (OpenSpec.ofChange atomicScriptsWrong)

/- THE SECOND FORM. 'bulk': how many values and letters a reading holds, each counted each time it is reached (what is shared counts as often as it is met; a slice's spare places count too). A statement '..UptoSaid' is the law's where the arguments, and the package variables that the reading takes, are together of bulk at most 1048576: NARROWER than '..Said'. Prove '..Said' where nothing that the law and all that it calls make is longer than what came in: it says more and counts as full. Else prove '..UptoSaid'. A law counts once. -/
mutual
def uptoBulk {H : Type} : DataW H → Nat
  | .lit (.string bytes) => bytes.length + 1
  | .lit _ => 1
  | .nil => 1
  | .ptr d => uptoBulk d + 1
  | .slice elems spare => uptoBulkAll elems + uptoBulkAll spare + 1
  | .agg parts => uptoBulkAll parts + 1
  | .iface _ d => uptoBulk d + 1
  | .map entries => uptoBulkEntries entries + 1
  | .held _ => 1
def uptoBulkAll {H : Type} : List (DataW H) → Nat
  | [] => 0
  | d :: r => uptoBulk d + uptoBulkAll r
def uptoBulkEntries {H : Type} : List (Lit × DataW H) → Nat
  | [] => 0
  | x :: r => uptoBulkEntry x + uptoBulkEntries r
def uptoBulkEntry {H : Type} : Lit × DataW H → Nat
  | (.string bytes, d) => bytes.length + uptoBulk d + 1
  | (_, d) => uptoBulk d + 1
 end
def uptoSmall : (H : Type) → List (DataW H) → Bool := fun _ ds => decide (uptoBulkAll ds ≤ 1048576)
def OpenSpec.upto (s : _root_.Go.ChangeSpec) : _root_.Go.OpenSpec := { _root_.Go.OpenSpec.ofChange s with cond := some uptoSmall }

/-- 'cairnlaw13.AtomicTurn', WHERE WHAT IT READS IS OF BULK AT MOST 1048576: true; the input reads as it did. -/
def atomicTurnUptoRow : OpenClaim := { program := "ytdmcjomcbhdcbaagreat", sum := "91586c1f640dd40d8b4ac1d7e5365596316bc0a30b5b321d931292043c5df4ff", func := "cairn/cairnlaw13.AtomicTurn", spec := "atomicTurn", unfollowed := true, recurses := true, apart := false, narrowed := true }
def AtomicTurnUptoSaid : Prop := atomicTurnUptoRow.holds Tryz.pinned (OpenSpec.upto atomicTurnSpec)

/-- 'cairnlaw13.AtomicMap', WHERE WHAT IT READS IS OF BULK AT MOST 1048576: true; the input reads as it did. -/
def atomicMapUptoRow : OpenClaim := { program := "ytdmcjomcbhdcbaagreat", sum := "91586c1f640dd40d8b4ac1d7e5365596316bc0a30b5b321d931292043c5df4ff", func := "cairn/cairnlaw13.AtomicMap", spec := "atomicMap", unfollowed := true, recurses := true, apart := false, narrowed := true }
def AtomicMapUptoSaid : Prop := atomicMapUptoRow.holds Tryz.pinned (OpenSpec.upto atomicMapSpec)

/-- 'cairnlaw13.AtomicAlone', WHERE WHAT IT READS IS OF BULK AT MOST 1048576: true; the input reads as it did. -/
def atomicAloneUptoRow : OpenClaim := { program := "ytdmcjomcbhdcbaagreat", sum := "91586c1f640dd40d8b4ac1d7e5365596316bc0a30b5b321d931292043c5df4ff", func := "cairn/cairnlaw13.AtomicAlone", spec := "atomicAlone", unfollowed := true, recurses := true, apart := false, narrowed := true }
def AtomicAloneUptoSaid : Prop := atomicAloneUptoRow.holds Tryz.pinned (OpenSpec.upto atomicAloneSpec)

/-- 'cairnlaw13.AtomicSwept', WHERE WHAT IT READS IS OF BULK AT MOST 1048576: true; the input reads as it did. -/
def atomicSweptUptoRow : OpenClaim := { program := "ytdmcjomcbhdcbaagreat", sum := "91586c1f640dd40d8b4ac1d7e5365596316bc0a30b5b321d931292043c5df4ff", func := "cairn/cairnlaw13.AtomicSwept", spec := "atomicSwept", unfollowed := true, recurses := true, apart := false, narrowed := true }
def AtomicSweptUptoSaid : Prop := atomicSweptUptoRow.holds Tryz.pinned (OpenSpec.upto atomicSweptSpec)

/-- 'cairnlaw13.AtomicScripts', WHERE WHAT IT READS IS OF BULK AT MOST 1048576: true; the input reads as it did. -/
def atomicScriptsUptoRow : OpenClaim := { program := "ytdmcjomcbhdcbaagreat", sum := "91586c1f640dd40d8b4ac1d7e5365596316bc0a30b5b321d931292043c5df4ff", func := "cairn/cairnlaw13.AtomicScripts", spec := "atomicScripts", unfollowed := true, recurses := true, apart := false, narrowed := true }
def AtomicScriptsUptoSaid : Prop := atomicScriptsUptoRow.holds Tryz.pinned (OpenSpec.upto atomicScriptsSpec)

end Rows
end Go.Proofs.YtdmcjomcbhdcbaaGreat
