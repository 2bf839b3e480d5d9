/-
  No cell of these rows narrows 'for every input' (looked for: loops, veiled, ifaces, maps, wideKeys, modest, calm, conditions, laid).
  DERIVED. THE GIVEN ROWS OF THIS SEAT. 6 by the template 'for every input the law returns true; each argument reads behind the call as it read before'; 0 by the template 'total and deterministic' (their statements: YtcbebefdbdppdaaGreatTotals.lean).
  GIVEN WITH THE SEED: the statements are not yours to turn. If you find one false, say at which input.
  Laid BY PROGRAM, IN A SANDBOX (cutbox-rows.mjs): the forced cells as the released guide's own fill.sh prints them over the translation b698d1ed08103cb5… (all of the seat's roots in one cut). By AI agents, Wed Nov 11 2026. No macro, syntax, notation, axiom, sorry.
-/
import Derived.Test.YtcbebefdbdppdaaGreatChecked
import GoSem.Claim
import GoSem.ClaimJoined
import GoSem.ClaimMapViews
import Derived.JoinedTies
import Derived.KernelRfl
namespace Go.Proofs.YtcbebefdbdppdaaGreat
/- THE CELL 'sum', in the pinned program and in every row, IS THE sha256 OF THE DUMP (.gsa) THAT YtcbebefdbdppdaaGreatProg.lean LOADS. Nothing in Lean hashes anything: it is a label: what it is worth is what the hold of that sum in a sandbox is worth. -/
noncomputable def Tryz.pinned : Pinned := { name := "ytcbebefdbdppdaagreat", sum := "b698d1ed08103cb57431508ce90003c2738bd70c675b17cdea73ddb59fd5314b", checked := Tryz.checked }
namespace Rows
def none {H : Type} : Left H := { results := [], args := [] }

/-- 'cairnlaw14.BaySpoilt': WHATEVER THE INPUT: true; the input reads as it did. -/
def baySpoiltSpec : ChangeSpec := { name := "baySpoilt", fn := fun _ => fun
  | [d1, d2, d3] => { results := [.lit (.bool true)], args := [d1, d2, d3] }
  | _ => none }
def baySpoiltRow : OpenClaim := { program := "ytcbebefdbdppdaagreat", sum := "b698d1ed08103cb57431508ce90003c2738bd70c675b17cdea73ddb59fd5314b", func := "cairn/cairnlaw14.BaySpoilt", spec := "baySpoilt", unfollowed := true, recurses := true, apart := false }
def BaySpoiltSaid : Prop := baySpoiltRow.holds Tryz.pinned (OpenSpec.ofChange baySpoiltSpec)

/-- ITS FALSE NEIGHBOUR: 'it returns false'. Refute it at one input. -/
def baySpoiltWrong : ChangeSpec := { name := "baySpoilt", fn := fun _ => fun
  | [d1, d2, d3] => { results := [.lit (.bool false)], args := [d1, d2, d3] }
  | _ => none }
def BaySpoiltWrongFalsely : Prop := baySpoiltRow.holds Tryz.pinned (OpenSpec.ofChange baySpoiltWrong)

/-- 'cairnlaw14.BayWalks': WHATEVER THE INPUT: true; the input reads as it did. -/
def bayWalksSpec : ChangeSpec := { name := "bayWalks", fn := fun _ => fun
  | [d1, d2, d3] => { results := [.lit (.bool true)], args := [d1, d2, d3] }
  | _ => none }
def bayWalksRow : OpenClaim := { program := "ytcbebefdbdppdaagreat", sum := "b698d1ed08103cb57431508ce90003c2738bd70c675b17cdea73ddb59fd5314b", func := "cairn/cairnlaw14.BayWalks", spec := "bayWalks", unfollowed := true, recurses := true, apart := false }
def BayWalksSaid : Prop := bayWalksRow.holds Tryz.pinned (OpenSpec.ofChange bayWalksSpec)

/-- ITS FALSE NEIGHBOUR: 'it returns false'. Refute it at one input. -/
def bayWalksWrong : ChangeSpec := { name := "bayWalks", fn := fun _ => fun
  | [d1, d2, d3] => { results := [.lit (.bool false)], args := [d1, d2, d3] }
  | _ => none }
def BayWalksWrongFalsely : Prop := bayWalksRow.holds Tryz.pinned (OpenSpec.ofChange bayWalksWrong)

/-- 'cairnlaw14.BayKeeps': WHATEVER THE INPUT: true; the input reads as it did. -/
def bayKeepsSpec : ChangeSpec := { name := "bayKeeps", fn := fun _ => fun
  | [d] => { results := [.lit (.bool true)], args := [d] }
  | _ => none }
def bayKeepsRow : OpenClaim := { program := "ytcbebefdbdppdaagreat", sum := "b698d1ed08103cb57431508ce90003c2738bd70c675b17cdea73ddb59fd5314b", func := "cairn/cairnlaw14.BayKeeps", spec := "bayKeeps", unfollowed := true, recurses := true, apart := false }
def BayKeepsSaid : Prop := bayKeepsRow.holds Tryz.pinned (OpenSpec.ofChange bayKeepsSpec)

/-- ITS FALSE NEIGHBOUR: 'it returns false'. Refute it at one input. -/
def bayKeepsWrong : ChangeSpec := { name := "bayKeeps", fn := fun _ => fun
  | [d] => { results := [.lit (.bool false)], args := [d] }
  | _ => none }
def BayKeepsWrongFalsely : Prop := bayKeepsRow.holds Tryz.pinned (OpenSpec.ofChange bayKeepsWrong)

/-- 'cairnlaw14.BayOwn': WHATEVER THE INPUT: true; the input reads as it did. -/
def bayOwnSpec : ChangeSpec := { name := "bayOwn", fn := fun _ => fun
  | [d1, d2, d3] => { results := [.lit (.bool true)], args := [d1, d2, d3] }
  | _ => none }
def bayOwnRow : OpenClaim := { program := "ytcbebefdbdppdaagreat", sum := "b698d1ed08103cb57431508ce90003c2738bd70c675b17cdea73ddb59fd5314b", func := "cairn/cairnlaw14.BayOwn", spec := "bayOwn", unfollowed := true, recurses := true, apart := false }
def BayOwnSaid : Prop := bayOwnRow.holds Tryz.pinned (OpenSpec.ofChange bayOwnSpec)

/-- ITS FALSE NEIGHBOUR: 'it returns false'. Refute it at one input. -/
def bayOwnWrong : ChangeSpec := { name := "bayOwn", fn := fun _ => fun
  | [d1, d2, d3] => { results := [.lit (.bool false)], args := [d1, d2, d3] }
  | _ => none }
def BayOwnWrongFalsely : Prop := bayOwnRow.holds Tryz.pinned (OpenSpec.ofChange bayOwnWrong)

/-- 'cairnlaw14.BayScripts': WHATEVER THE INPUT: true; the input reads as it did. -/
def bayScriptsSpec : ChangeSpec := { name := "bayScripts", fn := fun _ => fun
  | [d1, d2] => { results := [.lit (.bool true)], args := [d1, d2] }
  | _ => none }
def bayScriptsRow : OpenClaim := { program := "ytcbebefdbdppdaagreat", sum := "b698d1ed08103cb57431508ce90003c2738bd70c675b17cdea73ddb59fd5314b", func := "cairn/cairnlaw14.BayScripts", spec := "bayScripts", unfollowed := true, recurses := true, apart := false }
def BayScriptsSaid : Prop := bayScriptsRow.holds Tryz.pinned (OpenSpec.ofChange bayScriptsSpec)

/-- ITS FALSE NEIGHBOUR: 'it returns false'. Refute it at one input. -/
def bayScriptsWrong : ChangeSpec := { name := "bayScripts", fn := fun _ => fun
  | [d1, d2] => { results := [.lit (.bool false)], args := [d1, d2] }
  | _ => none }
def BayScriptsWrongFalsely : Prop := bayScriptsRow.holds Tryz.pinned (OpenSpec.ofChange bayScriptsWrong)

/-- 'cairnlaw14.BayWhole': WHATEVER THE INPUT: true; the input reads as it did. -/
def bayWholeSpec : ChangeSpec := { name := "bayWhole", fn := fun _ => fun
  | [d1, d2] => { results := [.lit (.bool true)], args := [d1, d2] }
  | _ => none }
def bayWholeRow : OpenClaim := { program := "ytcbebefdbdppdaagreat", sum := "b698d1ed08103cb57431508ce90003c2738bd70c675b17cdea73ddb59fd5314b", func := "cairn/cairnlaw14.BayWhole", spec := "bayWhole", unfollowed := true, recurses := true, apart := false }
def BayWholeSaid : Prop := bayWholeRow.holds Tryz.pinned (OpenSpec.ofChange bayWholeSpec)

/-- ITS FALSE NEIGHBOUR: 'it returns false'. Refute it at one input. -/
def bayWholeWrong : ChangeSpec := { name := "bayWhole", fn := fun _ => fun
  | [d1, d2] => { results := [.lit (.bool false)], args := [d1, d2] }
  | _ => none }
def BayWholeWrongFalsely : Prop := bayWholeRow.holds Tryz.pinned (OpenSpec.ofChange bayWholeWrong)

/- THE SECOND FORM. 'bulk': how many values and letters a reading holds, each counted each time it is reached (what is shared counts as often as it is met; a slice's spare places count too). A statement '..UptoSaid' is the law's where the arguments, and the package variables that the reading takes, are together of bulk at most 1048576: NARROWER than '..Said'. Prove '..Said' where nothing that the law and all that it calls make is longer than what came in: it says more and counts as full. Else prove '..UptoSaid'. A law counts once. -/
mutual
def uptoBulk {H : Type} : DataW H → Nat
  | .lit (.string bytes) => bytes.length + 1
  | .lit _ => 1
  | .nil => 1
  | .ptr d => uptoBulk d + 1
  | .slice elems spare => uptoBulkAll elems + uptoBulkAll spare + 1
  | .agg parts => uptoBulkAll parts + 1
  | .iface _ d => uptoBulk d + 1
  | .map entries => uptoBulkEntries entries + 1
  | .held _ => 1
def uptoBulkAll {H : Type} : List (DataW H) → Nat
  | [] => 0
  | d :: r => uptoBulk d + uptoBulkAll r
def uptoBulkEntries {H : Type} : List (Lit × DataW H) → Nat
  | [] => 0
  | x :: r => uptoBulkEntry x + uptoBulkEntries r
def uptoBulkEntry {H : Type} : Lit × DataW H → Nat
  | (.string bytes, d) => bytes.length + uptoBulk d + 1
  | (_, d) => uptoBulk d + 1
 end
def uptoSmall : (H : Type) → List (DataW H) → Bool := fun _ ds => decide (uptoBulkAll ds ≤ 1048576)
def OpenSpec.upto (s : _root_.Go.ChangeSpec) : _root_.Go.OpenSpec := { _root_.Go.OpenSpec.ofChange s with cond := some uptoSmall }

/-- 'cairnlaw14.BaySpoilt', WHERE WHAT IT READS IS OF BULK AT MOST 1048576: true; the input reads as it did. -/
def baySpoiltUptoRow : OpenClaim := { program := "ytcbebefdbdppdaagreat", sum := "b698d1ed08103cb57431508ce90003c2738bd70c675b17cdea73ddb59fd5314b", func := "cairn/cairnlaw14.BaySpoilt", spec := "baySpoilt", unfollowed := true, recurses := true, apart := false, narrowed := true }
def BaySpoiltUptoSaid : Prop := baySpoiltUptoRow.holds Tryz.pinned (OpenSpec.upto baySpoiltSpec)

/-- 'cairnlaw14.BayWalks', WHERE WHAT IT READS IS OF BULK AT MOST 1048576: true; the input reads as it did. -/
def bayWalksUptoRow : OpenClaim := { program := "ytcbebefdbdppdaagreat", sum := "b698d1ed08103cb57431508ce90003c2738bd70c675b17cdea73ddb59fd5314b", func := "cairn/cairnlaw14.BayWalks", spec := "bayWalks", unfollowed := true, recurses := true, apart := false, narrowed := true }
def BayWalksUptoSaid : Prop := bayWalksUptoRow.holds Tryz.pinned (OpenSpec.upto bayWalksSpec)

/-- 'cairnlaw14.BayKeeps', WHERE WHAT IT READS IS OF BULK AT MOST 1048576: true; the input reads as it did. -/
def bayKeepsUptoRow : OpenClaim := { program := "ytcbebefdbdppdaagreat", sum := "b698d1ed08103cb57431508ce90003c2738bd70c675b17cdea73ddb59fd5314b", func := "cairn/cairnlaw14.BayKeeps", spec := "bayKeeps", unfollowed := true, recurses := true, apart := false, narrowed := true }
def BayKeepsUptoSaid : Prop := bayKeepsUptoRow.holds Tryz.pinned (OpenSpec.upto bayKeepsSpec)

/-- 'cairnlaw14.BayOwn', WHERE WHAT IT READS IS OF BULK AT MOST 1048576: true; the input reads as it did. -/
def bayOwnUptoRow : OpenClaim := { program := "ytcbebefdbdppdaagreat", sum := "b698d1ed08103cb57431508ce90003c2738bd70c675b17cdea73ddb59fd5314b", func := "cairn/cairnlaw14.BayOwn", spec := "bayOwn", unfollowed := true, recurses := true, apart := false, narrowed := true }
def BayOwnUptoSaid : Prop := bayOwnUptoRow.holds Tryz.pinned (OpenSpec.upto bayOwnSpec)

/-- 'cairnlaw14.BayScripts', WHERE WHAT IT READS IS OF BULK AT MOST 1048576: true; the input reads as it did. -/
def bayScriptsUptoRow : OpenClaim := { program := "ytcbebefdbdppdaagreat", sum := "b698d1ed08103cb57431508ce90003c2738bd70c675b17cdea73ddb59fd5314b", func := "cairn/cairnlaw14.BayScripts", spec := "bayScripts", unfollowed := true, recurses := true, apart := false, narrowed := true }
def BayScriptsUptoSaid : Prop := bayScriptsUptoRow.holds Tryz.pinned (OpenSpec.upto bayScriptsSpec)

/-- 'cairnlaw14.BayWhole', WHERE WHAT IT READS IS OF BULK AT MOST 1048576: true; the input reads as it did. -/
def bayWholeUptoRow : OpenClaim := { program := "ytcbebefdbdppdaagreat", sum := "b698d1ed08103cb57431508ce90003c2738bd70c675b17cdea73ddb59fd5314b", func := "cairn/cairnlaw14.BayWhole", spec := "bayWhole", unfollowed := true, recurses := true, apart := false, narrowed := true }
def BayWholeUptoSaid : Prop := bayWholeUptoRow.holds Tryz.pinned (OpenSpec.upto bayWholeSpec)

end Rows
end Go.Proofs.YtcbebefdbdppdaaGreat
