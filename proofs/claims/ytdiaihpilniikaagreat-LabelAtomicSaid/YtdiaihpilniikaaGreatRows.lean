/-
  No cell of these rows narrows 'for every input' (looked for: loops, veiled, ifaces, maps, wideKeys, modest, calm, conditions, laid).
  DERIVED. THE GIVEN ROWS OF THIS SEAT. 3 by the template 'for every input the law returns true; each argument reads behind the call as it read before'; 0 by the template 'total and deterministic' (their statements: YtdiaihpilniikaaGreatTotals.lean).
  GIVEN WITH THE SEED: the statements are not yours to turn. If you find one false, say at which input.
  Laid BY PROGRAM, IN A SANDBOX (cutbox-rows.mjs): the forced cells as the released guide's own fill.sh prints them over the translation 588e08068bc4c0f6… (all of the seat's roots in one cut). By AI agents, Wed Nov 11 2026. No macro, syntax, notation, axiom, sorry.
-/
import Derived.Test.YtdiaihpilniikaaGreatChecked
import GoSem.Claim
import GoSem.ClaimJoined
import GoSem.ClaimMapViews
import Derived.JoinedTies
import Derived.KernelRfl
namespace Go.Proofs.YtdiaihpilniikaaGreat
/- THE CELL 'sum', in the pinned program and in every row, IS THE sha256 OF THE DUMP (.gsa) THAT YtdiaihpilniikaaGreatProg.lean LOADS. Nothing in Lean hashes anything: it is a label: what it is worth is what the hold of that sum in a sandbox is worth. -/
noncomputable def Tryz.pinned : Pinned := { name := "ytdiaihpilniikaagreat", sum := "588e08068bc4c0f6230ae200f56f338fa7afd06e7717386457afd5c4756ac93a", checked := Tryz.checked }
namespace Rows
def none {H : Type} : Left H := { results := [], args := [] }

/-- 'cairnlaw15.LabelReads': WHATEVER THE INPUT: true; the input reads as it did. -/
def labelReadsSpec : ChangeSpec := { name := "labelReads", fn := fun _ => fun
  | [d] => { results := [.lit (.bool true)], args := [d] }
  | _ => none }
def labelReadsRow : OpenClaim := { program := "ytdiaihpilniikaagreat", sum := "588e08068bc4c0f6230ae200f56f338fa7afd06e7717386457afd5c4756ac93a", func := "cairn/cairnlaw15.LabelReads", spec := "labelReads", unfollowed := true, recurses := true, apart := false }
def LabelReadsSaid : Prop := labelReadsRow.holds Tryz.pinned (OpenSpec.ofChange labelReadsSpec)

/-- ITS FALSE NEIGHBOUR: 'it returns false'. Refute it at one input. -/
def labelReadsWrong : ChangeSpec := { name := "labelReads", fn := fun _ => fun
  | [d] => { results := [.lit (.bool false)], args := [d] }
  | _ => none }
def LabelReadsWrongFalsely : Prop := labelReadsRow.holds Tryz.pinned (OpenSpec.ofChange labelReadsWrong)

/-- 'cairnlaw15.LabelWrites': WHATEVER THE INPUT: true; the input reads as it did. -/
def labelWritesSpec : ChangeSpec := { name := "labelWrites", fn := fun _ => fun
  | [d] => { results := [.lit (.bool true)], args := [d] }
  | _ => none }
def labelWritesRow : OpenClaim := { program := "ytdiaihpilniikaagreat", sum := "588e08068bc4c0f6230ae200f56f338fa7afd06e7717386457afd5c4756ac93a", func := "cairn/cairnlaw15.LabelWrites", spec := "labelWrites", unfollowed := true, recurses := true, apart := false }
def LabelWritesSaid : Prop := labelWritesRow.holds Tryz.pinned (OpenSpec.ofChange labelWritesSpec)

/-- ITS FALSE NEIGHBOUR: 'it returns false'. Refute it at one input. -/
def labelWritesWrong : ChangeSpec := { name := "labelWrites", fn := fun _ => fun
  | [d] => { results := [.lit (.bool false)], args := [d] }
  | _ => none }
def LabelWritesWrongFalsely : Prop := labelWritesRow.holds Tryz.pinned (OpenSpec.ofChange labelWritesWrong)

/-- 'cairnlaw15.LabelAtomic': WHATEVER THE INPUT: true; the input reads as it did. -/
def labelAtomicSpec : ChangeSpec := { name := "labelAtomic", fn := fun _ => fun
  | [d] => { results := [.lit (.bool true)], args := [d] }
  | _ => none }
def labelAtomicRow : OpenClaim := { program := "ytdiaihpilniikaagreat", sum := "588e08068bc4c0f6230ae200f56f338fa7afd06e7717386457afd5c4756ac93a", func := "cairn/cairnlaw15.LabelAtomic", spec := "labelAtomic", unfollowed := true, recurses := true, apart := false }
def LabelAtomicSaid : Prop := labelAtomicRow.holds Tryz.pinned (OpenSpec.ofChange labelAtomicSpec)

/-- ITS FALSE NEIGHBOUR: 'it returns false'. Refute it at one input. -/
def labelAtomicWrong : ChangeSpec := { name := "labelAtomic", fn := fun _ => fun
  | [d] => { results := [.lit (.bool false)], args := [d] }
  | _ => none }
def LabelAtomicWrongFalsely : Prop := labelAtomicRow.holds Tryz.pinned (OpenSpec.ofChange labelAtomicWrong)

/- THE SECOND FORM. 'bulk': how many values and letters a reading holds, each counted each time it is reached (what is shared counts as often as it is met; a slice's spare places count too). A statement '..UptoSaid' is the law's where the arguments, and the package variables that the reading takes, are together of bulk at most 1048576: NARROWER than '..Said'. Prove '..Said' where nothing that the law and all that it calls make is longer than what came in: it says more and counts as full. Else prove '..UptoSaid'. A law counts once. -/
mutual
def uptoBulk {H : Type} : DataW H → Nat
  | .lit (.string bytes) => bytes.length + 1
  | .lit _ => 1
  | .nil => 1
  | .ptr d => uptoBulk d + 1
  | .slice elems spare => uptoBulkAll elems + uptoBulkAll spare + 1
  | .agg parts => uptoBulkAll parts + 1
  | .iface _ d => uptoBulk d + 1
  | .map entries => uptoBulkEntries entries + 1
  | .held _ => 1
def uptoBulkAll {H : Type} : List (DataW H) → Nat
  | [] => 0
  | d :: r => uptoBulk d + uptoBulkAll r
def uptoBulkEntries {H : Type} : List (Lit × DataW H) → Nat
  | [] => 0
  | x :: r => uptoBulkEntry x + uptoBulkEntries r
def uptoBulkEntry {H : Type} : Lit × DataW H → Nat
  | (.string bytes, d) => bytes.length + uptoBulk d + 1
  | (_, d) => uptoBulk d + 1
 end
def uptoSmall : (H : Type) → List (DataW H) → Bool := fun _ ds => decide (uptoBulkAll ds ≤ 1048576)
def OpenSpec.upto (s : _root_.Go.ChangeSpec) : _root_.Go.OpenSpec := { _root_.Go.OpenSpec.ofChange s with cond := some uptoSmall }

/-- 'cairnlaw15.LabelReads', WHERE WHAT IT READS IS OF BULK AT MOST 1048576: true; the input reads as it did. -/
def labelReadsUptoRow : OpenClaim := { program := "ytdiaihpilniikaagreat", sum := "588e08068bc4c0f6230ae200f56f338fa7afd06e7717386457afd5c4756ac93a", func := "cairn/cairnlaw15.LabelReads", spec := "labelReads", unfollowed := true, recurses := true, apart := false, narrowed := true }
def LabelReadsUptoSaid : Prop := labelReadsUptoRow.holds Tryz.pinned (OpenSpec.upto labelReadsSpec)

/-- 'cairnlaw15.LabelWrites', WHERE WHAT IT READS IS OF BULK AT MOST 1048576: true; the input reads as it did. -/
def labelWritesUptoRow : OpenClaim := { program := "ytdiaihpilniikaagreat", sum := "588e08068bc4c0f6230ae200f56f338fa7afd06e7717386457afd5c4756ac93a", func := "cairn/cairnlaw15.LabelWrites", spec := "labelWrites", unfollowed := true, recurses := true, apart := false, narrowed := true }
def LabelWritesUptoSaid : Prop := labelWritesUptoRow.holds Tryz.pinned (OpenSpec.upto labelWritesSpec)

/-- 'cairnlaw15.LabelAtomic', WHERE WHAT IT READS IS OF BULK AT MOST 1048576: true; the input reads as it did. -/
def labelAtomicUptoRow : OpenClaim := { program := "ytdiaihpilniikaagreat", sum := "588e08068bc4c0f6230ae200f56f338fa7afd06e7717386457afd5c4756ac93a", func := "cairn/cairnlaw15.LabelAtomic", spec := "labelAtomic", unfollowed := true, recurses := true, apart := false, narrowed := true }
def LabelAtomicUptoSaid : Prop := labelAtomicUptoRow.holds Tryz.pinned (OpenSpec.upto labelAtomicSpec)

end Rows
end Go.Proofs.YtdiaihpilniikaaGreat
