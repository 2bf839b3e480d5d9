/-
  No cell of these rows narrows 'for every input' (looked for: loops, veiled, ifaces, maps, wideKeys, modest, calm, conditions, laid).
  DERIVED. THE GIVEN ROWS OF THIS SEAT. 7 by the template 'for every input the law returns true; each argument reads behind the call as it read before'; 0 by the template 'total and deterministic' (their statements: YtdmcjomcbhdcbaaTotals.lean).
  GIVEN WITH THE SEED: the statements are not yours to turn. If you find one false, say at which input.
  Laid BY PROGRAM, IN A SANDBOX (cutbox-rows.mjs): the forced cells as the released guide's own fill.sh prints them over the translation a30e9251b1a68e34… (all of the seat's roots in one cut). By AI agents, Wed Nov 11 2026. No macro, syntax, notation, axiom, sorry.
-/
import Derived.Test.YtdmcjomcbhdcbaaChecked
import GoSem.Claim
import GoSem.ClaimJoined
import GoSem.ClaimMapViews
import Derived.JoinedTies
import Derived.KernelRfl
namespace Go.Proofs.Ytdmcjomcbhdcbaa
/- THE CELL 'sum', in the pinned program and in every row, IS THE sha256 OF THE DUMP (.gsa) THAT YtdmcjomcbhdcbaaProg.lean LOADS. Nothing in Lean hashes anything: it is a label: what it is worth is what the hold of that sum in a sandbox is worth. -/
noncomputable def Try.pinned : Pinned := { name := "ytdmcjomcbhdcbaa", sum := "a30e9251b1a68e34d49511759afe45553e053ff53a4a87b506da9d32ad30a414", checked := Try.checked }
namespace Rows
def none {H : Type} : Left H := { results := [], args := [] }

/-- 'cairnlaw12.WoundOwn': WHATEVER THE INPUT: true; the input reads as it did. -/
def woundOwnSpec : ChangeSpec := { name := "woundOwn", fn := fun _ => fun
  | [d1, d2, d3] => { results := [.lit (.bool true)], args := [d1, d2, d3] }
  | _ => none }
def woundOwnRow : OpenClaim := { program := "ytdmcjomcbhdcbaa", sum := "a30e9251b1a68e34d49511759afe45553e053ff53a4a87b506da9d32ad30a414", func := "cairn/cairnlaw12.WoundOwn", spec := "woundOwn", unfollowed := true, recurses := true, apart := false }
def WoundOwnSaid : Prop := woundOwnRow.holds Try.pinned (OpenSpec.ofChange woundOwnSpec)

/-- ITS FALSE NEIGHBOUR: 'it returns false'. Refute it at one input. -/
def woundOwnWrong : ChangeSpec := { name := "woundOwn", fn := fun _ => fun
  | [d1, d2, d3] => { results := [.lit (.bool false)], args := [d1, d2, d3] }
  | _ => none }
def WoundOwnWrongFalsely : Prop := woundOwnRow.holds Try.pinned (OpenSpec.ofChange woundOwnWrong)

/-- 'cairnlaw12.WoundNil': WHATEVER THE INPUT: true; the input reads as it did. -/
def woundNilSpec : ChangeSpec := { name := "woundNil", fn := fun _ => fun
  | [] => { results := [.lit (.bool true)], args := [] }
  | _ => none }
def woundNilRow : OpenClaim := { program := "ytdmcjomcbhdcbaa", sum := "a30e9251b1a68e34d49511759afe45553e053ff53a4a87b506da9d32ad30a414", func := "cairn/cairnlaw12.WoundNil", spec := "woundNil", inPlace := ["maps.clone"], unfollowed := true, recurses := true, apart := false }
def WoundNilSaid : Prop := woundNilRow.holds Try.pinned (OpenSpec.ofChange woundNilSpec)

/-- ITS FALSE NEIGHBOUR: 'it returns false'. Refute it at one input. -/
def woundNilWrong : ChangeSpec := { name := "woundNil", fn := fun _ => fun
  | [] => { results := [.lit (.bool false)], args := [] }
  | _ => none }
def WoundNilWrongFalsely : Prop := woundNilRow.holds Try.pinned (OpenSpec.ofChange woundNilWrong)

/-- 'cairnlaw12.WoundGoes': WHATEVER THE INPUT: true; the input reads as it did. -/
def woundGoesSpec : ChangeSpec := { name := "woundGoes", fn := fun _ => fun
  | [d1, d2] => { results := [.lit (.bool true)], args := [d1, d2] }
  | _ => none }
def woundGoesRow : OpenClaim := { program := "ytdmcjomcbhdcbaa", sum := "a30e9251b1a68e34d49511759afe45553e053ff53a4a87b506da9d32ad30a414", func := "cairn/cairnlaw12.WoundGoes", spec := "woundGoes", inPlace := ["maps.clone"], unfollowed := true, recurses := true, apart := false }
def WoundGoesSaid : Prop := woundGoesRow.holds Try.pinned (OpenSpec.ofChange woundGoesSpec)

/-- ITS FALSE NEIGHBOUR: 'it returns false'. Refute it at one input. -/
def woundGoesWrong : ChangeSpec := { name := "woundGoes", fn := fun _ => fun
  | [d1, d2] => { results := [.lit (.bool false)], args := [d1, d2] }
  | _ => none }
def WoundGoesWrongFalsely : Prop := woundGoesRow.holds Try.pinned (OpenSpec.ofChange woundGoesWrong)

/-- 'cairnlaw12.WoundPlain': WHATEVER THE INPUT: true; the input reads as it did. -/
def woundPlainSpec : ChangeSpec := { name := "woundPlain", fn := fun _ => fun
  | [d1, d2] => { results := [.lit (.bool true)], args := [d1, d2] }
  | _ => none }
def woundPlainRow : OpenClaim := { program := "ytdmcjomcbhdcbaa", sum := "a30e9251b1a68e34d49511759afe45553e053ff53a4a87b506da9d32ad30a414", func := "cairn/cairnlaw12.WoundPlain", spec := "woundPlain", inPlace := ["maps.clone"], unfollowed := true, recurses := true, apart := false }
def WoundPlainSaid : Prop := woundPlainRow.holds Try.pinned (OpenSpec.ofChange woundPlainSpec)

/-- ITS FALSE NEIGHBOUR: 'it returns false'. Refute it at one input. -/
def woundPlainWrong : ChangeSpec := { name := "woundPlain", fn := fun _ => fun
  | [d1, d2] => { results := [.lit (.bool false)], args := [d1, d2] }
  | _ => none }
def WoundPlainWrongFalsely : Prop := woundPlainRow.holds Try.pinned (OpenSpec.ofChange woundPlainWrong)

/-- 'cairnlaw12.WoundFuse': WHATEVER THE INPUT: true; the input reads as it did. -/
def woundFuseSpec : ChangeSpec := { name := "woundFuse", fn := fun _ => fun
  | [d] => { results := [.lit (.bool true)], args := [d] }
  | _ => none }
def woundFuseRow : OpenClaim := { program := "ytdmcjomcbhdcbaa", sum := "a30e9251b1a68e34d49511759afe45553e053ff53a4a87b506da9d32ad30a414", func := "cairn/cairnlaw12.WoundFuse", spec := "woundFuse", inPlace := ["maps.clone"], unfollowed := true, recurses := true, apart := false }
def WoundFuseSaid : Prop := woundFuseRow.holds Try.pinned (OpenSpec.ofChange woundFuseSpec)

/-- ITS FALSE NEIGHBOUR: 'it returns false'. Refute it at one input. -/
def woundFuseWrong : ChangeSpec := { name := "woundFuse", fn := fun _ => fun
  | [d] => { results := [.lit (.bool false)], args := [d] }
  | _ => none }
def WoundFuseWrongFalsely : Prop := woundFuseRow.holds Try.pinned (OpenSpec.ofChange woundFuseWrong)

/-- 'cairnlaw12.WoundReasons': WHATEVER THE INPUT: true; the input reads as it did. -/
def woundReasonsSpec : ChangeSpec := { name := "woundReasons", fn := fun _ => fun
  | [d1, d2] => { results := [.lit (.bool true)], args := [d1, d2] }
  | _ => none }
def woundReasonsRow : OpenClaim := { program := "ytdmcjomcbhdcbaa", sum := "a30e9251b1a68e34d49511759afe45553e053ff53a4a87b506da9d32ad30a414", func := "cairn/cairnlaw12.WoundReasons", spec := "woundReasons", inPlace := ["maps.clone"], unfollowed := true, recurses := true, apart := false }
def WoundReasonsSaid : Prop := woundReasonsRow.holds Try.pinned (OpenSpec.ofChange woundReasonsSpec)

/-- ITS FALSE NEIGHBOUR: 'it returns false'. Refute it at one input. -/
def woundReasonsWrong : ChangeSpec := { name := "woundReasons", fn := fun _ => fun
  | [d1, d2] => { results := [.lit (.bool false)], args := [d1, d2] }
  | _ => none }
def WoundReasonsWrongFalsely : Prop := woundReasonsRow.holds Try.pinned (OpenSpec.ofChange woundReasonsWrong)

/-- 'cairnlaw12.WoundApart': WHATEVER THE INPUT: true; the input reads as it did. -/
def woundApartSpec : ChangeSpec := { name := "woundApart", fn := fun _ => fun
  | [d] => { results := [.lit (.bool true)], args := [d] }
  | _ => none }
def woundApartRow : OpenClaim := { program := "ytdmcjomcbhdcbaa", sum := "a30e9251b1a68e34d49511759afe45553e053ff53a4a87b506da9d32ad30a414", func := "cairn/cairnlaw12.WoundApart", spec := "woundApart", inPlace := ["maps.clone"], unfollowed := true, recurses := true, apart := false }
def WoundApartSaid : Prop := woundApartRow.holds Try.pinned (OpenSpec.ofChange woundApartSpec)

/-- ITS FALSE NEIGHBOUR: 'it returns false'. Refute it at one input. -/
def woundApartWrong : ChangeSpec := { name := "woundApart", fn := fun _ => fun
  | [d] => { results := [.lit (.bool false)], args := [d] }
  | _ => none }
def WoundApartWrongFalsely : Prop := woundApartRow.holds Try.pinned (OpenSpec.ofChange woundApartWrong)

/- THE SECOND FORM. 'bulk': how many values and letters a reading holds, each counted each time it is reached (what is shared counts as often as it is met; a slice's spare places count too). A statement '..UptoSaid' is the law's where the arguments, and the package variables that the reading takes, are together of bulk at most 1048576: NARROWER than '..Said'. Prove '..Said' where nothing that the law and all that it calls make is longer than what came in: it says more and counts as full. Else prove '..UptoSaid'. A law counts once. -/
mutual
def uptoBulk {H : Type} : DataW H → Nat
  | .lit (.string bytes) => bytes.length + 1
  | .lit _ => 1
  | .nil => 1
  | .ptr d => uptoBulk d + 1
  | .slice elems spare => uptoBulkAll elems + uptoBulkAll spare + 1
  | .agg parts => uptoBulkAll parts + 1
  | .iface _ d => uptoBulk d + 1
  | .map entries => uptoBulkEntries entries + 1
  | .held _ => 1
def uptoBulkAll {H : Type} : List (DataW H) → Nat
  | [] => 0
  | d :: r => uptoBulk d + uptoBulkAll r
def uptoBulkEntries {H : Type} : List (Lit × DataW H) → Nat
  | [] => 0
  | x :: r => uptoBulkEntry x + uptoBulkEntries r
def uptoBulkEntry {H : Type} : Lit × DataW H → Nat
  | (.string bytes, d) => bytes.length + uptoBulk d + 1
  | (_, d) => uptoBulk d + 1
 end
def uptoSmall : (H : Type) → List (DataW H) → Bool := fun _ ds => decide (uptoBulkAll ds ≤ 1048576)
def OpenSpec.upto (s : _root_.Go.ChangeSpec) : _root_.Go.OpenSpec := { _root_.Go.OpenSpec.ofChange s with cond := some uptoSmall }

/-- 'cairnlaw12.WoundOwn', WHERE WHAT IT READS IS OF BULK AT MOST 1048576: true; the input reads as it did. -/
def woundOwnUptoRow : OpenClaim := { program := "ytdmcjomcbhdcbaa", sum := "a30e9251b1a68e34d49511759afe45553e053ff53a4a87b506da9d32ad30a414", func := "cairn/cairnlaw12.WoundOwn", spec := "woundOwn", unfollowed := true, recurses := true, apart := false, narrowed := true }
def WoundOwnUptoSaid : Prop := woundOwnUptoRow.holds Try.pinned (OpenSpec.upto woundOwnSpec)

/-- 'cairnlaw12.WoundNil', WHERE WHAT IT READS IS OF BULK AT MOST 1048576: true; the input reads as it did. -/
def woundNilUptoRow : OpenClaim := { program := "ytdmcjomcbhdcbaa", sum := "a30e9251b1a68e34d49511759afe45553e053ff53a4a87b506da9d32ad30a414", func := "cairn/cairnlaw12.WoundNil", spec := "woundNil", inPlace := ["maps.clone"], unfollowed := true, recurses := true, apart := false, narrowed := true }
def WoundNilUptoSaid : Prop := woundNilUptoRow.holds Try.pinned (OpenSpec.upto woundNilSpec)

/-- 'cairnlaw12.WoundGoes', WHERE WHAT IT READS IS OF BULK AT MOST 1048576: true; the input reads as it did. -/
def woundGoesUptoRow : OpenClaim := { program := "ytdmcjomcbhdcbaa", sum := "a30e9251b1a68e34d49511759afe45553e053ff53a4a87b506da9d32ad30a414", func := "cairn/cairnlaw12.WoundGoes", spec := "woundGoes", inPlace := ["maps.clone"], unfollowed := true, recurses := true, apart := false, narrowed := true }
def WoundGoesUptoSaid : Prop := woundGoesUptoRow.holds Try.pinned (OpenSpec.upto woundGoesSpec)

/-- 'cairnlaw12.WoundPlain', WHERE WHAT IT READS IS OF BULK AT MOST 1048576: true; the input reads as it did. -/
def woundPlainUptoRow : OpenClaim := { program := "ytdmcjomcbhdcbaa", sum := "a30e9251b1a68e34d49511759afe45553e053ff53a4a87b506da9d32ad30a414", func := "cairn/cairnlaw12.WoundPlain", spec := "woundPlain", inPlace := ["maps.clone"], unfollowed := true, recurses := true, apart := false, narrowed := true }
def WoundPlainUptoSaid : Prop := woundPlainUptoRow.holds Try.pinned (OpenSpec.upto woundPlainSpec)

/-- 'cairnlaw12.WoundFuse', WHERE WHAT IT READS IS OF BULK AT MOST 1048576: true; the input reads as it did. -/
def woundFuseUptoRow : OpenClaim := { program := "ytdmcjomcbhdcbaa", sum := "a30e9251b1a68e34d49511759afe45553e053ff53a4a87b506da9d32ad30a414", func := "cairn/cairnlaw12.WoundFuse", spec := "woundFuse", inPlace := ["maps.clone"], unfollowed := true, recurses := true, apart := false, narrowed := true }
def WoundFuseUptoSaid : Prop := woundFuseUptoRow.holds Try.pinned (OpenSpec.upto woundFuseSpec)

/-- 'cairnlaw12.WoundReasons', WHERE WHAT IT READS IS OF BULK AT MOST 1048576: true; the input reads as it did. -/
def woundReasonsUptoRow : OpenClaim := { program := "ytdmcjomcbhdcbaa", sum := "a30e9251b1a68e34d49511759afe45553e053ff53a4a87b506da9d32ad30a414", func := "cairn/cairnlaw12.WoundReasons", spec := "woundReasons", inPlace := ["maps.clone"], unfollowed := true, recurses := true, apart := false, narrowed := true }
def WoundReasonsUptoSaid : Prop := woundReasonsUptoRow.holds Try.pinned (OpenSpec.upto woundReasonsSpec)

/-- 'cairnlaw12.WoundApart', WHERE WHAT IT READS IS OF BULK AT MOST 1048576: true; the input reads as it did. -/
def woundApartUptoRow : OpenClaim := { program := "ytdmcjomcbhdcbaa", sum := "a30e9251b1a68e34d49511759afe45553e053ff53a4a87b506da9d32ad30a414", func := "cairn/cairnlaw12.WoundApart", spec := "woundApart", inPlace := ["maps.clone"], unfollowed := true, recurses := true, apart := false, narrowed := true }
def WoundApartUptoSaid : Prop := woundApartUptoRow.holds Try.pinned (OpenSpec.upto woundApartSpec)

end Rows
end Go.Proofs.Ytdmcjomcbhdcbaa
