/- A step of the law, in both worlds. (Printed by gen_Sf.py.); Reading and listing, in a world of one drive: what the wound hands out is kept aside.; Steps that read, list, or end a round. (Printed by gen_Sh.py.) -/
import Derived.Test.YtdmcjomcbhdcbaaGreatM35
import Derived.Test.YtdmcjomcbhdcbaaGreatM11
namespace Go.Proofs.YtdmcjomcbhdcbaaGreat
open Go.RowKit Go.Maps

/-- A step; where its slices lie. -/
structure PStp where
  kind : Int
  name : Nm
  data : List UInt8
  act : PAct
structure SLay where
  da : Option Addr
  dc : Nat
  al : ALay
def stepCells (x : PStp) (L : SLay) : Array Value := #[.int .i64 x.kind, .string ⟨x.name.toArray⟩, .slice L.da x.data.length L.dc, .int .i64 x.act.kind, .int .i64 x.act.place, .int .i64 x.act.at_, .int .i64 x.act.n, .slice L.al.da x.act.data.length L.al.dc, .slice L.al.pa x.act.plan.length L.al.pc, .int .i64 x.act.round, .int .i64 x.act.call, .int .i64 x.act.inside, .slice L.al.fa L.al.fn L.al.fc]
/-- What a step tells of its name and its bytes. -/
structure StepIn (w : World) (h : Nat) (Av : Nat → Prop) (x : PStp) (L : SLay) : Prop where
  nm : x.name.length ≤ maxLen
  r : Reads w w.heap.size 1 L.da x.data.length (x.data.map B8)
  a : ∀ ad, L.da = some ad → 0 < x.data.length → ad.block < h ∨ Av ad.block
  al : ∀ ad, L.da = some ad → 0 < x.data.length → ad.block < w.heap.size
  n : x.data.length ≤ 1099511627776
  c : x.data.length ≤ L.dc
/-- What a step leaves. -/
def StepOut (w w' : World) (h dg wg mg q p mq mp : Nat) (Av : Nat → Prop) (k N r : Nat) : Prop :=
  (∃ X S, KeptM X S k N r ∧ World1 w' h Av dg wg mg q p mq mp X S X S) ∧ Touch (fr h Av) w w'

end Go.Proofs.YtdmcjomcbhdcbaaGreat
namespace Go.Proofs.YtdmcjomcbhdcbaaGreat
open Go.RowKit Go.Maps

section
variable {w : World} {h dg wg mg q p mq mp : Nat} {Av : Nat → Prop} {X X' Y : Wnd} {S S' T : Drv} {k N r : Nat}
end
end Go.Proofs.YtdmcjomcbhdcbaaGreat
namespace Go.Proofs.YtdmcjomcbhdcbaaGreat
open Go.RowKit Go.Maps

end Go.Proofs.YtdmcjomcbhdcbaaGreat
