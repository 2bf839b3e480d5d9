/- Acts and steps where there is no drive. (Printed by gen_Sl.py.); A round's end where there is no drive.; A step where there is no drive. (Printed by gen_Sn.py.) -/
import Derived.Test.YtdmcjomcbhdcbaaGreatM37
namespace Go.Proofs.YtdmcjomcbhdcbaaGreat
open Go.RowKit Go.Maps

/-- The rows of a world of one place without a drive. -/
structure Rows0 (w : World) (dg wg mg : Nat) : Prop where
  d : w.cell? ⟨dg, 0, none⟩ = some Value.nilIface
  u : w.cell? ⟨wg, 0, none⟩ = some (.pointer none)
  m : w.cell? ⟨mg, 0, none⟩ = some (.pointer none)
  dl : dg < w.heap.size
  ul : wg < w.heap.size
  ml : mg < w.heap.size
theorem Rows0.below {w V : World} {dg wg mg : Nat} (h : Rows0 w dg wg mg) (hb : Below w.heap.size w V) : Rows0 V dg wg mg where
  d := (hb.cell (p := ⟨dg, 0, none⟩) h.dl).trans h.d
  u := (hb.cell (p := ⟨wg, 0, none⟩) h.ul).trans h.u
  m := (hb.cell (p := ⟨mg, 0, none⟩) h.ml).trans h.m
  dl := Nat.lt_of_lt_of_le h.dl hb.size
  ul := Nat.lt_of_lt_of_le h.ul hb.size
  ml := Nat.lt_of_lt_of_le h.ml hb.size

end Go.Proofs.YtdmcjomcbhdcbaaGreat
namespace Go.Proofs.YtdmcjomcbhdcbaaGreat
open Go.RowKit Go.Maps

end Go.Proofs.YtdmcjomcbhdcbaaGreat
namespace Go.Proofs.YtdmcjomcbhdcbaaGreat
open Go.RowKit Go.Maps

end Go.Proofs.YtdmcjomcbhdcbaaGreat
