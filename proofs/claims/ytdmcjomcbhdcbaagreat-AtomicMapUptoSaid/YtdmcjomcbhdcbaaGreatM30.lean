/- The document's layer 13: Write, Remove.; The document's layer 13: Remove, Sweep.; The document's layer 13: Sweep; and the program's. -/
import Derived.Test.YtdmcjomcbhdcbaaGreatM29
import Derived.Test.YtdmcjomcbhdcbaaGreatM23
namespace Go.Proofs.YtdmcjomcbhdcbaaGreat
open Go.RowKit Go.Maps

end Go.Proofs.YtdmcjomcbhdcbaaGreat
namespace Go.Proofs.YtdmcjomcbhdcbaaGreat
open Go.RowKit Go.Maps

/-- A sweep, behind the list of names and the removal: the directory is made safe. -/
def asweepEnd (X : Wnd) (S : Drv) (n : Int) : Wnd × Drv × Int × Int :=
  if (wcall X S false (S.syncDir, 0)).2.2 = 0 then ((wcall X S false (S.syncDir, 0)).1, (wcall X S false (S.syncDir, 0)).2.1, n, 0)
  else ((wcall X S false (S.syncDir, 0)).1, (wcall X S false (S.syncDir, 0)).2.1, 0, (wcall X S false (S.syncDir, 0)).2.2)
def asweep (X : Wnd) (S : Drv) : Wnd × Drv × Int × Int :=
  if (wread X (dnames S.now, (0 : Int))).2.2 ≠ 0 then ((wread X (dnames S.now, (0 : Int))).1, S, 0, (wread X (dnames S.now, (0 : Int))).2.2)
  else if (wread X (dnames S.now, (0 : Int))).2.1.contains [116] = true then
    (if (wcall (wread X (dnames S.now, (0 : Int))).1 S false (S.remove [116])).2.2 ≠ 0 then ((wcall (wread X (dnames S.now, (0 : Int))).1 S false (S.remove [116])).1, (wcall (wread X (dnames S.now, (0 : Int))).1 S false (S.remove [116])).2.1, 0, (wcall (wread X (dnames S.now, (0 : Int))).1 S false (S.remove [116])).2.2)
     else asweepEnd (wcall (wread X (dnames S.now, (0 : Int))).1 S false (S.remove [116])).1 (wcall (wread X (dnames S.now, (0 : Int))).1 S false (S.remove [116])).2.1 1)
  else asweepEnd (wread X (dnames S.now, (0 : Int))).1 S 0
end Go.Proofs.YtdmcjomcbhdcbaaGreat
namespace Go.Proofs.YtdmcjomcbhdcbaaGreat
open Go.RowKit Go.Maps

theorem contains_take (l : List Nm) (j : Nat) {s : Nm} (h : l[j]? = some s) : (l.take (j + 1)).contains [116] = ((l.take j).contains [116] || s == [116]) := by
  rw [take_snoc_ h]
  by_cases e : s = [116]
  · subst e; simp
  · have e2 : (s == [116]) = false := by simpa using e
    have e3 : ¬ [116] = s := fun h => e h.symm
    rw [e2, Bool.or_false]
    simp [e3]
def hasT (l : List Nm) (j : Nat) : Int := if (l.take j).contains [116] = true then 1 else 0

end Go.Proofs.YtdmcjomcbhdcbaaGreat
