/- An act: all is wiped; an act of no kind. (Printed by gen_Sc.py.); An act that harms a file: Flip and Cut. (Printed by gen_Sd.py.); Both worlds are looked at. -/
import Derived.Test.YtdmcjomcbhdcbaaGreatM34
import Derived.Test.YtdmcjomcbhdcbaaGreatM12
namespace Go.Proofs.YtdmcjomcbhdcbaaGreat
open Go.RowKit Go.Maps

end Go.Proofs.YtdmcjomcbhdcbaaGreat
namespace Go.Proofs.YtdmcjomcbhdcbaaGreat
open Go.RowKit Go.Maps

end Go.Proofs.YtdmcjomcbhdcbaaGreat
namespace Go.Proofs.YtdmcjomcbhdcbaaGreat
open Go.RowKit Go.Maps

end Go.Proofs.YtdmcjomcbhdcbaaGreat
