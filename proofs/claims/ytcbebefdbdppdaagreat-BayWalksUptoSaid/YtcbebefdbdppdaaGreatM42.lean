/- The document's drive, walked: Create, Remove, Rename, SyncDir, Wipe, Pending.; The document's drive, walked: what is asked of it: SyncDir, Wipe, Pending, Read, List, Used, Loose. -/
import Derived.Test.YtcbebefdbdppdaaGreatM41
namespace Go.Proofs.YtcbebefdbdppdaaGreat
open Go.RowKit Go.Maps
end Go.Proofs.YtcbebefdbdppdaaGreat
namespace Go.Proofs.YtcbebefdbdppdaaGreat
open Go.RowKit Go.Maps
theorem dents_nil : dents (.map []) = [] := (ents_empty.dents sound_empty).symm
end Go.Proofs.YtcbebefdbdppdaaGreat
