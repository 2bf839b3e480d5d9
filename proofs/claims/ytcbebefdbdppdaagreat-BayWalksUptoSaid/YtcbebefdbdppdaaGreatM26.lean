/- cairnref08: Fits, Sizes; cairnplay.Pick.; cairnref08.Sizes of a head that fits.; cairnref08: Sizes and Check of any head. -/
import Derived.Test.YtcbebefdbdppdaaGreatM25
namespace Go.Proofs.YtcbebefdbdppdaaGreat
open Go.RowKit Go.Maps
end Go.Proofs.YtcbebefdbdppdaaGreat
namespace Go.Proofs.YtcbebefdbdppdaaGreat
open Go.RowKit Go.Maps
end Go.Proofs.YtcbebefdbdppdaaGreat
namespace Go.Proofs.YtcbebefdbdppdaaGreat
open Go.RowKit Go.Maps
def sizesE (k m b size : Int) : Int := if Hd.shapeOk k m b = false then 4 else Hd.fitsE k b size
def sizesL (k m b size : Int) : List Nat := if sizesE k m b size = 0 then Hd.lensN k.toNat b.toNat size.toNat else []
end Go.Proofs.YtcbebefdbdppdaaGreat
