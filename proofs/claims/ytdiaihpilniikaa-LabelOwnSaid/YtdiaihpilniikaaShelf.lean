/- Contracts of the library at this dump, laid in plain words out of the kit's shelf: bytes.Clone, maps.Clone, maps.Keys, slices.Sorted. No condition of ours. -/
import Derived.Shelf.Bytes.SlClone
import Derived.Shelf.SlMaps.Clone
import Derived.Test.YtdiaihpilniikaaProg
namespace Go.Proofs.Ytdiaihpilniikaa
open Go.RowKit Go.Maps Go.Shelf

def Try.cloneM_ren : Go.Shelf.Ren := ⟨fun | 5 => 96 | 7 => 98 | n => n, fun | 23 => 76 | 25 => 9 | 3 => 109 | 4 => 4 | 20 => 20 | n => n, fun | n => n⟩
theorem Try.cloneM : Go.Proofs.SlLaysW.n5 Try.prog Try.cloneM_ren := {
  mixed := by kernel_rfl
  f5 := ⟨Try.f96.name, by decide, Try.func96.trans (congrArg some (by kernel_rfl))⟩
  f7 := Try.func98.trans (congrArg some (by kernel_rfl))
  t4 := Try.underlying4
  a4 := Try.isAgg4
  z4 := Try.sizeOf4
  v4 := Try.zeroValue4
  t20 := Try.underlying20
  a20 := Try.isAgg20
  z20 := Try.sizeOf20
  v20 := Try.zeroValue20
  t23 := Try.underlying76
  a23 := Try.isAgg76
  z23 := Try.sizeOf76
  v23 := Try.zeroValue76 }

def Try.laysClone_ren : Go.Shelf.Ren := ⟨fun | 4 => 46 | n => n, fun | 22 => 33 | 4 => 4 | 5 => 5 | n => n, fun | n => n⟩
theorem Try.laysClone : Go.Proofs.SlLaysK.n4 Try.prog Try.laysClone_ren := {
  mixed := by kernel_rfl
  f4 := Try.func46.trans (congrArg some (by kernel_rfl))
  t4 := Try.underlying4
  a4 := Try.isAgg4
  z4 := Try.sizeOf4
  v4 := Try.zeroValue4
  t22 := Try.underlying33
  a22 := Try.isAgg33
  z22 := Try.sizeOf33
  v22 := Try.zeroValue33
  t5 := Try.underlying5
  i5 := by kernel_rfl }

end Go.Proofs.Ytdiaihpilniikaa
