import Derived.Shelf.SlMaps.Clone
import Derived.Test.YtcihcbfcgjepfaaGreatDoorProg
/- Contracts of the library at this dump: maps.Clone, laid by the shelf. No condition. -/
namespace Go.Proofs
open Go.Shelf
def Tryz.mapsClone_ren:Go.Shelf.Ren:=⟨fun|5=>87|7=>140|n=>n,fun|23=>80|25=>3|3=>3|4=>4|20=>20|n=>n,fun|n=>n⟩
theorem Tryz.mapsClone:Go.Proofs.SlLaysW.n5 Tryz.prog Tryz.mapsClone_ren:={
 mixed:=by kernel_rfl
 f5:=⟨Tryz.f87.name,by decide,Tryz.func87.trans (congrArg some (by kernel_rfl))⟩
 f7:=Tryz.func140.trans (congrArg some (by kernel_rfl))
 t4:=Tryz.underlying4
 a4:=Tryz.isAgg4
 z4:=Tryz.sizeOf4
 v4:=Tryz.zeroValue4
 t20:=Tryz.underlying20
 a20:=Tryz.isAgg20
 z20:=Tryz.sizeOf20
 v20:=Tryz.zeroValue20
 t23:=Tryz.underlying80
 a23:=Tryz.isAgg80
 z23:=Tryz.sizeOf80
 v23:=Tryz.zeroValue80 }
end Go.Proofs
