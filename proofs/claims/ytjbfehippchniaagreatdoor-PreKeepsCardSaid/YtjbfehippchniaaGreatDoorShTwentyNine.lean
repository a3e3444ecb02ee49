import Derived.Test.YtjbfehippchniaaGreatDoorShFourteen
/- Rows of different types are elsewhere. For every program. -/
namespace Go.Sh
open Go.RowKit
theorem RowAt.other {w:World} {e e':TypeId} {sz:Nat} {s:SV} {vs:List Value} {b:Nat} {c:Array Value} {f:Nat × Nat} (h:RowAt w e sz s vs) (hb:w.heap[b]?=some (.cells c e' f)) (hne:e ≠ e'):b ∉ blkOf s:=λhk=>by
  obtain⟨_,rfl|⟨g,cur,h3,h4,_⟩⟩:=h
  · simp[blkOf]at hk
  simp[blkOf,h3]at hk
  subst hk
  rw[h4]at hb
  simp only[Option.some.injEq,Obj.cells.injEq]at hb
  exact hne hb.2.1
end Go.Sh
