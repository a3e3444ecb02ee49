import Derived.Test.YtjbfehippchniaaGreatDoorRows
import Derived.Lib.LaidIn
import Derived.Lib.LaidU8
import Derived.Great.CaseRows
import Derived.PinnedBridge
import Derived.SizedLaws
import Derived.Test.YtjbfehippchniaaGreatDoorPrOwB
/- Lex: a world in which the three listed variables lie as their initialisers lay them, and what their reading gives. No condition. -/
set_option maxRecDepth 100000
namespace Go.Proofs.YtjbfehippchniaaGreatDoor
open Go.RowKit Go.Lib Go.Great
abbrev laidL : List (String × DataW Unit) := [("unicode/utf8.acceptRanges", Rows.laid_unicode_utf8_acceptRanges), ("unicode.CaseRanges", Rows.laid_unicode_CaseRanges), ("unicode/utf8.first", Rows.laid_unicode_utf8_first)]
noncomputable def laidWorld (os : Os) : World :=
  let N:=(World.settled Tryz.prog os).heap.size
  let w0:=World.holding Tryz.prog os ⟨#[.cells (caseT.flatMap cells5).toArray 232],#[],[]⟩
  let put (h:Array Obj) (g:Nat) (cs:Array Value):Array Obj:=h.modify g fun
    | .cells _ t frozen=>.cells cs t frozen
    | o=>o
  let h1:=put w0.heap 2 (Lib.firstTab.map λz=>Value.int .u8 z).toArray
  let h2:=put h1 3 ((List.range 16).flatMap λi=>[Value.int .u8 (Lib.accLo i),Value.int .u8 (Lib.accHi i)]).toArray
  let h3:=put h2 1 #[.slice (some ⟨N,0,none⟩) caseT.length caseT.length]
  { w0 with heap:=h3 }
theorem ctypes:CTypes Tryz.prog 203 232 230 193 21:=⟨by kernel_rfl,by kernel_rfl,by kernel_rfl,by kernel_rfl,by kernel_rfl,by kernel_rfl,by kernel_rfl,by kernel_rfl,by kernel_rfl⟩
theorem laid_met(os:Os)(args:Array Value):laidMet Tryz.prog laidL ((laidWorld os).forCall (λ_ _=>0) ⟨#[],args,[]⟩).memory:=by
  have h1 : LaidIn Tryz.prog ((laidWorld os).forCall (fun _ _ => 0) ⟨#[], args, []⟩).memory [("unicode/utf8.acceptRanges", Rows.laid_unicode_utf8_acceptRanges)] [3] := LaidIn.of_run [3] 8 (by kernel_rfl) (by kernel_rfl) (by kernel_rfl) (by kernel_rfl)
  have h2 : LaidIn Tryz.prog ((laidWorld os).forCall (fun _ _ => 0) ⟨#[], args, []⟩).memory [("unicode/utf8.first", Rows.laid_unicode_utf8_first)] [2] := LaidIn.of_run [2] 8 (by kernel_rfl) (by kernel_rfl) (by kernel_rfl) (by kernel_rfl)
  have h3 : LaidIn Tryz.prog ((laidWorld os).forCall (fun _ _ => 0) ⟨#[], args, []⟩).memory [("unicode.CaseRanges", caseData)] [1, (World.settled Tryz.prog default).heap.size] :=
    laidIn_case ctypes (tg:=203) (tb:=232) caseT (by kernel_rfl) (by kernel_rfl) (Nat.le_of_ble_eq_true (by kernel_rfl)) rowsWf (by kernel_rfl) (by kernel_rfl) (of_decide_eq_true (by kernel_rfl))
  have h3 : LaidIn Tryz.prog ((laidWorld os).forCall (fun _ _ => 0) ⟨#[], args, []⟩).memory [("unicode.CaseRanges", Rows.laid_unicode_CaseRanges)] [1, (World.settled Tryz.prog default).heap.size] := by
    unfold Rows.laid_unicode_CaseRanges
    rw[Pinned.caseRanges_eq]
    exact h3
  exact(h1.append (h3.append h2 (by kernel_rfl)) (by kernel_rfl)).met
theorem u8x:U8Extra Tryz.prog Tryz.lays161_ren:=⟨by kernel_rfl,by kernel_rfl,by kernel_rfl,by kernel_rfl,by kernel_rfl,by kernel_rfl,by kernel_rfl⟩
theorem casex:CaseExtra Tryz.prog Tryz.lays158_ren:=⟨by kernel_rfl,by kernel_rfl,by kernel_rfl,by kernel_rfl,by kernel_rfl,by kernel_rfl⟩
theorem laid_of{w:World}(h:laidMet Tryz.prog laidL w):Laid w:=by
  have hc : VarReads Tryz.prog w "unicode.CaseRanges" Rows.laid_unicode_CaseRanges := Lib.laidMet.reads h (by simp [laidL])
  have hf : VarReads Tryz.prog w "unicode/utf8.first" Rows.laid_unicode_utf8_first := Lib.laidMet.reads h (by simp [laidL])
  have ha : VarReads Tryz.prog w "unicode/utf8.acceptRanges" Rows.laid_unicode_utf8_acceptRanges := Lib.laidMet.reads h (by simp [laidL])
  unfold Rows.laid_unicode_CaseRanges at hc
  unfold Rows.laid_unicode_utf8_first at hf
  rw[Pinned.caseRanges_eq]at hc
  rw[Pinned.utf8First_eq]at hf
  have e:(Rows.laid_unicode_utf8_acceptRanges:DataW Unit)=acceptData:=by kernel_rfl
  rw[e]at ha
  exact⟨caseVar_of_reads (ρ:=Tryz.lays158_ren) { Tryz.lays158 with } Tryz.lays158.t206 casex hc,utf8Tabs_of_reads (ρ:=Tryz.lays161_ren) { Tryz.lays161 with } u8x hf ha⟩
end Go.Proofs.YtjbfehippchniaaGreatDoor
