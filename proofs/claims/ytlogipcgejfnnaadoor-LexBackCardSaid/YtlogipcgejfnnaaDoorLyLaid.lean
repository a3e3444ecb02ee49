import Derived.Test.YtlogipcgejfnnaaDoorRows
import Derived.Lib.LaidIn
import Derived.Lib.LaidU8
import Derived.Great.CaseRows
import Derived.PinnedBridge
import Derived.SizedLaws
import Derived.Test.YtlogipcgejfnnaaDoorLyOwB
/- Lex (second seat): a world in which the three listed variables lie as their initialisers lay them, and what their reading gives. No condition. -/
set_option maxRecDepth 100000
namespace Go.Proofs.YtlogipcgejfnnaaDoor
open Go.RowKit Go.Lib Go.Great
abbrev laidL : List (String × DataW Unit) := [("unicode/utf8.acceptRanges", Rows.laid_unicode_utf8_acceptRanges), ("unicode.CaseRanges", Rows.laid_unicode_CaseRanges), ("unicode/utf8.first", Rows.laid_unicode_utf8_first)]
noncomputable def laidWorld (os : Os) : World :=
  let N := (World.settled Tryd.prog os).heap.size
  let w0 := World.holding Tryd.prog os ⟨#[.cells (caseT.flatMap cells5).toArray 133], #[], []⟩
  let put (h : Array Obj) (g : Nat) (cs : Array Value) : Array Obj := h.modify g fun
    | .cells _ t frozen => .cells cs t frozen
    | o => o
  let h1 := put w0.heap 0 (Lib.firstTab.map fun z => Value.int .u8 z).toArray
  let h2 := put h1 1 ((List.range 16).flatMap fun i => [Value.int .u8 (Lib.accLo i), Value.int .u8 (Lib.accHi i)]).toArray
  let h3 := put h2 3 #[.slice (some ⟨N, 0, none⟩) caseT.length caseT.length]
  { w0 with heap := h3 }
theorem ctypes : CTypes Tryd.prog 120 133 131 122 21 := ⟨by kernel_rfl, by kernel_rfl, by kernel_rfl, by kernel_rfl, by kernel_rfl, by kernel_rfl, by kernel_rfl, by kernel_rfl, by kernel_rfl⟩
theorem laid_met (os : Os) (args : Array Value) : laidMet Tryd.prog laidL ((laidWorld os).forCall (fun _ _ => 0) ⟨#[], args, []⟩).memory := by
  have h1 : LaidIn Tryd.prog ((laidWorld os).forCall (fun _ _ => 0) ⟨#[], args, []⟩).memory [("unicode/utf8.acceptRanges", Rows.laid_unicode_utf8_acceptRanges)] [1] := LaidIn.of_run [1] 8 (by kernel_rfl) (by kernel_rfl) (by kernel_rfl) (by kernel_rfl)
  have h2 : LaidIn Tryd.prog ((laidWorld os).forCall (fun _ _ => 0) ⟨#[], args, []⟩).memory [("unicode/utf8.first", Rows.laid_unicode_utf8_first)] [0] := LaidIn.of_run [0] 8 (by kernel_rfl) (by kernel_rfl) (by kernel_rfl) (by kernel_rfl)
  have h3 : LaidIn Tryd.prog ((laidWorld os).forCall (fun _ _ => 0) ⟨#[], args, []⟩).memory [("unicode.CaseRanges", caseData)] [3, (World.settled Tryd.prog default).heap.size] :=
    laidIn_case ctypes (tg := 120) (tb := 133) caseT (by kernel_rfl) (by kernel_rfl) (Nat.le_of_ble_eq_true (by kernel_rfl)) rowsWf (by kernel_rfl) (by kernel_rfl) (of_decide_eq_true (by kernel_rfl))
  have h3 : LaidIn Tryd.prog ((laidWorld os).forCall (fun _ _ => 0) ⟨#[], args, []⟩).memory [("unicode.CaseRanges", Rows.laid_unicode_CaseRanges)] [3, (World.settled Tryd.prog default).heap.size] := by
    unfold Rows.laid_unicode_CaseRanges
    rw [Pinned.caseRanges_eq]
    exact h3
  exact (h1.append (h3.append h2 (by kernel_rfl)) (by kernel_rfl)).met
theorem u8x : U8Extra Tryd.prog Tryd.lays161_ren := ⟨by kernel_rfl, by kernel_rfl, by kernel_rfl, by kernel_rfl, by kernel_rfl, by kernel_rfl, by kernel_rfl⟩
theorem casex : CaseExtra Tryd.prog Tryd.lays158_ren := ⟨by kernel_rfl, by kernel_rfl, by kernel_rfl, by kernel_rfl, by kernel_rfl, by kernel_rfl⟩
theorem laid_of {w : World} (h : laidMet Tryd.prog laidL w) : Laid w := by
  have hc : VarReads Tryd.prog w "unicode.CaseRanges" Rows.laid_unicode_CaseRanges := Lib.laidMet.reads h (by simp [laidL])
  have hf : VarReads Tryd.prog w "unicode/utf8.first" Rows.laid_unicode_utf8_first := Lib.laidMet.reads h (by simp [laidL])
  have ha : VarReads Tryd.prog w "unicode/utf8.acceptRanges" Rows.laid_unicode_utf8_acceptRanges := Lib.laidMet.reads h (by simp [laidL])
  unfold Rows.laid_unicode_CaseRanges at hc
  unfold Rows.laid_unicode_utf8_first at hf
  rw [Pinned.caseRanges_eq] at hc
  rw [Pinned.utf8First_eq] at hf
  have e : (Rows.laid_unicode_utf8_acceptRanges : DataW Unit) = acceptData := by kernel_rfl
  rw [e] at ha
  exact ⟨caseVar_of_reads (ρ := Tryd.lays158_ren) { Tryd.lays158 with } Tryd.lays158.t206 casex hc, utf8Tabs_of_reads (ρ := Tryd.lays161_ren) { Tryd.lays161 with } u8x hf ha⟩
end Go.Proofs.YtlogipcgejfnnaaDoor
