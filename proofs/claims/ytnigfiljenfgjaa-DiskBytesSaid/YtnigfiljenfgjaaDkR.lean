/- 'Rows.DiskBytesSaid': bytes of one page that two stations write are both on the disk. No condition. -/
import Derived.Test.YtnigfiljenfgjaaRows
import Derived.Test.YtnigfiljenfgjaaDkQ
import Derived.Test.YtnigfiljenfgjaaShFifteen
set_option maxRecDepth 100000
set_option linter.unusedVariables false
namespace Go.Proofs.Ytnigfiljenfgjaa
open Go.ChangeShapes Go.WideShapes Go.ChangeAt Go.RowKit Go.Sh

theorem Try.own : ownKnob Try.prog.godebug = none := by kernel_rfl
theorem Try.laidOut : laidOutB Try.prog = true := by kernel_rfl

theorem open_u8pair {H : Type} {enc : TypeId × Value → H} {W : World} {b0 base : Nat} {sp : Nat → Bool} {held : Bool} {v : Value} (hval : Value.okWide Try.prog W .any b0 22 v) : ∃ x y : UInt8, v = .agg #[u8V x, u8V y] := by
  have h22 : Try.prog.underlying 22 = some (.array 2 5) := by kernel_rfl
  have hc : Try.prog.cellsOf 22 = 2 := by kernel_rfl
  have hts : Try.prog.cellTypes Try.prog.depth 22 = some [5, 5] := by kernel_rfl
  simp only [Value.okWide, h22] at hval
  obtain ⟨cs, rfl, hs, ts, h1, _, h2⟩ := hval
  rw [hts] at h1; cases h1
  rw [hc] at hs
  have cell : ∀ i, i < 2 → ∃ x : UInt8, cs[i]? = some (u8V x) := fun i hi => by
    obtain ⟨u, hu, hok⟩ := h2 i cs[i] (Array.getElem?_eq_getElem (by omega))
    have hu5 : u = 5 := by
      rcases (by omega : i = 0 ∨ i = 1) with rfl | rfl <;> simp at hu <;> exact hu.symm
    subst hu5
    unfold Cell.okWide at hok
    rw [u5] at hok
    unfold Cell.ok at hok
    rw [u5] at hok
    rw [Array.getElem?_eq_getElem (by omega)]
    cases hv : cs[i] <;> rw [hv] at hok <;> try exact hok.elim
    rename_i k n
    obtain ⟨rfl, hn⟩ := hok
    have hn : 0 ≤ n ∧ n ≤ 255 := by
      have e1 : IntKind.u8.min = 0 := by decide
      have e2 : IntKind.u8.max = 255 := by decide
      unfold IntKind.has at hn
      rw [e1, e2] at hn
      simpa using hn
    refine ⟨UInt8.ofNat n.toNat, ?_⟩
    congr 1
    unfold u8V
    have : (UInt8.ofNat n.toNat).toNat = n.toNat := by simp; omega
    rw [this]
    congr 1; omega
  obtain ⟨x, hx⟩ := cell 0 (by omega)
  obtain ⟨y, hy⟩ := cell 1 (by omega)
  refine ⟨x, y, ?_⟩
  congr 1
  apply Array.ext_getElem?
  intro i
  by_cases h : i < 2
  · rcases (by omega : i = 0 ∨ i = 1) with rfl | rfl
    · rw [hx]; rfl
    · rw [hy]; rfl
  · rw [Array.getElem?_eq_none (by omega), Array.getElem?_eq_none (by simp; omega)]

theorem bytes_lifted (os : Os) (started : os.Started) (H : Type) (enc : TypeId × Value → H) :
    ReturnsInHanded {} Try.checked os 3 .any (Rows.diskBytesSpec.pre6 enc Try.prog Try.f3 Rows.diskBytesRow.domain false) (Rows.diskBytesSpec.post enc Try.prog Try.f3 false true false false) := by
  refine returnsInHanded_of_change (C := Try.checked) Try.own started (by kernel_rfl) Try.func3
    (ChangeSpec.witness6 (enc := enc) (C := Try.checked) false ⟨#[], #[.int .i64 0, .int .i64 0, .agg #[.int .u8 0, .int .u8 0]], []⟩ 8 (by kernel_rfl) (by kernel_rfl) (by kernel_rfl) (by kernel_rfl)) ?_
  intro W base args ds gs before hval0 hW hcnd _
  have hval : ∀ (j : Nat) t v, Try.f3.params[j]? = some t → args[j]? = some v → Value.okWide Try.prog W .any base t v := hval0
  have hW' := hW
  obtain ⟨p, q, hA0, hV, rfl, hfz, hnd⟩ := hW
  have hA : DataW.TrodAll enc Try.prog W 0 (fun _ => true) true Try.f3.params.toList args.toList ds p := hA0
  have hpar : Try.f3.params = #[3, 3, 22] := by kernel_rfl
  rw [hpar] at hA hval
  obtain ⟨v0, v1, v2, d0, d1, d2, p0, p1, p2, rfl, rfl, hp, h0, h1, h2⟩ := trodAll_three hA
  obtain ⟨rfl, rfl⟩ := trodVars_none hV
  have u3 : Try.prog.underlying 3 = some (.int .i64) := by kernel_rfl
  have u4 : Try.prog.underlying 4 = some .bool := by kernel_rfl
  obtain ⟨a, rfl, _, _, wa⟩ := open_int u3 (hval 0 3 v0 rfl rfl) h0
  obtain ⟨b, rfl, _, _, wb⟩ := open_int u3 (hval 1 3 v1 rfl rfl) h1
  obtain ⟨x, y, rfl⟩ := open_u8pair (enc := enc) (sp := fun _ => true) (held := true) (base := 0) (hval 2 22 v2 rfl rfl)
  refine (bytes_c W a b x y).mono fun e W' ⟨he, hB⟩ => ?_
  subst he
  refine ⟨_, rfl, post_true hW' Try.laidOut ?_ rfl rfl rfl rfl (tb := 4) (by kernel_rfl) u4 hB⟩
  rw [hpar]
  have r3 : Try.prog.readableRec 3 = true := by kernel_rfl
  have r22 : Try.prog.readableRec 22 = true := by kernel_rfl
  have s22 : 22 < Try.prog.types.size := of_decide_eq_true (by kernel_rfl)
  intro t ht
  simp at ht
  rcases ht with rfl | rfl
  · exact ⟨r3, Nat.lt_trans (by decide) s22⟩
  · exact ⟨r22, s22⟩

theorem diskBytes_holds : Rows.DiskBytesSaid :=
  OpenClaim.holds_of_wide 3 Try.f3 rfl rfl rfl rfl rfl rfl rfl ⟨rfl, rfl, rfl, rfl, rfl⟩ rfl rfl rfl rfl rfl (by kernel_rfl) Try.func3 (by kernel_rfl)
    (of_decide_eq_true (by kernel_rfl)) (by unfold Func.isWrapper; first | (rw [if_pos (by decide +kernel)]; kernel_rfl) | (rw [if_neg (by decide +kernel)]; exact ⟨rfl, rfl⟩))
    (fun os started H enc _ => bytes_lifted os started H enc)
end Go.Proofs.Ytnigfiljenfgjaa
