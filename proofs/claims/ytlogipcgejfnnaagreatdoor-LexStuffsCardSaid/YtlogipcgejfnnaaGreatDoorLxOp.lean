import Derived.Test.YtlogipcgejfnnaaGreatDoorLxOwA
import Derived.Test.YtlogipcgejfnnaaGreatDoorShTwenty
import Derived.OpenShut
import Derived.Test.YtlogipcgejfnnaaGreatDoorProg
/- Lex: tokens, and pairs of numbers, that are handed in. No condition. -/
set_option maxRecDepth 100000
set_option linter.unusedVariables false
namespace Go.Proofs.YtlogipcgejfnnaaGreatDoor
open Go.ChangeShapes Go.WideShapes Go.ChangeAt Go.RowKit Go.Sh Go.Sh.Lx
instance : Enc (Int × Int) where
  sz := 2
  rd _ vs t := vs = [.int .i64 t.1, .int .i64 t.2]
  len h := by rw [h]; rfl
  pu _ h := h
instance : Lim (Int × Int) := ⟨fun t => Lim.ok t.1 ∧ Lim.ok t.2⟩
theorem opens_two : Opens Tryz.prog 36 (Int × Int) := fun H enc w base sp held fuel cs x h hr => by
  obtain ⟨xs, m, rfl, rfl, hcl, hxl, hi⟩ := DataW.trod_array (n := 2) (e := 3) (by kernel_rfl) h
  have hc3 : Tryz.prog.cellsOf 3 = 1 := by kernel_rfl
  have hc36 : Tryz.prog.cellsOf 36 = 2 := by kernel_rfl
  rw [hc36] at hcl
  obtain ⟨c0, c1, rfl⟩ : ∃ c0 c1, cs = [c0, c1] := by
    match cs, hcl with
    | [c0, c1], _ => exact ⟨c0, c1, rfl⟩
  obtain ⟨y0, y1, rfl⟩ : ∃ y0 y1, xs = [y0, y1] := by
    match xs, hxl with
    | [y0, y1], _ => exact ⟨y0, y1, rfl⟩
  have h0 := hi 0 (by omega)
  have h1 := hi 1 (by omega)
  rw [hc3] at h0 h1
  have h0 : DataW.trod enc Tryz.prog w base sp held m 3 [c0] = some y0 := h0
  have h1 : DataW.trod enc Tryz.prog w base sp held m 3 [c1] = some y1 := h1
  obtain ⟨a, ⟨r0, b0⟩, l0⟩ := opens_int (P := Tryz.prog) (t := 3) (by kernel_rfl) H enc w base sp held m [c0] y0 h0 (fun n hn => by
    obtain ⟨z, _, hz, _⟩ := DataW.trod_int (k := .i64) (by kernel_rfl) h0
    rw [hz] at hn
    simp [DataW.weights] at hn)
  obtain ⟨b, ⟨r1, b1⟩, l1⟩ := opens_int (P := Tryz.prog) (t := 3) (by kernel_rfl) H enc w base sp held m [c1] y1 h1 (fun n hn => by
    obtain ⟨z, _, hz, _⟩ := DataW.trod_int (k := .i64) (by kernel_rfl) h1
    rw [hz] at hn
    simp [DataW.weights] at hn)
  simp only [List.cons.injEq, and_true] at r0 r1
  subst r0 r1
  exact ⟨(a, b), rfl, l0, l1⟩
/-- The j-th argument, an aggregate, read. -/
theorem open_agg {P : Program} {H : Type} {enc : TypeId × Value → H} {α : Type} [Enc α] [Lim α] {t : TypeId} {ts : List TypeId} {w : World} {r : Reach} {b0 base : Nat} {sp : Nat → Bool} {held : Bool} {v : Value} {d : DataW H} {ps : List MemPlace} {ds : List (DataW H)} {j : Nat} (ho : Opens P t α) (ha : aggB P t = true)
    (hv : Value.okWide P w r b0 t v) (hd : DataW.Trod enc P w base sp held t v d ps) (hz : (DataW.weightsEach P ts ds).all (· ≤ reachBytes) = true) (h1 : ts[j]? = some t) (h2 : ds[j]? = some d) : ∃ cs : List Value, v = .agg cs.toArray ∧ ∃ a : α, Enc.rd w cs a ∧ Lim.ok a := by
  obtain ⟨fuel, hf⟩ := hd
  obtain ⟨cs, rfl⟩ : ∃ cs, v = .agg cs := by
    unfold Value.okWide at hv
    unfold aggB at ha
    split at hv
    · obtain ⟨cs, h, _⟩ := hv; exact ⟨cs, h⟩
    · obtain ⟨cs, h, _⟩ := hv; exact ⟨cs, h⟩
    · rename_i h3 h4
      split at ha
      · rename_i h5; exact absurd h5 (h3 _)
      · rename_i h5; exact absurd h5 (h4 _ _)
      · cases ha
  refine ⟨cs.toList, rfl, ho H enc w base sp held fuel cs.toList (d, ps) hf fun n hn => ?_⟩
  have := List.all_eq_true.1 hz _ (DataW.weights_mem_each h1 h2 n hn)
  simpa using this
end Go.Proofs.YtlogipcgejfnnaaGreatDoor
