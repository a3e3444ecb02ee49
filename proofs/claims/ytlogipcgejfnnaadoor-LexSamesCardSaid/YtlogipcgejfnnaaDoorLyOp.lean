import Derived.Test.YtlogipcgejfnnaaDoorLyOwA
import Derived.Test.YtlogipcgejfnnaaDoorShTwenty
import Derived.OpenShut
import Derived.Test.YtlogipcgejfnnaaDoorProg
/- Lex: tokens, and pairs of numbers, that are handed in. No condition. -/
set_option maxRecDepth 100000
set_option linter.unusedVariables false
namespace Go.Proofs.YtlogipcgejfnnaaDoor
open Go.ChangeShapes Go.WideShapes Go.ChangeAt Go.RowKit Go.Sh Go.Sh.Lx
theorem opens_tok : Opens Tryd.prog 43 Tok := fun H enc w base sp held fuel cs x h hr => by
  obtain ⟨hl, hF⟩ := open_fields (P := Tryd.prog) (t := 43) (ts := [(3, 0), (3, 1), (9, 2)]) (by kernel_rfl) (by rfl) (fun p hp => by
    simp only [List.mem_cons, List.not_mem_nil, or_false] at hp
    rcases hp with rfl | rfl | rfl <;> kernel_rfl) (by kernel_rfl) h
  obtain ⟨n0, v0, d0, c0, t0, w0⟩ := hF 0 _ rfl
  obtain ⟨n1, v1, d1, c1, t1, w1⟩ := hF 1 _ rfl
  obtain ⟨n2, v2, d2, c2, t2, w2⟩ := hF 2 _ rfl
  obtain ⟨x0, r0, l0⟩ := field_as (opens_int (by kernel_rfl)) t0 fun m hm => hr m (w0 m hm)
  obtain ⟨x1, r1, l1⟩ := field_as (opens_int (by kernel_rfl)) t1 fun m hm => hr m (w1 m hm)
  obtain ⟨x2, r2, l2⟩ := field_as (opens_str (by kernel_rfl)) t2 fun m hm => hr m (w2 m hm)
  have r2 : [v2] = [.string x2] := r2
  obtain ⟨r0, b0⟩ := r0
  obtain ⟨r1, b1⟩ := r1
  simp only [List.cons.injEq, and_true] at r0 r1 r2
  subst r0 r1 r2
  refine ⟨⟨x0, x1, x2⟩, ⟨?_, b0, b1⟩, l2⟩
  have hl : cs.length = 3 := hl
  apply List.ext_getElem?
  intro i
  match i with
  | 0 => exact c0
  | 1 => exact c1
  | 2 => exact c2
  | k + 3 => rw [List.getElem?_eq_none (by omega)]; rfl
instance : Enc (Int × Int) where
  sz := 2
  rd _ vs t := vs = [.int .i64 t.1, .int .i64 t.2]
  len h := by rw [h]; rfl
  pu _ h := h
instance : Lim (Int × Int) := ⟨fun t => Lim.ok t.1 ∧ Lim.ok t.2⟩
end Go.Proofs.YtlogipcgejfnnaaDoor
