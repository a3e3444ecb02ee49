import Derived.Test.YtcnenlmhbpijlaaLkA
import Derived.Test.YtcnenlmhbpijlaaShTwenty
/- Link: modules that are handed in. No condition. -/
set_option maxRecDepth 100000
set_option linter.unusedVariables false
namespace Go.Proofs.Ytcnenlmhbpijlaa
open Go.ChangeShapes Go.WideShapes Go.ChangeAt Go.RowKit Go.Sh

theorem opens_mod : Opens Try.prog 33 Mod := fun H enc w base sp held fuel cs x h hr => by
  obtain ⟨hl, hF⟩ := open_fields (P := Try.prog) (t := 33) (ts := [(9, 0), (3, 1), (23, 2), (30, 3), (31, 4)]) (by kernel_rfl) (by rfl) (fun p hp => by
    simp only [List.mem_cons, List.not_mem_nil, or_false] at hp
    rcases hp with rfl | rfl | rfl | rfl | rfl <;> kernel_rfl) (by kernel_rfl) h
  have hS : Opens Try.prog 23 (List ByteArray) := opens_list (t := 23) (e := 9) (by kernel_rfl) (by kernel_rfl) (of_decide_eq_true (by kernel_rfl)) (opens_str (by kernel_rfl))
  obtain ⟨n0, v0, d0, c0, t0, w0⟩ := hF 0 _ rfl
  obtain ⟨n1, v1, d1, c1, t1, w1⟩ := hF 1 _ rfl
  obtain ⟨n2, v2, d2, c2, t2, w2⟩ := hF 2 _ rfl
  obtain ⟨n3, v3, d3, c3, t3, w3⟩ := hF 3 _ rfl
  obtain ⟨n4, v4, d4, c4, t4, w4⟩ := hF 4 _ rfl
  obtain ⟨x0, r0, l0⟩ := field_as (opens_str (by kernel_rfl)) t0 fun m hm => hr m (w0 m hm)
  obtain ⟨x1, r1, l1⟩ := field_as (opens_int (by kernel_rfl)) t1 fun m hm => hr m (w1 m hm)
  obtain ⟨x2, r2, l2⟩ := field_as hS t2 fun m hm => hr m (w2 m hm)
  obtain ⟨x3, r3, l3⟩ := field_as (opens_list (t := 30) (e := 3) (by kernel_rfl) (by kernel_rfl) (of_decide_eq_true (by kernel_rfl)) (opens_int (by kernel_rfl))) t3 fun m hm => hr m (w3 m hm)
  obtain ⟨x4, r4, l4⟩ := field_as (opens_list (t := 31) (e := 23) (by kernel_rfl) (by kernel_rfl) (of_decide_eq_true (by kernel_rfl)) hS) t4 fun m hm => hr m (w4 m hm)
  have r0 : [v0] = [.string x0] := r0
  obtain ⟨r1, b1⟩ := r1
  obtain ⟨s2, e2, r2⟩ := r2
  obtain ⟨s3, e3, r3⟩ := r3
  obtain ⟨s4, e4, r4⟩ := r4
  simp only [List.cons.injEq, and_true] at r0 r1 e2 e3 e4
  subst r0 r1 e2 e3 e4
  refine ⟨⟨x0, x1, x2, x3, x4⟩, ⟨s2, s3, s4, ?_, ⟨b1, r2, r3, r4⟩⟩, ⟨l0, l2, l3, l4⟩⟩
  have hl : cs.length = 5 := hl
  apply List.ext_getElem?
  intro i
  match i with
  | 0 => exact c0
  | 1 => exact c1
  | 2 => exact c2
  | 3 => exact c3
  | 4 => exact c4
  | k + 5 => rw [List.getElem?_eq_none (by omega)]; rfl
end Go.Proofs.Ytcnenlmhbpijlaa
