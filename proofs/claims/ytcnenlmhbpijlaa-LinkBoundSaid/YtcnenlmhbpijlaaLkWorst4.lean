import Derived.Test.YtcnenlmhbpijlaaLkWorst3
/- Link: the names below, taken apart. No condition. -/
set_option maxRecDepth 100000
set_option linter.unusedVariables false
set_option linter.unusedSimpArgs false
namespace Go.Proofs.Ytcnenlmhbpijlaa
open Go.Sh Go.RowKit

theorem szL (s : ByteArray) : s.data.toList.length = s.size := by rw [Array.length_toList]; rfl
theorem push_data (a t : ByteArray) : ((a ++ space) ++ t).data.toList = a.data.toList ++ 32 :: t.data.toList := by simp [space, ByteArray.data_append]
theorem byte_at {s : ByteArray} {L : List UInt8} (h : s.data.toList = L) {j : Nat} {b : UInt8} (hb : L[j]? = some b) : s.data[j]! = b := by
  subst h
  have hj : j < s.data.size := by
    have := (List.getElem?_eq_some_iff.1 hb).1
    simpa using this
  rw [getElem!_pos s.data j hj]
  have := (List.getElem?_eq_some_iff.1 hb).2
  simpa using this
theorem last_push (a t : ByteArray) (h : NoSp t) : Lib.lastIndexByte ((a ++ space) ++ t) 32 = (a.size : Int) := by
  have hd : ((a ++ space) ++ t).data.toList = a.data.toList ++ 32 :: t.data.toList := by simp [space, ByteArray.data_append]
  generalize (a ++ space) ++ t = s at hd
  have hz : s.size = a.size + 1 + t.size := by
    have := congrArg List.length hd
    rw [szL, List.length_append, List.length_cons, szL, szL] at this
    omega
  have hal := szL a
  have htl := szL t
  have hmid : s.data[a.size]! = 32 := byte_at hd (by rw [List.getElem?_append_right (by omega), hal, Nat.sub_self]; rfl)
  rcases Lib.lastIndexByte_spec s 32 with ⟨_, hn⟩ | ⟨i, hi, he, hc, hn⟩
  · exact absurd (by rw [hmid]; rfl) (hn a.size (by omega))
  · rw [he]
    rcases Nat.lt_trichotomy i a.size with hlt | heq | hgt
    · exact absurd (by rw [hmid]; rfl) (hn a.size hlt (by omega))
    · rw [heq]
    · exfalso
      obtain ⟨k, hk⟩ : ∃ k, i = a.size + 1 + k := ⟨i - a.size - 1, by omega⟩
      obtain ⟨b, hb⟩ := at_k (l := t.data.toList) (k := k) (by omega)
      have := byte_at hd (j := i) (b := b) (by rw [List.getElem?_append_right (by omega), hal, show i - a.size = k + 1 by omega, List.getElem?_cons_succ]; exact hb)
      rw [this] at hc
      have hb32 : b = 32 := by
        apply UInt8.toNat_inj.1
        have : (b.toNat : Int) = 32 := hc
        show b.toNat = 32
        omega
      exact h (hb32 ▸ List.mem_of_getElem? hb)
theorem last_none : Lib.lastIndexByte ⟨#[]⟩ 32 = -1 := rfl
theorem pop_below (a t : ByteArray) : ((a ++ space) ++ t).extract 0 a.size = a := by
  apply bytes_ext
  have hal := szL a
  rw [ByteArray.data_extract, Array.toList_extract, List.extract_eq_take_drop, push_data, List.drop_zero, Nat.sub_zero, ← hal, List.take_left]
theorem pop_top (a t : ByteArray) : ((a ++ space) ++ t).extract (a.size + 1) ((a ++ space) ++ t).size = t := by
  apply bytes_ext
  have hal := szL a
  have hs := szL ((a ++ space) ++ t)
  have hl := congrArg List.length (push_data a t)
  rw [List.length_append, List.length_cons] at hl
  rw [ByteArray.data_extract, Array.toList_extract, List.extract_eq_take_drop, push_data]
  rw [show a.data.toList ++ 32 :: t.data.toList = (a.data.toList ++ [32]) ++ t.data.toList by simp, List.drop_append_of_le_length (by rw [List.length_append, hal]; exact Nat.le_refl _), List.drop_of_length_le (by rw [List.length_append, hal]; exact Nat.le_refl _), List.nil_append]
  exact List.take_of_length_le (by omega)
end Go.Proofs.Ytcnenlmhbpijlaa
