import Derived.Test.YtcnenlmhbpijlaaLkWorst2
import Derived.Test.YtcnenlmhbpijlaaSkLast
/- Link: the names below, as one text. No condition. -/
set_option maxRecDepth 100000
set_option linter.unusedVariables false
set_option linter.unusedSimpArgs false
namespace Go.Proofs.Ytcnenlmhbpijlaa
open Go.Sh Go.RowKit

def space : ByteArray := ⟨#[32]⟩
def stkS : List ByteArray → ByteArray
  | [] => ⟨#[]⟩
  | t :: r => (stkS r ++ space) ++ t
def NoSp (s : ByteArray) : Prop := (32 : UInt8) ∉ s.data.toList
theorem stkS_data (t : ByteArray) (r : List ByteArray) : (stkS (t :: r)).data.toList = (stkS r).data.toList ++ 32 :: t.data.toList := by
  simp [stkS, space, ByteArray.data_append]
theorem split_unique {a b c d : List UInt8} (hb : (32 : UInt8) ∉ b) (hd : (32 : UInt8) ∉ d) (h : a ++ 32 :: b = c ++ 32 :: d) : a = c ∧ b = d := by
  have hl : b.length = d.length := by
    rcases Nat.lt_trichotomy b.length d.length with hlt | he | hgt
    · exfalso
      rw [List.append_eq_append_iff] at h
      rcases h with ⟨q, h1, h2⟩ | ⟨q, h1, h2⟩
      · have := congrArg List.length h2; cases q with
        | nil => simp at this; omega
        | cons x q => simp at h2; apply hb; rw [h2.2]; simp
      · cases q with
        | nil => simp at h2; rw [h2] at hlt; omega
        | cons x q => simp at h2; apply hd; rw [h2.2]; simp
    · exact he
    · exfalso
      rw [List.append_eq_append_iff] at h
      rcases h with ⟨q, h1, h2⟩ | ⟨q, h1, h2⟩
      · cases q with
        | nil => simp at h2; rw [h2] at hgt; omega
        | cons x q => simp at h2; apply hb; rw [h2.2]; simp
      · have := congrArg List.length h2; cases q with
        | nil => simp at this; omega
        | cons x q => simp at h2; apply hd; rw [h2.2]; simp
  have hlen := congrArg List.length h
  simp at hlen
  have := List.append_inj h (by omega)
  exact ⟨this.1, by simpa using this.2⟩
theorem stkS_inj : ∀ {r r' : List ByteArray}, (∀ x ∈ r, NoSp x) → (∀ x ∈ r', NoSp x) → stkS r = stkS r' → r = r'
  | [], [], _, _, _ => rfl
  | [], t :: r, _, _, h => by
    have := congrArg (fun s : ByteArray => s.data.toList) h
    simp only [stkS_data] at this
    simp [stkS] at this
  | t :: r, [], _, _, h => by
    have := congrArg (fun s : ByteArray => s.data.toList) h
    simp only [stkS_data] at this
    simp [stkS] at this
  | t :: r, t' :: r', h1, h2, h => by
    have := congrArg (fun s : ByteArray => s.data.toList) h
    simp only [stkS_data] at this
    obtain ⟨e1, e2⟩ := split_unique (h1 t List.mem_cons_self) (h2 t' List.mem_cons_self) this
    have e1 : stkS r = stkS r' := bytes_ext e1
    have e2 : t = t' := bytes_ext e2
    rw [e2, stkS_inj (fun x hx => h1 x (List.mem_cons_of_mem _ hx)) (fun x hx => h2 x (List.mem_cons_of_mem _ hx)) e1]
end Go.Proofs.Ytcnenlmhbpijlaa
