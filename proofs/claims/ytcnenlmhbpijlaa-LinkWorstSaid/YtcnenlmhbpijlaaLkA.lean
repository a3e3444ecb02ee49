import Derived.Test.YtcnenlmhbpijlaaLkF0
import Derived.Test.YtcnenlmhbpijlaaShNine
import Derived.Test.YtcnenlmhbpijlaaShSeventeen
/- Link: data and what is computed on it, in plain words; readings of modules. No condition. -/
set_option linter.unusedVariables false
set_option linter.unusedSimpArgs false
namespace Go.Proofs.Ytcnenlmhbpijlaa
open Go.Sh Go.RowKit

structure Mod where
  name : ByteArray
  ov : Int
  procs : List ByteArray
  sizes : List Int
  calls : List (List ByteArray)
deriving DecidableEq, Inhabited

structure RdMod (w : World) (m : Mod) (p s c : SV) : Prop where
  ov : -9223372036854775808 ≤ m.ov ∧ m.ov ≤ 9223372036854775807
  procs : RdSl w p m.procs
  sizes : RdSl w s m.sizes
  calls : RdSl w c m.calls
theorem RdMod.pu {w w' : World} {m : Mod} {p s c : SV} (h : RdMod w m p s c) (hp : Pu w w') : RdMod w' m p s c := ⟨h.ov, h.procs.pu hp, h.sizes.pu hp, h.calls.pu hp⟩
abbrev modV (m : Mod) (p s c : SV) : List Value := [.string m.name, .int .i64 m.ov, .slice p.a p.len p.cap, .slice s.a s.len s.cap, .slice c.a c.len c.cap]
instance : Enc Mod where
  sz := 5
  rd w vs m := ∃ p s c : SV, vs = modV m p s c ∧ RdMod w m p s c
  len h := by obtain ⟨p, s, c, rfl, _⟩ := h; rfl
  pu hp h := let ⟨p, s, c, h1, h2⟩ := h; ⟨p, s, c, h1, h2.pu hp⟩
instance : Lim Mod := ⟨fun m => Lim.ok m.name ∧ Lim.ok m.procs ∧ Lim.ok m.sizes ∧ Lim.ok m.calls⟩

/-- A module of a list, read. -/
theorem modAt {w : World} {s : SV} {l : List Mod} (h : RdSl w s l) {i : Nat} {m : Mod} (hx : l[i]? = some m) : ∃ a p z c, s.a = some a ∧ i < s.len ∧ RdMod w m p z c ∧
    w.cell? ((a.add (i * 5)).add 0) = some (.string m.name) ∧ w.cell? ((a.add (i * 5)).add 1) = some (.int .i64 m.ov) ∧ w.cell? ((a.add (i * 5)).add 2) = some (.slice p.a p.len p.cap) ∧
    w.cell? ((a.add (i * 5)).add 3) = some (.slice z.a z.len z.cap) ∧ w.cell? ((a.add (i * 5)).add 4) = some (.slice c.a c.len c.cap) := by
  obtain ⟨a, ha, vs, h1, h2⟩ := h.get i m hx
  obtain ⟨p, z, c, rfl, hm⟩ : ∃ p s c : SV, vs = modV m p s c ∧ RdMod w m p s c := h1
  have hi : i < l.length := (List.getElem?_eq_some_iff.1 hx).1
  have h2 : CellsAt w (a.add (i * 5)) (modV m p z c) := h2
  exact ⟨a, p, z, c, ha, by rw [h.len]; exact hi, hm, h2 0 _ rfl, h2 1 _ rfl, h2 2 _ rfl, h2 3 _ rfl, h2 4 _ rfl⟩
theorem listAt {α : Type} [Enc α] {w : World} {s : SV} {l : List (List α)} (h : RdSl w s l) {i : Nat} {x : List α} (hx : l[i]? = some x) : ∃ a t, s.a = some a ∧ i < s.len ∧ w.cell? (a.add (i * 1)) = some (.slice t.a t.len t.cap) ∧ RdSl w t x := by
  obtain ⟨a, ha, vs, h1, h2⟩ := h.get i x hx
  obtain ⟨t, rfl, ht⟩ : ∃ t : SV, vs = [.slice t.a t.len t.cap] ∧ RdSl w t x := h1
  have hi : i < l.length := (List.getElem?_eq_some_iff.1 hx).1
  have := h2 0 _ rfl
  have e : ∀ a : Addr, a.add 0 = a := fun a => by simp [Addr.add]
  rw [e] at this
  exact ⟨a, t, ha, by rw [h.len]; exact hi, this, ht⟩

/-! ### Lists met from a place on -/
theorem drop_at {α : Type} {l : List α} {k : Nat} {x : α} (h : l[k]? = some x) : l.drop k = x :: l.drop (k + 1) := by
  obtain ⟨h1, h2⟩ := List.getElem?_eq_some_iff.1 h
  rw [List.drop_eq_getElem_cons h1, h2]
theorem drop_end {α : Type} {l : List α} {k : Nat} (h : ¬ k < l.length) : l.drop k = [] := List.drop_eq_nil_of_le (by omega)
theorem take_at {α : Type} {l : List α} {k : Nat} {x : α} (h : l[k]? = some x) : l.take (k + 1) = l.take k ++ [x] := by
  rw [List.take_add_one, h]; rfl
theorem take_end {α : Type} {l : List α} {k : Nat} (hk : k ≤ l.length) (h : ¬ k < l.length) : l.take k = l := List.take_of_length_le (by omega)
theorem at_k {α : Type} {l : List α} {k : Nat} (h : k < l.length) : ∃ x, l[k]? = some x := ⟨_, List.getElem?_eq_getElem h⟩

/-! ### What is computed -/
def letter (b : UInt8) : Bool := (decide (97 ≤ b.toNat) && decide (b.toNat ≤ 122)) || (decide (65 ≤ b.toNat) && decide (b.toNat ≤ 90))
def nameAt (i : Nat) (b : UInt8) : Bool := letter b || (decide (i ≠ 0) && (decide (b.toNat = 95) || (decide (48 ≤ b.toNat) && decide (b.toNat ≤ 57))))
def okFrom : Nat → List UInt8 → Bool
  | _, [] => true
  | i, b :: r => nameAt i b && okFrom (i + 1) r
def nameB (s : ByteArray) : Bool := okFrom 0 s.data.toList && decide (1 ≤ s.size) && decide (s.size ≤ 10)
def sizeOk (n : Int) : Bool := decide (1 ≤ n) && decide (n ≤ 10000)
def rightB (m : Mod) : Bool := nameB m.name && decide (0 ≤ m.ov) && decide (m.ov ≤ 15) && m.procs.all nameB && m.sizes.all sizeOk && m.calls.all (·.all nameB)
def nprocs (l : List Mod) : Nat := (l.map (·.procs.length)).sum
def largeB (l : List Mod) : Bool := l.any (fun m => m.calls.any fun c => decide (100 < c.length)) || decide (32 < l.length) || decide (100 < nprocs l)
def fitB (m : Mod) : Bool := decide (m.sizes.length = m.procs.length) && decide (m.calls.length = m.procs.length)
def allProcs (l : List Mod) : List ByteArray := l.flatMap (·.procs)
/-- P24.1. -/
def validS (l : List Mod) : Int := if largeB l then 3 else if !l.all rightB then 1 else if !l.all fitB then 10 else
  if decide ((l.map (·.name)).Nodup) && decide ((allProcs l).Nodup) then 0 else 5
end Go.Proofs.Ytcnenlmhbpijlaa
