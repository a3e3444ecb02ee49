import Derived.Test.YtnigfiljenfgjaaGreatDzOwC
import Derived.Test.YtnigfiljenfgjaaGreatShTwentyTwo
/- The disk's reference: changing a cache where it stands; reading, writing. -/
set_option maxRecDepth 100000
set_option linter.unusedVariables false
set_option linter.unusedSimpArgs false
namespace Go.Proofs.YtnigfiljenfgjaaGreat
open Go.Sh Go.RowKit
variable {w w' : World} {r : RLay} {ρ : RSys}
theorem RSysAt.frC (h : RSysAt w r ρ) {u : Nat} {name : ByteArray} (hg : AL.get (ρ.caches u) name = none) {B : Nat -> Prop} (hf : Fr B w w') (hB : ∀ b, b < w.heap.size -> B b -> r.o b = some (.c u name) ∨ r.o b = none) : RSysAt w' r ρ := by
  have hlt := h.lt
  have hnB : ∀ {b : Nat} {κ : RKey}, r.o b = some κ -> κ ≠ .c u name -> ¬ B b := fun {b κ} hb h2 hBb => by
    rcases hB b (hlt b (by rw [hb]; simp)) hBb with h3 | h3
    · rw [hb] at h3; exact h2 (Option.some.inj h3)
    · rw [hb] at h3; cases h3
  refine ⟨hf.blk h.st (hnB h.oS (by simp)), h.fl.fr hf fun b hb => hnB (h.ofs b hb) (by simp), fun f hf' => (h.fbs f hf').fr hf fun b hb => hnB (h.of f hf' b hb) (by simp), h.fnd, fun v hv => (h.mp v hv).fr hf (hnB (h.om v hv) (by simp)), fun v hv q hq => ?_, h.lk.fr hf fun b hb => hnB (h.ols b hb) (by simp), h.oS, h.ofs, h.ols, h.om, h.of, h.oc, fun b hb => Nat.lt_of_lt_of_le (hlt b hb) hf.size⟩
  refine (h.cb v hv q hq).fr hf fun b hb => hnB (h.oc v hv q hq b hb) fun e => ?_
  simp only [RKey.c.injEq] at e
  obtain ⟨rfl, rfl⟩ := e
  exact AL.get_none.1 hg (List.mem_map_of_mem hq)
def RSys.updC (ρ : RSys) (u : Nat) (name : ByteArray) (f : List B3 -> List B3) : RSys := match AL.get (ρ.caches u) name with
  | none => ρ
  | some l => ρ.setC u name (f l)
theorem RLeft.updC (h : RSysAt w r ρ) {u : Nat} (hu : u < 4) {name : ByteArray} {s : SV} {f : List B3 -> List B3} (hs : AL.get (ρ.caches u) name ≠ none -> s = r.cs u name) {B : Nat -> Prop} (hrow : RowAt w' 116 3 s ((f (ρ.cOf u name)).flatMap B3.cells)) (hf : Fr B w w')
    (hB : ∀ b, b < w.heap.size -> B b -> r.o b = some (.c u name)) : RLeft w w' r r (ρ.updC u name f) := by
  unfold RSys.updC
  cases hg : AL.get (ρ.caches u) name with
  | none => exact ⟨h.frC hg hf fun b hlt hb => .inl (hB b hlt hb), hf.mono fun b hb hlt => by rw [hB b hlt hb]; simp, fun b hb => .inl hb, rfl⟩
  | some l =>
    have hne : AL.get (ρ.caches u) name ≠ none := by rw [hg]; simp
    have hcl : ρ.cOf u name = l := by simp [RSys.cOf, hg]
    rw [hs hne, hcl] at hrow
    exact RLeft.rowC h hu hne hrow hf hB
def rReadC (u : Int) (name : ByteArray) (at_ n : Int) (ρ : RSys) : Int :=
  if rBoth u name ρ = 0 then (if insideB ((AL.get ρ.files name).getD []) at_ n then 0 else 1) else rBoth u name ρ
def rFetchS (u : Nat) (name : ByteArray) (at_ n : Nat) (ρ : RSys) : RSys := if n = 0 then ρ else ρ.setC u name (rFetch (ρ.cOf u name) ((AL.get ρ.files name).getD []) at_ n)
def rReadS (u : Int) (name : ByteArray) (at_ n : Int) (ρ : RSys) : RSys := if rReadC u name at_ n ρ = 0 then rFetchS u.toNat name at_.toNat n.toNat ρ else ρ
def rReadB (u : Int) (name : ByteArray) (at_ n : Int) (ρ : RSys) : List UInt8 := if rReadC u name at_ n ρ = 0 then rm n.toNat fun j => (((rFetchS u.toNat name at_.toNat n.toNat ρ).cOf u.toNat name).getD (at_.toNat + j) B3.zero).b else []
structure RGood (ρ : RSys) : Prop where
  fsz : ∀ name b, AL.get ρ.files name = some b -> b.length <= 65536
  cin : ∀ u, u < 4 -> ∀ name b, AL.get ρ.files name = some b -> (ρ.cOf u name).length <= b.length
theorem inside_iff {b : List UInt8} {at_ n : Int} : insideB b at_ n = true ↔ 0 <= at_ /\ 0 <= n /\ at_ <= b.length /\ n <= b.length - at_ := by simp [insideB]
theorem setC_cOf (ρ : RSys) (u : Nat) (name : ByteArray) (l : List B3) : (ρ.setC u name l).cOf u name = l := by simp [RSys.cOf, RSys.setC, AL.get_put]
theorem fetch_len {u : Nat} {name : ByteArray} {at_ n : Nat} {b : List UInt8} (hb : AL.get ρ.files name = some b) (h0 : n ≠ 0) : ((rFetchS u name at_ n ρ).cOf u name).length = b.length := by
  unfold rFetchS
  rw [if_neg h0, setC_cOf, hb, rFetch, rm_len]; rfl
theorem row_pushB {s : SV} {l : List UInt8} (h : RowAt w 5 1 s (l.map u8V)) (hl : l.length <= 1000000) {a : Nat} {x : UInt8} (ha : w.heap[a]? = some (.cells #[u8V x] 5)) :
    ∃ (s' : SV) (w' : World), (Builtin.append_ #[36, 36] 36 #[.slice s.a s.len s.cap, .slice (some ⟨a, 0, none⟩) 1 1]).run Tryz.prog w = .ok (.slice s'.a s'.len s'.cap) w' /\ RowAt w' 5 1 s' ((l ++ [x]).map u8V) /\ Fr (· ∈ blkOf s) w w' /\ (∀ k ∈ blkOf s', k ∈ blkOf s ∨ w.heap.size <= k) /\ s'.len = s.len + 1 := by
  have hlen := u8V_map_len l h
  have := row_push (P := Tryz.prog) (ty := 36) u29 info5 rfl h (a := ⟨a, 0, none⟩) (u := u8V x) (by rw [cell_blk ha]; rfl) rfl (by omega)
  rw [List.map_append]
  exact this
set_option maxHeartbeats 1000000 in
theorem rRead_c (h : RSysAt w r ρ) (hG : RGood ρ) (u : Int) (name : ByteArray) (at_ n : Int) :
    Calls Tryz.prog 28 #[r.ptr, .int .i64 u, .string name, .int .i64 at_, .int .i64 n] w fun e w' => ∃ (l : SV) (r' : RLay), e = .returned (.tuple #[.slice l.a l.len l.cap, .int .i64 (rReadC u name at_ n ρ)]) /\ RLeft w w' r r' (rReadS u name at_ n ρ) /\
      RowAt w' 5 1 l ((rReadB u name at_ n ρ).map u8V) /\ ∀ b ∈ blkOf l, w.heap.size <= b /\ r'.o b = none := by
  refine F28_calls _ u name at_ n w _ ?_
  refine Calls.mono (both_c h u name) ?_
  rintro e w1 ⟨rfl, rfl⟩
  have bad : ∀ w2, ∀ m, rReadC u name at_ n ρ = m -> m ≠ 0 -> Pu w1 w2 -> ∃ (l : SV) (r' : RLay), Ending.returned (.tuple #[.slice none 0 0, .int .i64 m]) = Ending.returned (.tuple #[.slice l.a l.len l.cap, .int .i64 (rReadC u name at_ n ρ)]) /\ RLeft w1 w2 r r' (rReadS u name at_ n ρ) /\
      RowAt w2 5 1 l ((rReadB u name at_ n ρ).map u8V) /\ ∀ b ∈ blkOf l, w1.heap.size <= b /\ r'.o b = none := fun w2 m hm h0 hp => by
    have h0' : ¬ rReadC u name at_ n ρ = 0 := by rw [hm]; exact h0
    exact ⟨⟨none, 0, 0⟩, r, by rw [hm], by rw [rReadS, if_neg h0']; exact RLeft.of_pu h hp, by rw [rReadB, if_neg h0']; exact RowAt.nil _ _ _, by simp [blkOf]⟩
  refine ⟨_, rfl, Br.of (fun h1 => ?_) (fun h1 => ?_)⟩
  · have h1 : rBoth u name ρ ≠ 0 := by simpa using h1
    exact bad w1 _ (by rw [rReadC, if_neg h1]) h1 (Pu.refl _)
  have h1 : rBoth u name ρ = 0 := by simpa using h1
  obtain ⟨⟨v, rfl, hv⟩, b, hb⟩ := rBoth_zero h1
  have hsz := hG.fsz name b hb
  refine Calls.mono (inside_c h hb (by omega) at_ n) ?_
  rintro e w2 ⟨rfl, hp2⟩
  refine ⟨_, rfl, Br.of (fun h2 => ?_) (fun h2 => ?_)⟩
  · have h2 : insideB b at_ n = false := by simpa using h2
    exact bad w2 1 (by rw [rReadC, if_pos h1, hb]; simp [h2]) (by decide) hp2
  have h2 : insideB b at_ n = true := by simpa using h2
  have hC : rReadC (v : Int) name at_ n ρ = 0 := by rw [rReadC, if_pos h1, hb]; simp [h2]
  obtain ⟨i1, i2, i3, i4⟩ := inside_iff.1 h2
  obtain ⟨a0, rfl⟩ : ∃ a : Nat, at_ = (a : Int) := ⟨at_.toNat, by omega⟩
  obtain ⟨n0, rfl⟩ : ∃ a : Nat, n = (a : Int) := ⟨n.toNat, by omega⟩
  refine Calls.mono (fetch_c (h.pu hp2) hv hb hsz (hG.cin v hv name b hb) a0 n0 (by omega)) ?_
  rintro e w3 ⟨rfl, r', L3⟩
  refine ⟨rfl, ?_⟩
  have eS : (if n0 = 0 then ρ else ρ.setC v name (rFetch (ρ.cOf v name) b a0 n0)) = rFetchS v name a0 n0 ρ := by rw [rFetchS, hb]; rfl
  rw [eS] at L3
  have hrS : rReadS (v : Int) name (a0 : Int) (n0 : Int) ρ = rFetchS v name a0 n0 ρ := by rw [rReadS, if_pos hC]; simp
  have hrB : rReadB (v : Int) name (a0 : Int) (n0 : Int) ρ = rm n0 fun j => (((rFetchS v name a0 n0 ρ).cOf v name).getD (a0 + j) B3.zero).b := by rw [rReadB, if_pos hC]; simp
  rw [hrS, hrB, hC]
  have s3 := L3.fr.size
  have hptr := L3.ptr
  have hz2 := hp2.size
  refine loopUp n0 (fun j t w' => t.2 = ((a0 + j : Nat) : Int) /\ Pu w3 w' /\ RowAt w' 5 1 t.1 ((rm j fun j => (((rFetchS v name a0 n0 ρ).cOf v name).getD (a0 + j) B3.zero).b).map u8V) /\ ∀ b ∈ blkOf t.1, w3.heap.size <= b) ⟨by simp, Pu.refl _, RowAt.nil _ _ _, by simp [blkOf]⟩ ?_
  rintro j J ⟨l13, t⟩ w4 hj ⟨ht, hp4, hrow4, hb4⟩ hJ
  obtain rfl : t = ((a0 + j : Nat) : Int) := ht
  have hb4 : ∀ b ∈ blkOf l13, w3.heap.size <= b := hb4
  have hrow4 : RowAt w4 5 1 l13 ((rm j fun j => (((rFetchS v name a0 n0 ρ).cOf v name).getD (a0 + j) B3.zero).b).map u8V) := hrow4
  dsimp only
  unfold F28_2
  rw [wrap_in (n := (a0 : Int) + (n0 : Int)) (by omega) (by omega)]
  have S4 := L3.sys.pu hp4
  refine Br.of (fun c1 => ?_) (fun c1 => ?_)
  · have c1 := dtrue c1
    have hjn : j < n0 := by omega
    have hlen : ((rFetchS v name a0 n0 ρ).cOf v name).length = b.length := fetch_len hb (by omega)
    obtain ⟨s, hlook, hrow, _, _⟩ := S4.cache hv name
    obtain ⟨x, hx⟩ : ∃ x, ((rFetchS v name a0 n0 ρ).cOf v name)[a0 + j]? = some x := at_k (by omega)
    obtain ⟨a4, ha4, hi4, hc4⟩ := hrow.elem B3.len hx (o := 2) (v := u8V x.b) rfl
    have hsl := hrow.len B3.len (by omega)
    have hcC : w4.cell? (((⟨r.S, 0, none⟩ : Addr).add 1).add (((v : Nat) : Int).toNat * 1)) = some (.map (some (r'.c v))) := by rw [← hptr]; exact S4.cellC hv
    refine ⟨by omega, by omega, some (r'.c v), hcC, s, w4, hlook, a4, ha4, by omega, by omega, ((x.b.toNat : Nat) : Int), by rw [Int.toNat_natCast]; exact hc4, ?_⟩
    refine alE_intro fun w5 hw5 => ?_
    have hp5 : Pu w4 w5 := by rw [hw5]; exact Pu.alloc w4 _
    have hn5 : w5.heap[w4.heap.size]? = some (.cells #[u8V x.b] 5) := by rw [hw5]; exact alloc_new w4 _
    obtain ⟨s', w6, hra, hrow6, hf6, hblk6, _⟩ := row_pushB (hrow4.pu hp5) (by rw [rm_len]; omega) hn5
    refine ⟨s', w6, hra, ?_⟩
    rw [wrap_in (by omega) (by omega)]
    have hz4 := hp4.size
    have hz5 := hp5.size
    refine hJ _ _ hjn ⟨by show ((a0 + j : Nat) : Int) + 1 = _; omega, Pu.andNew (hp4.trans hp5) hf6 hb4, ?_, fun y hy => ?_⟩
    · show RowAt w6 5 1 s' _
      have : (rm (j + 1) fun j => (((rFetchS v name a0 n0 ρ).cOf v name).getD (a0 + j) B3.zero).b) = (rm j fun j => (((rFetchS v name a0 n0 ρ).cOf v name).getD (a0 + j) B3.zero).b) ++ [x.b] := by
        unfold rm
        rw [List.range_succ, List.map_append]
        simp [List.getD, hx]
      rw [this]
      exact hrow6
    · rcases hblk6 y hy with h3 | h3
      · exact hb4 y h3
      · omega
  · have c1 := dfalse c1
    have hjn : j = n0 := by omega
    subst hjn
    refine ⟨l13, r', rfl, ?_, hrow4, fun y hy => ?_⟩
    · have L := RLeft.trans (RLeft.of_pu h hp2) L3
      exact ⟨S4, L.fr.trans (Fr.pu hp4 : Fr (fun _ => False) _ _) fun _ hx _ => hx.elim, L.own, L.ptr⟩
    · have hy3 := hb4 y hy
      refine ⟨by omega, ?_⟩
      cases ho : r'.o y with
      | none => rfl
      | some κ => have := L3.sys.lt y (by rw [ho]; simp); omega
def rWriteC (u : Int) (name : ByteArray) (at_ : Int) (bs : List UInt8) (ρ : RSys) : Int := rReadC u name at_ bs.length ρ
def wrTo (c : List B3) (at_ : Nat) (bs : List UInt8) (j : Nat) : List B3 := rm c.length fun i => if at_ <= i /\ i < at_ + j then ⟨true, true, bs.getD (i - at_) 0⟩ else c.getD i B3.zero
theorem wrTo_zero (c : List B3) (at_ : Nat) (bs : List UInt8) : wrTo c at_ bs 0 = c := by
  conv => rhs; rw [rm_of c B3.zero]
  exact rm_ext fun i hi => by rw [if_neg (by omega)]
theorem wrTo_step (c : List B3) (at_ : Nat) (bs : List UInt8) (j : Nat) : (wrTo c at_ bs j).set (at_ + j) ⟨true, true, bs.getD j 0⟩ = wrTo c at_ bs (j + 1) := by
  unfold wrTo
  rw [rm_set]
  refine rm_ext fun i hi => ?_
  by_cases e : i = at_ + j
  · subst e
    rw [if_pos rfl, if_pos (by omega), show at_ + j - at_ = j by omega]
  · rw [if_neg e]
    by_cases h : at_ <= i /\ i < at_ + j
    · rw [if_pos h, if_pos (by omega)]
    · rw [if_neg h, if_neg (by omega)]
def rWriteS (u : Int) (name : ByteArray) (at_ : Int) (bs : List UInt8) (ρ : RSys) : RSys :=
  if rWriteC u name at_ bs ρ = 0 then (rFetchS u.toNat name at_.toNat bs.length ρ).updC u.toNat name (fun c => wrTo c at_.toNat bs bs.length) else ρ
set_option maxHeartbeats 1000000 in
theorem rWrite_c (h : RSysAt w r ρ) (hG : RGood ρ) (u : Int) (name : ByteArray) (at_ : Int) {l : SV} {bs : List UInt8} (hl : RdSl w l bs) (hlo : ∀ b ∈ blkOf l, b < w.heap.size /\ r.o b = none) :
    Calls Tryz.prog 29 #[r.ptr, .int .i64 u, .string name, .int .i64 at_, .slice l.a l.len l.cap] w fun e w' => e = .returned (.int .i64 (rWriteC u name at_ bs ρ)) /\ ∃ r', RLeft w w' r r' (rWriteS u name at_ bs ρ) := by
  refine F29_calls _ u name at_ l w _ ?_
  have hll := hl.len
  refine Calls.mono (both_c h u name) ?_
  rintro e w1 ⟨rfl, rfl⟩
  have bad : ∀ w2, ∀ m, rWriteC u name at_ bs ρ = m -> m ≠ 0 -> Pu w1 w2 -> Ending.returned (.int .i64 m) = Ending.returned (.int .i64 (rWriteC u name at_ bs ρ)) /\ ∃ r', RLeft w1 w2 r r' (rWriteS u name at_ bs ρ) := fun w2 m hm h0 hp => by
    have h0' : ¬ rWriteC u name at_ bs ρ = 0 := by rw [hm]; exact h0
    exact ⟨by rw [hm], r, by rw [rWriteS, if_neg h0']; exact RLeft.of_pu h hp⟩
  refine ⟨_, rfl, Br.of (fun h1 => ?_) (fun h1 => ?_)⟩
  · have h1 : rBoth u name ρ ≠ 0 := by simpa using h1
    exact bad w1 _ (by rw [rWriteC, rReadC, if_neg h1]) h1 (Pu.refl _)
  have h1 : rBoth u name ρ = 0 := by simpa using h1
  obtain ⟨⟨v, rfl, hv⟩, b, hb⟩ := rBoth_zero h1
  have hsz := hG.fsz name b hb
  refine Calls.mono (inside_c h hb (by omega) at_ _) ?_
  rintro e w2 ⟨rfl, hp2⟩
  rw [hll]
  refine ⟨_, rfl, Br.of (fun h2 => ?_) (fun h2 => ?_)⟩
  · have h2 : insideB b at_ (bs.length : Int) = false := by simpa using h2
    exact bad w2 1 (by rw [rWriteC, rReadC, if_pos h1, hb]; simp [h2]) (by decide) hp2
  have h2 : insideB b at_ (bs.length : Int) = true := by simpa using h2
  have hC : rWriteC (v : Int) name at_ bs ρ = 0 := by rw [rWriteC, rReadC, if_pos h1, hb]; simp [h2]
  obtain ⟨i1, i2, i3, i4⟩ := inside_iff.1 h2
  obtain ⟨a0, rfl⟩ : ∃ a : Nat, at_ = (a : Int) := ⟨at_.toNat, by omega⟩
  refine Calls.mono (fetch_c (h.pu hp2) hv hb hsz (hG.cin v hv name b hb) a0 bs.length (by omega)) ?_
  rintro e w3 ⟨rfl, r', L3⟩
  refine ⟨rfl, ?_⟩
  have eS : (if bs.length = 0 then ρ else ρ.setC v name (rFetch (ρ.cOf v name) b a0 bs.length)) = rFetchS v name a0 bs.length ρ := by rw [rFetchS, hb]; rfl
  rw [eS] at L3
  have hrS : rWriteS (v : Int) name (a0 : Int) bs ρ = (rFetchS v name a0 bs.length ρ).updC v name (fun c => wrTo c a0 bs bs.length) := by rw [rWriteS, if_pos hC]; simp
  rw [hrS, hC]
  have hptr := L3.ptr
  have hz2 := hp2.size
  have hz3 := L3.fr.size
  -- the bytes stay
  have hl3 : RdSl w3 l bs := rdsl_fr (hl.pu hp2) L3.fr fun x hx => by rw [(hlo x hx).2]; simp
  have hlo3 : ∀ x ∈ blkOf l, r'.o x = none := fun x hx => by
    cases ho : r'.o x with
    | none => rfl
    | some κ =>
      rcases L3.own x (by rw [ho]; simp) with h3 | h3
      · exact absurd (hlo x hx).2 h3
      · have := (hlo x hx).1; omega
  obtain ⟨s, hlook, hrow, hown, hcs⟩ := L3.sys.cache hv name
  obtain ⟨c, hcd⟩ : ∃ c, c = (rFetchS v name a0 bs.length ρ).cOf v name := ⟨_, rfl⟩
  have Lall := RLeft.trans (RLeft.of_pu h hp2) L3
  refine loopUp bs.length (fun j t w' => t = (j : Int) /\ RowAt w' 116 3 s ((wrTo c a0 bs j).flatMap B3.cells) /\ Fr (fun x => r'.o x = some (.c v name)) w3 w') ⟨rfl, by rw [wrTo_zero, hcd]; exact hrow, Fr.refl _ _⟩ ?_
  rintro j J t w4 hj ⟨rfl, hrow4, hf4⟩ hJ
  unfold F29_2
  rw [hll]
  refine Br.of (fun c1 => ?_) (fun c1 => ?_)
  · have hjn : j < bs.length := by have := dtrue c1; omega
    have hlen : c.length = b.length := by rw [hcd]; exact fetch_len hb (by omega)
    have hsl : s.len = c.length := by have := hrow4.len B3.len (by omega); rw [this, wrTo, rm_len]
    refine dwE_intro fun w5 hp5 hh5 => ?_
    have hf5 : Fr (fun x => r'.o x = some (.c v name)) w3 w5 := hf4.trans (Fr.pu hp5 : Fr (fun _ => False) _ _) fun _ hx _ => hx.elim
    have hrow5 := hrow4.pu hp5
    have S5 := RLeft.updC (f := fun _ => wrTo c a0 bs j) L3.sys hv (s := s) hcs hrow5 hf5 fun x _ hx => hx
    -- the map and its slice
    have hmp := (L3.sys.mp v hv).fr hf5 (by rw [L3.sys.om v hv]; simp)
    have hl5 := hmp.look keysS u69 (zval114 w5) name false
    have hl3' := (L3.sys.mp v hv).look keysS u69 (zval114 w3) name false
    simp only [Bool.false_eq_true, if_false] at hl5 hl3'
    have hlook5 : (Instr.lookup 69 (.map (some (r'.c v))) (.string name) false).run Tryz.prog w5 = .ok (.slice s.a s.len s.cap) w5 := by
      have e1 : (.ok (.slice s.a s.len s.cap) w3 : Result Value) = _ := hlook.symm.trans hl3'
      simp only [Result.ok.injEq, and_true] at e1
      rw [e1]; exact hl5
    have hcC : w5.cell? (((⟨r.S, 0, none⟩ : Addr).add 1).add (((v : Nat) : Int).toNat * 1)) = some (.map (some (r'.c v))) := by rw [← hptr]; exact S5.sys.cellC hv
    obtain ⟨x, hx⟩ := at_k hjn
    have hl5' : RdSl w5 l bs := rdsl_fr hl3 hf5 fun y hy => by rw [hlo3 y hy]; simp
    obtain ⟨a4, ha4, hi4, hc4⟩ := hl5'.u8 hx
    have hbx : bs.getD j 0 = x := by simp [List.getD, hx]
    obtain ⟨a5, ha5, hst⟩ := hrow5.stElem (t := 116) B3.len (by omega) (i := a0 + j) (by rw [wrTo, rm_len]; omega) ⟨true, true, x⟩ size116.symm rfl (K := fun w6 => J (IntKind.i64.wrap ((j : Int) + 1)) w6) fun w6 hrow6 hf6 hz6 => by
      rw [wrap_in (by omega) (by omega)]
      rw [← hbx, wrTo_step] at hrow6
      exact hJ _ _ hjn ⟨rfl, hrow6, hf5.trans hf6 fun y hy _ => hown y hy⟩
    rw [wrap_in (n := (a0 : Int) + (j : Int)) (by omega) (by omega), show (a0 : Int) + (j : Int) = ((a0 + j : Nat) : Int) by omega]
    refine ⟨by omega, by omega, some (r'.c v), hcC, s, hlook5, a4, ha4, by omega, by omega, ((x.toNat : Nat) : Int), by rw [Int.toNat_natCast]; exact hc4, a5, ha5, by omega, by omega, ?_⟩
    rw [Int.toNat_natCast]
    exact hst
  · have c1 := dfalse c1
    have hjn : j = bs.length := by omega
    subst hjn
    refine ⟨rfl, r', RLeft.trans Lall (RLeft.updC (f := fun c => wrTo c a0 bs bs.length) L3.sys hv (s := s) hcs (by rw [← hcd]; exact hrow4) hf4 fun x _ hx => hx)⟩
end Go.Proofs.YtnigfiljenfgjaaGreat

/- The disk's reference: locks. -/
set_option maxRecDepth 100000
set_option linter.unusedVariables false
set_option linter.unusedSimpArgs false
namespace Go.Proofs.YtnigfiljenfgjaaGreat
open Go.Sh Go.RowKit
variable {w w' : World} {r : RLay} {ρ : RSys}
theorem u71 : Tryz.prog.underlying 71 = some (.slice 127) := by kernel_rfl
theorem info127 : (Tryz.prog.info? 127).map (fun i => (i.zero, i.size, i.bytes)) = some (some (.agg #[.int .i64 0, .string ⟨#[]⟩, .int .i64 0, .int .i64 0]), 4, 40) := by kernel_rfl
def RLay.putL (r : RLay) (s : SV) (N : Nat) : RLay := { r with ls := s, o := fun b => if N <= b /\ b ∈ blkOf s then some .ls else r.o b }
theorem RLeft.putL (h : RSysAt w r ρ) {s : SV} {l : List Lock} {B : Nat -> Prop} (hst : w'.heap[r.S]? = some (.cells #[.slice r.fs.a r.fs.len r.fs.cap, .map (some (r.c 0)), .map (some (r.c 1)), .map (some (r.c 2)), .map (some (r.c 3)), .slice s.a s.len s.cap] 73)) (hrow : RowAt w' 127 4 s (l.flatMap Lock.cells)) (hf : Fr B w w')
    (hB : ∀ b, b < w.heap.size -> B b -> r.o b = some .S ∨ r.o b = some .ls) (hs : ∀ b ∈ blkOf s, r.o b = some .ls ∨ w.heap.size <= b) : RLeft w w' r (r.putL s w.heap.size) { ρ with held := l } := by
  have hlt := h.lt
  have ho : ∀ b, r.o b ≠ none -> (r.putL s w.heap.size).o b = r.o b := fun b hb => by
    have := hlt b hb
    simp only [RLay.putL]
    rw [if_neg (by omega)]
  have hnB : ∀ {b : Nat} {κ : RKey}, r.o b = some κ -> κ ≠ .S -> κ ≠ .ls -> ¬ B b := fun {b κ} hb h1 h2 hBb => by
    rcases hB b (hlt b (by rw [hb]; simp)) hBb with h3 | h3
    · rw [hb] at h3; exact h1 (Option.some.inj h3)
    · rw [hb] at h3; exact h2 (Option.some.inj h3)
  refine ⟨⟨hst, h.fl.fr hf fun b hb => hnB (h.ofs b hb) (by simp) (by simp), fun f hf' => (h.fbs f hf').fr hf fun b hb => hnB (h.of f hf' b hb) (by simp) (by simp), h.fnd, fun v hv => (h.mp v hv).fr hf (hnB (h.om v hv) (by simp) (by simp)), fun v hv q hq => (h.cb v hv q hq).fr hf fun b hb => hnB (h.oc v hv q hq b hb) (by simp) (by simp), hrow, ?_, fun b hb => ?_, fun b hb => ?_, fun v hv => ?_, fun f hf' b hb => ?_, fun v hv q hq b hb => ?_, fun b hb => ?_⟩, hf.mono fun b hb hlt => ?_, fun b hb => ?_, rfl⟩
  · rw [show (r.putL s w.heap.size).S = r.S from rfl, ho _ (by rw [h.oS]; simp)]; exact h.oS
  · rw [ho _ (by rw [h.ofs b hb]; simp)]; exact h.ofs b hb
  · rcases hs b hb with h1 | h1
    · rw [ho _ (by rw [h1]; simp)]; exact h1
    · simp only [RLay.putL]; rw [if_pos ⟨h1, hb⟩]
  · rw [show (r.putL s w.heap.size).c = r.c from rfl, ho _ (by rw [h.om v hv]; simp)]; exact h.om v hv
  · rw [ho _ (by rw [h.of f hf' b hb]; simp)]; exact h.of f hf' b hb
  · rw [ho _ (by rw [h.oc v hv q hq b hb]; simp)]; exact h.oc v hv q hq b hb
  · simp only [RLay.putL] at hb
    split at hb
    · rename_i h1; exact hrow.lt b h1.2
    · exact Nat.lt_of_lt_of_le (hlt b hb) hf.size
  · rcases hB b hlt hb with h1 | h1 <;> rw [h1] <;> simp
  · simp only [RLay.putL] at hb
    split at hb
    · rename_i h1; exact .inr h1.1
    · exact .inl hb
theorem rMeets_c (w : World) (l : Lock) (hl : l.ok) (name : ByteArray) {at_ n : Int} (ha : 0 <= at_ /\ at_ <= 131072) (hn : 0 <= n /\ n <= 131072) :
    Calls Tryz.prog 78 #[l.val, .string name, .int .i64 at_, .int .i64 n] w fun e w' => e = .returned (.bool (meetsB name at_ n l)) /\ Pu w w' := by
  obtain ⟨h1, h2, h3, h4⟩ := hl
  refine F78_calls _ _ _ _ _ _ _ w _ ?_
  refine alE_intro fun w1 hw1 => ?_
  have hp1 : Pu w w1 := by rw [hw1]; exact Pu.alloc w _
  have hb1 : w1.heap[w.heap.size]? = some (.cells #[.int .i64 l.u, .string l.name, .int .i64 l.at_, .int .i64 l.n] 127) := by rw [hw1]; exact alloc_new w _
  refine ⟨l.name, by rw [add_def, cell_blk hb1]; rfl, ?_⟩
  rw [toList_beq]
  refine Br.of (fun c1 => ?_) (fun c1 => ⟨by simp [meetsB, dfalse c1], hp1⟩)
  have c1 := dtrue c1
  refine ⟨l.at_, by rw [add_def, cell_blk hb1]; rfl, ?_⟩
  rw [wrap_in (n := at_ + n) (by omega) (by omega)]
  refine Br.of (fun c2 => ?_) (fun c2 => ⟨by have := dfalse c2; rw [meetsB, decide_eq_false fun h => this h.2.1], hp1⟩)
  have c2 := dtrue c2
  refine ⟨l.at_, by rw [add_def, cell_blk hb1]; rfl, l.n, by rw [add_def, cell_blk hb1]; rfl, ?_, hp1⟩
  rw [wrap_in (n := l.at_ + l.n) (by omega) (by omega)]
  simp only [meetsB, c1, c2, true_and]
def inPg (i at_ n : Nat) : Bool := decide (at_ / 32 <= i / 32 /\ i / 32 <= (at_ + n - 1) / 32)
theorem touched_c {s : SV} {l : List B3} (hrow : RowAt w 116 3 s (l.flatMap B3.cells)) (hl : l.length <= 1000000) {i : Nat} {x : B3} (hx : l[i]? = some x) {at_ n : Nat} (ha : at_ <= 131072) (hn : 1 <= n /\ n <= 131072) :
    Calls Tryz.prog 79 #[.slice s.a s.len s.cap, .int .i64 (i : Int), .int .i64 (at_ : Int), .int .i64 (n : Int)] w fun e w' => e = .returned (.bool (x.is && inPg i at_ n)) /\ w' = w := by
  refine F79_calls s _ _ _ w _ ?_
  have hi := (List.getElem?_eq_some_iff.1 hx).1
  have hlen := hrow.len B3.len (by omega)
  obtain ⟨a, ha', hil, hcell⟩ := hrow.elem B3.len hx (o := 0) (v := .bool x.is) rfl
  have e0 : ∀ a : Addr, a.add 0 = a := fun a => by simp [Addr.add]
  rw [e0] at hcell
  refine ⟨rfl, by decide, a, ha', by omega, by omega, x.is, by rw [Int.toNat_natCast]; exact hcell, Br.of (fun c1 => ?_) (fun c1 => ?_)⟩
  · refine ⟨rfl, by decide, ?_⟩
    rw [tdiv32, tdiv32, wrap_in (by omega) (by omega), wrap_in (by omega) (by omega)]
    refine Br.of (fun c2 => ?_) (fun c2 => ?_)
    · have c2 := dtrue c2
      refine ⟨rfl, by decide, ?_, rfl⟩
      rw [wrap_in (n := (at_ : Int) + (n : Int)) (by omega) (by omega), wrap_in (n := (at_ : Int) + (n : Int) - 1) (by omega) (by omega), show (at_ : Int) + (n : Int) - 1 = ((at_ + n - 1 : Nat) : Int) by omega, tdiv32, wrap_in (by omega) (by omega), c1]
      simp only [inPg, Bool.true_and]
      congr 2
      exact decide_eq_decide.2 ⟨fun h => ⟨by omega, by omega⟩, fun h => by omega⟩
    · have c2 := dfalse c2
      refine ⟨?_, rfl⟩
      rw [c1, inPg, decide_eq_false (by omega)]; rfl
  · exact ⟨by rw [c1]; rfl, rfl⟩
def rLockC (u : Int) (name : ByteArray) (at_ n : Int) (ρ : RSys) : Int :=
  if rBoth u name ρ = 0 then (if at_ < 0 then 1 else if n < 1 then 1 else if at_ > 131072 then 1 else if n > 131072 - at_ then 1 else
    if ρ.held.any (fun l => decide (l.u = u) && meetsB name at_ n l) then 5 else if ρ.held.any (meetsB name at_ n) then 12 else 0) else rBoth u name ρ
def refrTo (c : List B3) (b : List UInt8) (at_ n k : Nat) : List B3 := rm c.length fun i => let x := c.getD i B3.zero
  if i < k /\ x.is = true /\ inPg i at_ n = true /\ x.di = false then { x with b := b.getD i 0 } else x
def rLockS (u : Int) (name : ByteArray) (at_ n : Int) (ρ : RSys) : RSys :=
  if rLockC u name at_ n ρ = 0 then ({ ρ with held := ρ.held ++ [⟨u, name, at_, n⟩] } : RSys).updC u.toNat name (fun c => refrTo c ((AL.get ρ.files name).getD []) at_.toNat n.toNat c.length) else ρ
theorem refrTo_zero (c : List B3) (b : List UInt8) (at_ n : Nat) : refrTo c b at_ n 0 = c := by
  conv => rhs; rw [rm_of c B3.zero]
  exact rm_ext fun i hi => by simp
theorem refrTo_step {c : List B3} {b : List UInt8} {at_ n k : Nat} (h : (c.getD k B3.zero).is = true /\ inPg k at_ n = true /\ (c.getD k B3.zero).di = false) : (refrTo c b at_ n k).set k { c.getD k B3.zero with b := b.getD k 0 } = refrTo c b at_ n (k + 1) := by
  unfold refrTo
  rw [rm_set]
  refine rm_ext fun i hi => ?_
  by_cases e : i = k
  · subst e; simp only [if_true]; rw [if_pos ⟨by omega, h⟩]
  · simp only [if_neg e]
    by_cases hlt : i < k
    · simp only [hlt, show i < k + 1 by omega]
    · simp only [hlt, show ¬ i < k + 1 by omega]
theorem refrTo_skip {c : List B3} {b : List UInt8} {at_ n k : Nat} (h : ¬ ((c.getD k B3.zero).is = true /\ inPg k at_ n = true /\ (c.getD k B3.zero).di = false)) : refrTo c b at_ n k = refrTo c b at_ n (k + 1) := by
  refine rm_ext fun i hi => ?_
  by_cases e : i = k
  · subst e; simp only []; rw [if_neg (by simp), if_neg (fun h2 => h h2.2)]
  · by_cases hlt : i < k
    · simp only [hlt, show i < k + 1 by omega]
    · simp only [hlt, show ¬ i < k + 1 by omega]
theorem refrTo_at {c : List B3} {b : List UInt8} {at_ n k : Nat} (hk : k < c.length) : (refrTo c b at_ n k)[k]? = some (c.getD k B3.zero) := by
  unfold refrTo
  rw [rm_get _ hk]
  simp
set_option maxHeartbeats 1000000 in
theorem rLock_c (h : RSysAt w r ρ) (hG : RGood ρ) (hok : ∀ l ∈ ρ.held, l.ok) (hcnt : ρ.held.length <= 1000000) (u : Int) (name : ByteArray) (at_ n : Int) :
    Calls Tryz.prog 30 #[r.ptr, .int .i64 u, .string name, .int .i64 at_, .int .i64 n] w fun e w' => e = .returned (.int .i64 (rLockC u name at_ n ρ)) /\ ∃ r', RLeft w w' r r' (rLockS u name at_ n ρ) := by
  refine F30_calls _ u name at_ n w _ ?_
  refine Calls.mono (both_c h u name) ?_
  rintro e w1 ⟨rfl, rfl⟩
  have bad : ∀ w2, ∀ m, rLockC u name at_ n ρ = m -> m ≠ 0 -> Pu w1 w2 -> Ending.returned (.int .i64 m) = Ending.returned (.int .i64 (rLockC u name at_ n ρ)) /\ ∃ r', RLeft w1 w2 r r' (rLockS u name at_ n ρ) := fun w2 m hm h0 hp => by
    have h0' : ¬ rLockC u name at_ n ρ = 0 := by rw [hm]; exact h0
    exact ⟨by rw [hm], r, by rw [rLockS, if_neg h0']; exact RLeft.of_pu h hp⟩
  refine ⟨_, rfl, Br.of (fun h1 => ?_) (fun h1 => ?_)⟩
  · have h1 : rBoth u name ρ ≠ 0 := by simpa using h1
    exact bad w1 _ (by rw [rLockC, if_neg h1]) h1 (Pu.refl _)
  have h1 : rBoth u name ρ = 0 := by simpa using h1
  obtain ⟨⟨v, rfl, hv⟩, b, hb⟩ := rBoth_zero h1
  refine Br.of (fun c1 => bad w1 1 (by rw [rLockC, if_pos h1, if_pos (dtrue c1)]) (by decide) (Pu.refl _)) (fun c1 => ?_)
  have c1 := dfalse c1
  refine Br.of (fun c2 => bad w1 1 (by rw [rLockC, if_pos h1, if_neg c1, if_pos (dtrue c2)]) (by decide) (Pu.refl _)) (fun c2 => ?_)
  have c2 := dfalse c2
  refine Br.of (fun c3 => bad w1 1 (by rw [rLockC, if_pos h1, if_neg c1, if_neg c2, if_pos (dtrue c3)]) (by decide) (Pu.refl _)) (fun c3 => ?_)
  have c3 := dfalse c3
  rw [wrap_in (n := 131072 - at_) (by omega) (by omega)]
  refine Br.of (fun c4 => bad w1 1 (by rw [rLockC, if_pos h1, if_neg c1, if_neg c2, if_neg c3, if_pos (dtrue c4)]) (by decide) (Pu.refl _)) (fun c4 => ?_)
  have c4 := dfalse c4
  have hC : rLockC (v : Int) name at_ n ρ = if ρ.held.any (fun l => decide (l.u = (v : Int)) && meetsB name at_ n l) then 5 else if ρ.held.any (meetsB name at_ n) then 12 else 0 := by rw [rLockC, if_pos h1, if_neg c1, if_neg c2, if_neg c3, if_neg c4]
  have hhl := h.lk.len Lock.len (by omega)
  -- the locks are looked through
  refine loopUp ρ.held.length (fun k t w' => t.2 = (k : Int) /\ Pu w1 w' /\ t.1 = (ρ.held.take k).any (meetsB name at_ n) /\ (ρ.held.take k).any (fun l => decide (l.u = (v : Int)) && meetsB name at_ n l) = false) ⟨rfl, Pu.refl _, rfl, rfl⟩ ?_
  rintro k J ⟨busy, t⟩ w2 hk ⟨ht, hp2, hbusy, hmine⟩ hJ
  obtain rfl : t = (k : Int) := ht
  have hbusy : busy = (ρ.held.take k).any (meetsB name at_ n) := hbusy
  dsimp only
  have h2 := h.pu hp2
  refine ⟨r.ls, h2.cell5, Br.of (fun hlt => ?_) (fun hge => ?_)⟩
  · have hlt : k < ρ.held.length := by have := dtrue hlt; omega
    obtain ⟨l, hl⟩ := at_k hlt
    have hlm := List.mem_of_getElem? hl
    obtain ⟨a, ha, hi, d0⟩ := h2.lk.elem Lock.len hl (o := 0) (v := .int .i64 l.u) rfl
    obtain ⟨a1, ha1, _, d1⟩ := h2.lk.elem Lock.len hl (o := 1) (v := .string l.name) rfl
    obtain ⟨a2, ha2, _, d2⟩ := h2.lk.elem Lock.len hl (o := 2) (v := .int .i64 l.at_) rfl
    obtain ⟨a3, ha3, _, d3⟩ := h2.lk.elem Lock.len hl (o := 3) (v := .int .i64 l.n) rfl
    rw [ha] at ha1 ha2 ha3; cases ha1; cases ha2; cases ha3
    refine ⟨r.ls, h2.cell5, a, ha, by omega, by omega, l.u, by rw [Int.toNat_natCast]; exact d0, l.name, by rw [Int.toNat_natCast]; exact d1, l.at_, by rw [Int.toNat_natCast]; exact d2, l.n, by rw [Int.toNat_natCast]; exact d3, ?_⟩
    refine Calls.mono (rMeets_c w2 l (hok l hlm) name (at_ := at_) (n := n) (by omega) (by omega)) ?_
    rintro e w3 ⟨rfl, hp3⟩
    have h3 := h2.pu hp3
    have htk : ρ.held.take (k + 1) = ρ.held.take k ++ [l] := by rw [List.take_add_one, hl]; rfl
    have e0 : ∀ a : Addr, a.add 0 = a := fun a => by simp [Addr.add]
    refine ⟨_, rfl, Br.of (fun c5 => ?_) (fun c5 => ?_)⟩
    · refine ⟨r.ls, h3.cell5, a, ha, by omega, by omega, l.u, by rw [Int.toNat_natCast]; have := hp3.cell d0; rw [e0] at this; exact this, Br.of (fun c6 => ?_) (fun c6 => ?_)⟩
      · have c6 : l.u = (v : Int) := by simpa using c6
        refine bad w3 5 ?_ (by decide) (hp2.trans hp3)
        rw [hC, if_pos]
        rw [List.any_eq_true]
        exact ⟨l, hlm, by simp [c6, c5]⟩
      · have c6 : l.u ≠ (v : Int) := by simpa using c6
        rw [wrap_in (by omega) (by omega)]
        refine hJ _ _ hlt ⟨rfl, hp2.trans hp3, ?_, ?_⟩
        · show true = _
          rw [htk, List.any_append]; simp [c5]
        · rw [htk, List.any_append, hmine]; simp [c6]
    · show J _ _
      rw [wrap_in (by omega) (by omega)]
      refine hJ _ _ hlt ⟨rfl, hp2.trans hp3, ?_, ?_⟩
      · show busy = _
        rw [htk, List.any_append, hbusy]; simp [c5]
      · rw [htk, List.any_append, hmine]; simp [c5]
  have hge := dfalse hge
  rw [List.take_of_length_le (by omega)] at hbusy hmine
  refine Br.of (fun c5 => ?_) (fun c5 => ?_)
  · exact bad w2 12 (by rw [hC, hmine, ← hbusy, c5]; rfl) (by decide) hp2
  have hC0 : rLockC (v : Int) name at_ n ρ = 0 := by rw [hC, hmine, ← hbusy, c5]; rfl
  obtain ⟨a0, rfl⟩ : ∃ a : Nat, at_ = (a : Int) := ⟨at_.toNat, by omega⟩
  obtain ⟨n0, rfl⟩ : ∃ a : Nat, n = (a : Int) := ⟨n.toNat, by omega⟩
  rw [hC0]
  have hrS : rLockS (v : Int) name (a0 : Int) (n0 : Int) ρ = ({ ρ with held := ρ.held ++ [⟨(v : Int), name, (a0 : Int), (n0 : Int)⟩] } : RSys).updC v name (fun c => refrTo c b a0 n0 c.length) := by rw [rLockS, if_pos hC0, hb]; simp
  rw [hrS]
  -- the lock is taken
  refine ⟨r.ls, h2.cell5, ?_⟩
  refine alE_intro fun w3 hw3 => ?_
  have hp3 : Pu w2 w3 := by rw [hw3]; exact Pu.alloc w2 _
  have hn3 : w3.heap[w2.heap.size]? = some (.cells (Lock.cells ⟨(v : Int), name, (a0 : Int), (n0 : Int)⟩).toArray 127) := by rw [hw3]; exact alloc_new w2 _
  have h3 := h2.pu hp3
  obtain ⟨ix, q1, q2, q3, q4⟩ := info_parts info127
  obtain ⟨s', w4, hra, hrow4, hf4, hblk4, _⟩ := row_append (P := Tryz.prog) (ty := 71) u71 q1 q2 q3 rfl (by omega) h3.lk (a := ⟨w2.heap.size, 0, none⟩) (m := 1) (c := 1) (news := Lock.cells ⟨(v : Int), name, (a0 : Int), (n0 : Int)⟩) rfl (fun j x hx => by
    rw [add_def, cell_blk hn3, Nat.zero_add]; simpa using hx) (fun x hx => by simp [Lock.cells] at hx; rcases hx with rfl | rfl | rfl | rfl <;> rfl) (by rw [q4, hhl]; omega)
  refine ⟨s', w4, hra, ?_⟩
  have hst4 := hf4.blk h3.st fun hx => by have := h3.ols _ hx; rw [h3.oS] at this; cases this
  rw [ptrE_some, show (⟨r.S, 0, none⟩ : Addr).add 5 = ⟨r.S, 0 + 5, none⟩ from add_def _ _ _]
  refine st1_intro hst4 (by show 0 + 5 < 6; omega) fun w5 hw5 hb5 => ?_
  have hf5 : Fr (· = r.S) w4 w5 := by rw [hw5]; exact Fr.cell w4 _ _ _
  have hlt4 := hrow4.lt
  have L5 := RLeft.putL (w' := w5) (B := fun x => x ∈ blkOf r.ls ∨ x = r.S) h3 (s := s') (l := ρ.held ++ [⟨(v : Int), name, (a0 : Int), (n0 : Int)⟩]) (by simpa using hb5) (by
      rw [List.flatMap_append, List.flatMap_singleton]
      refine hrow4.fr hf5 fun x hx hxe => ?_
      have hxe : x = r.S := hxe
      rcases hblk4 x hx with h5 | h5
      · have := h3.ols x h5; rw [hxe, h3.oS] at this; cases this
      · have := h3.lt r.S (by rw [h3.oS]; simp); omega) ((hf4.mono fun x hx _ => .inl hx).trans hf5 fun x hx _ => .inr hx) (fun x _ hx => by
      rcases hx with hx | hx
      · exact .inr (h3.ols x hx)
      · exact .inl (by rw [hx]; exact h3.oS)) (fun x hx => by
      rcases hblk4 x hx with h5 | h5
      · exact .inl (h3.ols x h5)
      · exact .inr h5)
  have L := RLeft.trans (RLeft.of_pu h (hp2.trans hp3)) L5
  refine dwE_intro fun w6 hp6 hh6 => ?_
  have S6 := L.sys.pu hp6
  obtain ⟨r5, hr5⟩ : ∃ r5, r5 = r.putL s' w3.heap.size := ⟨_, rfl⟩
  rw [← hr5] at L5 L S6
  have hpt : r5.S = r.S := L.ptr
  have hptr5 : r.ptr = r5.ptr := by rw [RLay.ptr, RLay.ptr, hpt]
  refine ⟨fun w' => w' = w6, rfl, r5.fs, fun w' e => by rw [e, ← hpt]; exact S6.cell0, ?_⟩
  show Calls Tryz.prog 42 #[r.ptr, .string name] w6 _
  rw [hptr5]
  refine Calls.mono (at_c S6 name) ?_
  rintro e w7 ⟨m, rfl, hat, rfl⟩
  obtain ⟨kf, rfl, hkf⟩ := hat.some (show AL.get ρ.files name = some b from hb)
  obtain ⟨af, haf, hif, hcellf, hrowf, hlenf⟩ := S6.file hkf
  refine ⟨_, rfl, rfl, af, haf, by omega, by omega, r5.fb name, fun w' e => by rw [e, Int.toNat_natCast]; exact hcellf, ?_⟩
  obtain ⟨s, hlook, hrow, hown, hcs⟩ := S6.cache hv name
  refine ⟨by omega, by omega, some (r5.c v), by rw [← hpt]; exact S6.cellC hv, s, w7, hlook, ?_⟩
  obtain ⟨c, hcd⟩ : ∃ c, c = ρ.cOf v name := ⟨_, rfl⟩
  have hrow : RowAt w7 116 3 s (c.flatMap B3.cells) := by rw [hcd]; exact hrow
  have hcb : c.length <= b.length := by rw [hcd]; exact hG.cin v hv name b hb
  have hsz := hG.fsz name b hb
  have hsl := hrow.len B3.len (by omega)
  refine loopUp c.length (fun j t w' => t = (j : Int) /\ RowAt w' 116 3 s ((refrTo c b a0 n0 j).flatMap B3.cells) /\ Fr (fun x => r5.o x = some (.c v name)) w7 w') ⟨rfl, by rw [refrTo_zero]; exact hrow, Fr.refl _ _⟩ ?_
  rintro j J t w8 hj ⟨rfl, hrow8, hf8⟩ hJ
  refine Br.of (fun d1 => ?_) (fun d1 => ?_)
  · have hjn : j < c.length := by have := dtrue d1; omega
    have hxj := refrTo_at (b := b) (at_ := a0) (n := n0) hjn
    refine Calls.mono (touched_c hrow8 (by rw [refrTo, rm_len]; omega) hxj (by omega) (by omega)) ?_
    rintro e w9 ⟨rfl, rfl⟩
    have skip : ¬ ((c.getD j B3.zero).is = true /\ inPg j a0 n0 = true /\ (c.getD j B3.zero).di = false) -> J (IntKind.i64.wrap ((j : Int) + 1)) w9 := fun hs => by
      rw [wrap_in (by omega) (by omega)]
      exact hJ _ _ hjn ⟨rfl, by rw [← refrTo_skip hs]; exact hrow8, hf8⟩
    refine ⟨_, rfl, Br.of (fun d2 => ?_) (fun d2 => ?_)⟩
    · have d2 : (c.getD j B3.zero).is = true /\ inPg j a0 n0 = true := by simpa using d2
      obtain ⟨a9, ha9, hi9, hc9⟩ := hrow8.elem B3.len hxj (o := 1) (v := .bool (c.getD j B3.zero).di) rfl
      refine ⟨a9, ha9, by omega, by omega, _, by rw [Int.toNat_natCast]; exact hc9, Br.of (fun d3 => ?_) (fun d3 => ?_)⟩
      · have d3 : (c.getD j B3.zero).di = false := by simpa using d3
        have hrowf9 := hrowf.fr hf8 fun x hx => by rw [S6.of _ (List.mem_of_getElem? hkf) x hx]; simp
        obtain ⟨x, hx⟩ : ∃ x, b[j]? = some x := at_k (by omega)
        obtain ⟨ab, hab, hcb', _⟩ := hrowf9.cell (j := j) (v := u8V x) (by simp [hx])
        have hbx : b.getD j 0 = x := by simp [List.getD, hx]
        obtain ⟨a10, ha10, hst⟩ := hrow8.stField B3.len (i := j) (o := 2) (by rw [refrTo, rm_len]; exact hjn) (by omega) { c.getD j B3.zero with b := x } (u8V x) (fun y hy => by rw [hxj] at hy; cases hy; rfl) (K := fun w6 => J (IntKind.i64.wrap ((j : Int) + 1)) w6) fun w10 hrow10 hf10 _ => by
          rw [wrap_in (by omega) (by omega)]
          rw [← hbx, refrTo_step ⟨d2.1, d2.2, d3⟩] at hrow10
          exact hJ _ _ hjn ⟨rfl, hrow10, hf8.trans hf10 fun y hy _ => hown y hy⟩
        refine ⟨ab, hab, by omega, by omega, ((x.toNat : Nat) : Int), by rw [Int.toNat_natCast, Nat.mul_one]; exact hcb', a10, ha10, by omega, by omega, ?_⟩
        rw [Int.toNat_natCast]
        exact hst
      · have d3 : (c.getD j B3.zero).di = true := by simpa using d3
        exact skip (by rw [d3]; simp)
    · have d2 : ¬ ((c.getD j B3.zero).is = true /\ inPg j a0 n0 = true) := by simpa using d2
      exact skip fun h => d2 ⟨h.1, h.2.1⟩
  · have d1 := dfalse d1
    have hjn : j = c.length := by omega
    subst hjn
    refine ⟨rfl, r5, RLeft.trans L (RLeft.trans (RLeft.of_pu L.sys hp6) (RLeft.updC (f := fun c => refrTo c b a0 n0 c.length) S6 hv (s := s) hcs ?_ hf8 fun x _ hx => hx))⟩
    show RowAt w8 116 3 s ((refrTo (ρ.cOf v name) b a0 n0 (ρ.cOf v name).length).flatMap B3.cells)
    rw [← hcd]
    exact hrow8
end Go.Proofs.YtnigfiljenfgjaaGreat

/- The disk's reference: bytes written to the disk; giving a lock up; flushing. -/
set_option maxRecDepth 100000
set_option linter.unusedVariables false
set_option linter.unusedSimpArgs false
namespace Go.Proofs.YtnigfiljenfgjaaGreat
open Go.Sh Go.RowKit
variable {w w' : World} {r : RLay} {ρ : RSys}
def RSys.setFC (ρ : RSys) (u : Nat) (name : ByteArray) (f : List UInt8) (c : List B3) : RSys := { files := AL.put ρ.files name f, caches := fun v => if v = u then AL.put (ρ.caches u) name c else ρ.caches v, held := ρ.held }
theorem AL.keys_old {κ ν : Type} [DecidableEq κ] {l : List (κ × ν)} {k : κ} (h : AL.get l k ≠ none) (v : ν) : (AL.put l k v).map Prod.fst = l.map Prod.fst := by
  induction l with
  | nil => exact absurd rfl h
  | cons p l ih =>
    obtain ⟨a, b⟩ := p
    simp only [AL.get] at h
    simp only [AL.put]
    by_cases e : a = k
    · simp [e]
    · simp only [if_neg e] at h ⊢
      simp only [List.map_cons, ih h]
theorem fcells_put (fb : ByteArray -> SV) {l : List (ByteArray × List UInt8)} {k : ByteArray} (h : AL.get l k ≠ none) (v : List UInt8) : (AL.put l k v).flatMap (fcells fb) = l.flatMap (fcells fb) := by
  induction l with
  | nil => exact absurd rfl h
  | cons p l ih =>
    obtain ⟨a, b⟩ := p
    simp only [AL.get] at h
    simp only [AL.put]
    by_cases e : a = k
    · simp [e, fcells]
    · simp only [if_neg e] at h ⊢
      simp only [List.flatMap_cons, ih h]
theorem RSysAt.rowFC (h : RSysAt w r ρ) {u : Nat} (hu : u < 4) {name : ByteArray} (hf0 : AL.get ρ.files name ≠ none) (hg : AL.get (ρ.caches u) name ≠ none) {f : List UInt8} {l : List B3} {B : Nat -> Prop} (hrowF : RowAt w' 5 1 (r.fb name) (f.map u8V)) (hrow : RowAt w' 116 3 (r.cs u name) (l.flatMap B3.cells)) (hf : Fr B w w')
    (hB : ∀ b, b < w.heap.size -> B b -> r.o b = some (.c u name) ∨ r.o b = some (.f name)) : RSysAt w' r (ρ.setFC u name f l) := by
  have hlt := h.lt
  have hnB : ∀ {b : Nat} {κ : RKey}, r.o b = some κ -> κ ≠ .c u name -> κ ≠ .f name -> ¬ B b := fun {b κ} hb h2 h4 hBb => by
    rcases hB b (hlt b (by rw [hb]; simp)) hBb with h3 | h3
    · rw [hb] at h3; exact h2 (Option.some.inj h3)
    · rw [hb] at h3; exact h4 (Option.some.inj h3)
  obtain ⟨f0, hf0'⟩ : ∃ x, AL.get ρ.files name = some x := by
    cases hx : AL.get ρ.files name with
    | none => exact absurd hx hf0
    | some x => exact ⟨x, rfl⟩
  refine ⟨hf.blk h.st (hnB h.oS (by simp) (by simp)), ?_, fun q hq => ?_, ?_, fun v hv => ?_, fun v hv q hq => ?_, h.lk.fr hf fun b hb => hnB (h.ols b hb) (by simp) (by simp), h.oS, h.ofs, h.ols, h.om, fun q hq b hb => ?_, fun v hv q hq b hb => ?_, fun b hb => Nat.lt_of_lt_of_le (hlt b hb) hf.size⟩
  · simp only [RSys.setFC]
    rw [fcells_put _ hf0]
    exact h.fl.fr hf fun b hb => hnB (h.ofs b hb) (by simp) (by simp)
  · simp only [RSys.setFC] at hq
    rcases AL.mem_put' h.fnd hq with rfl | ⟨hq, hne⟩
    · exact hrowF
    · exact (h.fbs q hq).fr hf fun b hb => hnB (h.of q hq b hb) (by simp) (by simp [hne])
  · simp only [RSys.setFC]
    rw [AL.keys_old hf0]; exact h.fnd
  · have hm := (h.mp v hv).fr hf (hnB (h.om v hv) (by simp) (by simp))
    by_cases e : v = u
    · subst e
      simp only [RSys.setFC, if_true]
      rw [crow_put_same _ _ hg]; exact hm
    · simp only [RSys.setFC, if_neg e]; exact hm
  · by_cases e : v = u
    · subst e
      simp only [RSys.setFC, if_true] at hq
      rcases AL.mem_put' (h.cnd hu) hq with rfl | ⟨hq, hne⟩
      · exact hrow
      · exact (h.cb v hv q hq).fr hf fun b hb => hnB (h.oc v hv q hq b hb) (by simp [hne]) (by simp)
    · simp only [RSys.setFC, if_neg e] at hq
      exact (h.cb v hv q hq).fr hf fun b hb => hnB (h.oc v hv q hq b hb) (by simp [e]) (by simp)
  · simp only [RSys.setFC] at hq
    rcases AL.mem_put' h.fnd hq with rfl | ⟨hq, hne⟩
    · exact h.of _ (AL.get_mem hf0') b hb
    · exact h.of q hq b hb
  · by_cases e : v = u
    · subst e
      simp only [RSys.setFC, if_true] at hq
      rcases AL.mem_put' (h.cnd hu) hq with rfl | ⟨hq, hne⟩
      · cases hgg : AL.get (ρ.caches v) name with
        | none => exact absurd hgg hg
        | some v0 => exact h.oc v hv _ (AL.get_mem hgg) b hb
      · exact h.oc v hv q hq b hb
    · simp only [RSys.setFC, if_neg e] at hq
      exact h.oc v hv q hq b hb
theorem RSys.setFC_self {u : Nat} {name : ByteArray} {f : List UInt8} {c : List B3} (hf : AL.get ρ.files name = some f) (hc : AL.get (ρ.caches u) name = some c) : ρ.setFC u name f c = ρ := by
  obtain ⟨a, b, d⟩ := ρ
  simp only [RSys.setFC, RSys.mk.injEq, and_true]
  refine ⟨AL.put_same hf, ?_⟩
  funext v
  split
  · rename_i e; subst e; exact AL.put_same hc
  · rfl
theorem RSys.setFC_twice (u : Nat) (name : ByteArray) (f f' : List UInt8) (c c' : List B3) : (ρ.setFC u name f c).setFC u name f' c' = ρ.setFC u name f' c' := by
  simp only [RSys.setFC, RSys.mk.injEq, and_true]
  refine ⟨AL.put_put _ _ _ _, ?_⟩
  funext v
  by_cases e : v = u
  · simp [e, AL.put_put]
  · simp [e]
theorem RSys.setFC_file (u : Nat) (name : ByteArray) (f : List UInt8) (c : List B3) : AL.get (ρ.setFC u name f c).files name = some f := by simp [RSys.setFC, AL.get_put]
theorem RSys.setFC_cache (u : Nat) (name : ByteArray) (f : List UInt8) (c : List B3) : AL.get ((ρ.setFC u name f c).caches u) name = some c := by simp [RSys.setFC, AL.get_put]
def wF (M : Nat -> Bool) (b : List UInt8) (l : List B3) : List UInt8 := rm b.length fun i => if M i && (l.getD i B3.zero).di then (l.getD i B3.zero).b else b.getD i 0
def wC (M : Nat -> Bool) (l : List B3) : List B3 := rm l.length fun i => if M i then { l.getD i B3.zero with di := false } else l.getD i B3.zero
def addM (M : Nat -> Bool) (i : Nat) : Nat -> Bool := fun j => M j || decide (j = i)
theorem wF_none (b : List UInt8) (l : List B3) : wF (fun _ => false) b l = b := by
  conv => rhs; rw [rm_of b 0]
  exact rm_ext fun i hi => by simp
theorem wC_none (l : List B3) : wC (fun _ => false) l = l := by
  conv => rhs; rw [rm_of l B3.zero]
  exact rm_ext fun i hi => by simp
theorem wC_at {M : Nat -> Bool} {l : List B3} {i : Nat} (hi : i < l.length) : (wC M l)[i]? = some (if M i then { l.getD i B3.zero with di := false } else l.getD i B3.zero) := rm_get _ hi
theorem w_dirty {M : Nat -> Bool} {b : List UInt8} {l : List B3} {i : Nat} (hm : M i = false) (hd : (l.getD i B3.zero).di = true) : (wF M b l).set i (l.getD i B3.zero).b = wF (addM M i) b l /\ (wC M l).set i { l.getD i B3.zero with di := false } = wC (addM M i) l := by
  constructor
  · unfold wF
    rw [rm_set]
    refine rm_ext fun j hj => ?_
    by_cases e : j = i
    · subst e
      rw [if_pos rfl]
      simp only [addM, decide_true, Bool.or_true, Bool.true_and]
      rw [if_pos hd]
    · simp [addM, e]
  · unfold wC
    rw [rm_set]
    refine rm_ext fun j hj => ?_
    by_cases e : j = i
    · subst e; simp [addM]
    · simp [addM, e]
theorem w_clean {M : Nat -> Bool} {b : List UInt8} {l : List B3} {i : Nat} (hd : M i = true ∨ (l.getD i B3.zero).di = false) : wF M b l = wF (addM M i) b l /\ wC M l = wC (addM M i) l := by
  constructor
  · refine rm_ext fun j hj => ?_
    by_cases e : j = i
    · subst e
      rcases hd with h | h
      · simp [addM, h]
      · simp only [h, Bool.and_false, Bool.false_eq_true, if_false]
    · simp [addM, e]
  · refine rm_ext fun j hj => ?_
    by_cases e : j = i
    · subst e
      rcases hd with h | h
      · simp [addM, h]
      · simp only [addM, decide_true, Bool.or_true, if_true]
        split
        · rfl
        · rw [← h]
    · simp [addM, e]
set_option maxHeartbeats 1000000 in
theorem writes_c {u : Nat} {name : ByteArray} {b : List UInt8} {l : List B3} {M : Nat -> Bool} (h : RSysAt w r (ρ.setFC u name (wF M b l) (wC M l))) (hu : u < 4) (hbl : l.length <= b.length) (hsz : b.length <= 1000000) {i : Nat} (hi : i < l.length) :
    Calls Tryz.prog 82 #[r.ptr, .string name, .int .i64 (i : Int), .slice (r.cs u name).a (r.cs u name).len (r.cs u name).cap] w fun e w' => e = .returned (.tuple #[]) /\ RLeft w w' r r (ρ.setFC u name (wF (addM M i) b l) (wC (addM M i) l)) := by
  refine F82_calls _ name _ _ w _ ?_
  have hcg := RSys.setFC_cache (ρ := ρ) u name (wF M b l) (wC M l)
  have hfg := RSys.setFC_file (ρ := ρ) u name (wF M b l) (wC M l)
  have hcm := AL.get_mem hcg
  have hrow : RowAt w 116 3 (r.cs u name) ((wC M l).flatMap B3.cells) := h.cb u hu _ hcm
  have hown := h.oc u hu _ hcm
  have hlc : (wC M l).length = l.length := rm_len _ _
  have hlf : (wF M b l).length = b.length := rm_len _ _
  have hsl := hrow.len B3.len (by omega)
  have hx := wC_at (M := M) hi
  obtain ⟨x, hxd⟩ : ∃ x, x = if M i then { l.getD i B3.zero with di := false } else l.getD i B3.zero := ⟨_, rfl⟩
  rw [← hxd] at hx
  obtain ⟨a, ha, hil, hc1⟩ := hrow.elem B3.len hx (o := 1) (v := .bool x.di) rfl
  refine ⟨a, ha, by omega, by omega, x.di, by rw [Int.toNat_natCast]; exact hc1, Br.of (fun d1 => ?_) (fun d1 => ?_)⟩
  · have hm : M i = false := by
      cases hmi : M i with
      | false => rfl
      | true => rw [hmi] at hxd; simp at hxd; rw [hxd] at d1; cases d1
    rw [hm] at hxd
    have hxd : x = l.getD i B3.zero := by simpa using hxd
    subst hxd
    obtain ⟨e1, e2⟩ := w_dirty (b := b) hm d1
    refine dwE_intro fun w1 hp1 hh1 => ?_
    have h1 := h.pu hp1
    have hrow1 := hrow.pu hp1
    obtain ⟨a4, ha4, _, hc4⟩ := hrow1.elem B3.len hx (o := 2) (v := u8V (l.getD i B3.zero).b) rfl
    refine ⟨fun w' => w' = w1, rfl, r.fs, fun w' e => by rw [e]; exact h1.cell0, a4, ha4, by omega, by omega, (((l.getD i B3.zero).b.toNat : Nat) : Int), fun w' e => by rw [e, Int.toNat_natCast]; exact hc4, ?_⟩
    refine Calls.mono (at_c h1 name) ?_
    rintro e w2 ⟨m, rfl, hat, rfl⟩
    obtain ⟨k, rfl, hk⟩ := hat.some hfg
    obtain ⟨a6, ha6, hi6, hcell, hrowF, hlenF⟩ := h1.file hk
    refine ⟨_, rfl, rfl, a6, ha6, by omega, by omega, r.fb name, fun w' e => by rw [e, Int.toNat_natCast]; exact hcell, ?_⟩
    obtain ⟨a7, ha7, hst7⟩ := RowAt.st1 (K := fun w8 => ∃ a9 : Addr, (r.cs u name).a = some a9 /\ 0 <= (i : Int) /\ (i : Int) < (((r.cs u name).len : Nat) : Int) /\ st1 ((a9.add ((i : Int).toNat * 3)).add 1) (.bool false) w8 fun w10 => runD Tryz.prog [] w10 fun w11 => (Ending.returned (.tuple #[]) = Ending.returned (.tuple #[]) /\ RLeft w w11 r r (ρ.setFC u name (wF (addM M i) b l) (wC (addM M i) l)))) hrowF (j := i) (by rw [List.length_map, hlf]; omega) (u8V (l.getD i B3.zero).b) fun w8 hrow8 hf8 _ => by
      have hrowc8 := hrow1.fr hf8 fun y hy hyf => by
        have h5 := h1.of _ (List.mem_of_getElem? hk) y hyf
        rw [hown y hy] at h5; cases h5
      obtain ⟨a9, ha9, hst9⟩ := hrowc8.stField B3.len (i := i) (o := 1) (by rw [hlc]; exact hi) (by omega) { l.getD i B3.zero with di := false } (.bool false) (fun y hy => by rw [hx] at hy; cases hy; rfl) (K := fun w10 => runD Tryz.prog [] w10 fun w11 => (Ending.returned (.tuple #[]) = Ending.returned (.tuple #[]) /\ RLeft w w11 r r (ρ.setFC u name (wF (addM M i) b l) (wC (addM M i) l)))) fun w10 hrow10 hf10 _ => by
        rw [e2] at hrow10
        have hrowF10 : RowAt w10 5 1 (r.fb name) ((wF (addM M i) b l).map u8V) := by
          rw [← e1]
          have : (List.map u8V (wF M b l)).set i (u8V (l.getD i B3.zero).b) = ((wF M b l).set i (l.getD i B3.zero).b).map u8V := by rw [List.map_set]
          rw [this] at hrow8
          exact hrow8.fr hf10 fun y hy hyc => by
            have h5 := h1.of _ (List.mem_of_getElem? hk) y hy
            rw [hown y hyc] at h5; cases h5
        have hfr : Fr (fun y => r.o y = some (.c u name) ∨ r.o y = some (.f name)) w2 w10 := (hf8.mono fun y hy _ => .inr (h1.of _ (List.mem_of_getElem? hk) y hy)).trans hf10 fun y hy _ => .inl (hown y hy)
        have hS := RSysAt.rowFC h1 hu (name := name) (by rw [hfg]; simp) (by rw [hcg]; simp) hrowF10 hrow10 hfr fun y _ hy => hy
        rw [RSys.setFC_twice] at hS
        refine ⟨rfl, hS, (Fr.pu hp1 : Fr (fun y => r.o y ≠ none) w w2).trans (hfr.mono fun y hy _ => by rcases hy with hy | hy <;> rw [hy] <;> simp) fun y hy _ => hy, fun y hy => .inl hy, rfl⟩
      exact ⟨a9, ha9, by omega, by omega, by rw [Int.toNat_natCast]; exact hst9⟩
    exact ⟨a7, ha7, by omega, by omega, by rw [Int.toNat_natCast, Nat.mul_one]; exact hst7⟩
  · have hcl : M i = true ∨ (l.getD i B3.zero).di = false := by
      cases hmi : M i with
      | true => exact .inl rfl
      | false => rw [hmi] at hxd; simp at hxd; rw [hxd] at d1; exact .inr d1
    obtain ⟨e1, e2⟩ := w_clean (b := b) hcl
    rw [e1, e2] at h
    exact ⟨rfl, RLeft.refl h⟩
def dirtyL (l : List B3) : List Nat := (List.range l.length).filter fun i => (l.getD i B3.zero).di
def rDirty (u : Int) (name : ByteArray) (ρ : RSys) : List Nat := if rBoth u name ρ = 0 then dirtyL (ρ.cOf u.toNat name) else []
theorem u74 : Tryz.prog.underlying 74 = some (.slice 3) := by kernel_rfl
theorem info3 : (Tryz.prog.info? 3).map (fun i => (i.zero, i.size, i.bytes)) = some (some (.int .i64 0), 1, 8) := by kernel_rfl
def natV (n : Nat) : Value := .int .i64 (n : Int)
theorem rDirty_c (h : RSysAt w r ρ) (hG : RGood ρ) (u : Int) (name : ByteArray) : Calls Tryz.prog 38 #[r.ptr, .int .i64 u, .string name] w fun e w' => ∃ l : SV, e = .returned (.tuple #[.slice l.a l.len l.cap, .int .i64 (rBoth u name ρ)]) /\ RowAt w' 3 1 l ((rDirty u name ρ).map natV) /\ (∀ b ∈ blkOf l, w.heap.size <= b) /\ Pu w w' := by
  refine F38_calls _ u name w _ ?_
  refine Calls.mono (both_c h u name) ?_
  rintro e w1 ⟨rfl, rfl⟩
  refine ⟨_, rfl, Br.of (fun h1 => ?_) (fun h1 => ?_)⟩
  · have h1 : rBoth u name ρ ≠ 0 := by simpa using h1
    exact ⟨⟨none, 0, 0⟩, rfl, by rw [rDirty, if_neg h1]; exact RowAt.nil _ _ _, by simp [blkOf], Pu.refl _⟩
  have h1 : rBoth u name ρ = 0 := by simpa using h1
  obtain ⟨⟨v, rfl, hv⟩, b, hb⟩ := rBoth_zero h1
  have hrD : rDirty (v : Int) name ρ = dirtyL (ρ.cOf v name) := by rw [rDirty, if_pos h1]; rfl
  rw [hrD, h1]
  obtain ⟨s, hlook, hrow, hown, hcs⟩ := h.cache hv name
  refine ⟨by omega, by omega, some (r.c v), h.cellC hv, s, w1, hlook, ?_⟩
  obtain ⟨c, hcd⟩ : ∃ c, c = ρ.cOf v name := ⟨_, rfl⟩
  rw [← hcd] at hrow ⊢
  have hcl : c.length <= 65536 := by have h2 := hG.cin v hv name b hb; have h3 := hG.fsz name b hb; rw [← hcd] at h2; omega
  have hsl := hrow.len B3.len (by omega)
  refine loopUp c.length (fun j t w' => t.2 = (j : Int) /\ Pu w1 w' /\ RowAt w' 3 1 t.1 (((List.range j).filter fun i => (c.getD i B3.zero).di).map natV) /\ ∀ b ∈ blkOf t.1, w1.heap.size <= b) ⟨rfl, Pu.refl _, RowAt.nil _ _ _, by simp [blkOf]⟩ ?_
  rintro j J ⟨l9, t⟩ w2 hj ⟨ht, hp2, hrow2, hb2⟩ hJ
  obtain rfl : t = (j : Int) := ht
  have hrow2 : RowAt w2 3 1 l9 (((List.range j).filter fun i => (c.getD i B3.zero).di).map natV) := hrow2
  have hb2 : ∀ b ∈ blkOf l9, w1.heap.size <= b := hb2
  dsimp only
  refine Br.of (fun d1 => ?_) (fun d1 => ?_)
  · have hjn : j < c.length := by have := dtrue d1; omega
    obtain ⟨x, hx⟩ := at_k hjn
    have hxd : c.getD j B3.zero = x := by simp [List.getD, hx]
    obtain ⟨a, ha, hil, hc1⟩ := (hrow.pu hp2).elem B3.len hx (o := 1) (v := .bool x.di) rfl
    have hl9 : l9.len <= j := by
      have h5 := hrow2.1
      have h6 := List.length_filter_le (fun i => (c.getD i B3.zero).di) (List.range j)
      simp only [List.length_map, List.length_range, Nat.mul_one] at h5 h6
      omega
    refine ⟨a, ha, by omega, by omega, x.di, by rw [Int.toNat_natCast]; exact hc1, Br.of (fun d2 => ?_) (fun d2 => ?_)⟩
    · refine alE_intro fun w3 hw3 => ?_
      have hp3 : Pu w2 w3 := by rw [hw3]; exact Pu.alloc w2 _
      have hn3 : w3.heap[w2.heap.size]? = some (.cells #[natV j] 3) := by rw [hw3]; exact alloc_new w2 _
      obtain ⟨s', w4, hra, hrow4, hf4, hblk4, _⟩ := row_push (P := Tryz.prog) (ty := 74) u74 info3 rfl (hrow2.pu hp3) (a := ⟨w2.heap.size, 0, none⟩) (u := natV j) (by rw [cell_blk hn3]; rfl) rfl (by omega)
      refine ⟨s', w4, hra, ?_⟩
      rw [wrap_in (by omega) (by omega)]
      have z2 := hp2.size
      have z3 := hp3.size
      refine hJ _ _ hjn ⟨rfl, Pu.andNew (hp2.trans hp3) hf4 hb2, ?_, fun y hy => ?_⟩
      · show RowAt w4 3 1 s' _
        rw [List.range_succ, List.filter_append, List.map_append]
        have : [j].filter (fun i => (c.getD i B3.zero).di) = [j] := by simp only [List.filter_cons, hxd, d2, if_true, List.filter_nil]
        rw [this]
        exact hrow4
      · rcases hblk4 y hy with h5 | h5
        · exact hb2 y h5
        · omega
    · show J _ _
      rw [wrap_in (by omega) (by omega)]
      refine hJ _ _ hjn ⟨rfl, hp2, ?_, hb2⟩
      show RowAt w2 3 1 l9 _
      rw [List.range_succ, List.filter_append]
      have : [j].filter (fun i => (c.getD i B3.zero).di) = [] := by simp only [List.filter_cons, hxd, d2, Bool.false_eq_true, if_false, List.filter_nil]
      rw [this, List.append_nil]
      exact hrow2
  · have hjn : j = c.length := by have := dfalse d1; omega
    subst hjn
    exact ⟨l9, rfl, hrow2, hb2, hp2⟩
def RSys.wr (ρ : RSys) (u : Nat) (name : ByteArray) (M : Nat -> Bool) : RSys := match AL.get (ρ.caches u) name with
  | none => ρ
  | some l => ρ.setFC u name (wF M ((AL.get ρ.files name).getD []) l) (wC M l)
def rFlushC (u : Int) (name : ByteArray) (ρ : RSys) : Int := rBoth u name ρ
def rFlushN (u : Int) (name : ByteArray) (ρ : RSys) : Nat := (rDirty u name ρ).length
def rFlushS (u : Int) (name : ByteArray) (ρ : RSys) : RSys := if rBoth u name ρ = 0 then ρ.wr u.toNat name (fun i => decide (i ∈ rDirty u name ρ)) else ρ
theorem wr_none {u : Nat} {name : ByteArray} {b : List UInt8} (hb : AL.get ρ.files name = some b) : ρ.wr u name (fun _ => false) = ρ := by
  unfold RSys.wr
  split
  · rfl
  · rename_i l hl
    rw [hb]
    simp only [Option.getD_some]
    rw [wF_none, wC_none]
    exact RSys.setFC_self hb hl
theorem wr_some {u : Nat} {name : ByteArray} {b : List UInt8} {l : List B3} (hb : AL.get ρ.files name = some b) (hl : AL.get (ρ.caches u) name = some l) (M : Nat -> Bool) : ρ.wr u name M = ρ.setFC u name (wF M b l) (wC M l) := by
  unfold RSys.wr
  rw [hl, hb]; rfl
theorem wr_ext {u : Nat} {name : ByteArray} {M M' : Nat -> Bool} (h : ∀ i, M i = M' i) : ρ.wr u name M = ρ.wr u name M' := by rw [show M = M' from funext h]
set_option maxHeartbeats 1000000 in
theorem rFlush_c (h : RSysAt w r ρ) (hG : RGood ρ) (u : Int) (name : ByteArray) : Calls Tryz.prog 33 #[r.ptr, .int .i64 u, .string name] w fun e w' => e = .returned (.tuple #[.int .i64 (rFlushN u name ρ : Nat), .int .i64 (rFlushC u name ρ)]) /\ RLeft w w' r r (rFlushS u name ρ) := by
  refine F33_calls _ u name w _ ?_
  refine Calls.mono (rDirty_c h hG u name) ?_
  rintro e w1 ⟨l8, rfl, hrow1, hb1, hp1⟩
  have hl8 : l8.len = (rDirty u name ρ).length := by have := hrow1.1; simpa using this.symm
  refine ⟨l8, _, rfl, Br.of (fun h1 => ?_) (fun h1 => ?_)⟩
  · have h1 : rBoth u name ρ ≠ 0 := by simpa using h1
    exact ⟨by rw [rFlushN, rDirty, if_neg h1]; rfl, by rw [rFlushS, if_neg h1]; exact RLeft.of_pu h hp1⟩
  have h1 : rBoth u name ρ = 0 := by simpa using h1
  obtain ⟨⟨v, rfl, hv⟩, b, hb⟩ := rBoth_zero h1
  have hsz := hG.fsz name b hb
  have hcb := hG.cin v hv name b hb
  have hrD : rDirty (v : Int) name ρ = dirtyL (ρ.cOf v name) := by rw [rDirty, if_pos h1]; rfl
  obtain ⟨D, hD⟩ : ∃ D, D = rDirty (v : Int) name ρ := ⟨_, rfl⟩
  have hDl : D.length <= 65536 := by
    rw [hD, hrD]
    have h6 := List.length_filter_le (fun i => ((ρ.cOf v name).getD i B3.zero).di) (List.range (ρ.cOf v name).length)
    simp only [List.length_range] at h6
    unfold dirtyL
    omega
  rw [← hD] at hrow1 hl8
  have hfin : rFlushS (v : Int) name ρ = ρ.wr v name (fun i => decide (i ∈ D)) := by rw [rFlushS, if_pos h1, ← hD]; rfl
  rw [hfin, rFlushN, ← hD, rFlushC, h1]
  have h0 := h.pu hp1
  refine loopUp D.length (fun j t w' => t = (j : Int) /\ RLeft w1 w' r r (ρ.wr v name (fun i => decide (i ∈ D.take j)))) ⟨rfl, by
    rw [wr_ext (M' := fun _ => false) (fun i => by simp), wr_none hb]; exact RLeft.refl h0⟩ ?_
  rintro j J t w2 hj ⟨rfl, L2⟩ hJ
  refine Br.of (fun d1 => ?_) (fun d1 => ?_)
  · have hjn : j < D.length := by have := dtrue d1; omega
    obtain ⟨i, hi⟩ := at_k hjn
    have him := List.mem_of_getElem? hi
    have hi2 : i < (ρ.cOf v name).length /\ ((ρ.cOf v name).getD i B3.zero).di = true := by
      rw [hD, hrD, dirtyL, List.mem_filter, List.mem_range] at him; exact him
    refine dwE_intro fun w3 hp3 hh3 => ?_
    have hrow3 : RowAt w3 3 1 l8 (D.map natV) := (hrow1.fr L2.fr fun y hy hyo => by
      have h5 := h.lt y hyo
      have h6 := hb1 y hy
      omega).pu hp3
    obtain ⟨a3, ha3, hc3, _⟩ := hrow3.cell (j := j) (v := natV i) (by simp [hi])
    obtain ⟨l, hgl⟩ : ∃ l, AL.get (ρ.caches v) name = some l := by
      cases hgl : AL.get (ρ.caches v) name with
      | none => simp [RSys.cOf, hgl] at hi2
      | some l => exact ⟨l, rfl⟩
    have hcl : ρ.cOf v name = l := by simp [RSys.cOf, hgl]
    rw [hcl] at hi2 hcb
    have S3 := L2.sys.pu hp3
    rw [wr_some hb hgl] at S3
    obtain ⟨s, hlook, hrow, hown, hcs⟩ := S3.cache hv name
    have hse : s = r.cs v name := hcs (by rw [RSys.setFC_cache]; simp)
    subst hse
    refine ⟨a3, ha3, by omega, by omega, (i : Int), by rw [Int.toNat_natCast, Nat.mul_one]; exact hc3, by omega, by omega, some (r.c v), S3.cellC hv, r.cs v name, hlook, ?_⟩
    refine Calls.mono (writes_c S3 hv hcb (by omega) hi2.1) ?_
    rintro e w4 ⟨rfl, L4⟩
    refine ⟨rfl, ?_⟩
    rw [wrap_in (by omega) (by omega)]
    refine hJ _ _ hjn ⟨rfl, ?_⟩
    rw [wr_ext (M' := addM (fun i => decide (i ∈ D.take j)) i) (fun y => by
      rw [List.take_add_one, hi]
      simp [addM, List.mem_append]), wr_some hb hgl]
    exact RLeft.trans L2 (RLeft.trans (RLeft.of_pu L2.sys hp3) L4)
  · have hjn : j = D.length := by have := dfalse d1; omega
    subst hjn
    rw [List.take_length] at L2
    exact ⟨by rw [hl8], RLeft.trans (RLeft.of_pu h hp1) L2⟩
end Go.Proofs.YtnigfiljenfgjaaGreat

/- The disk's reference: giving a lock up; forgetting; falling. -/
set_option maxRecDepth 100000
set_option linter.unusedVariables false
set_option linter.unusedSimpArgs false
namespace Go.Proofs.YtnigfiljenfgjaaGreat
open Go.Sh Go.RowKit
variable {w w' : World} {r : RLay} {ρ : RSys}
theorem struct127 : structB Tryz.prog 127 [some .i64, none, some .i64, some .i64] = true := by kernel_rfl
theorem guard127 : Tryz.prog.eqGuardType Tryz.prog.depth 127 = false := by kernel_rfl
theorem eqLock' (l k : Lock) (x y : Operand) (w : World) : (eqS .eql 127 x y (.agg #[.int .i64 l.u, .string l.name, .int .i64 l.at_, .int .i64 l.n]) (.agg #[.int .i64 k.u, .string k.name, .int .i64 k.at_, .int .i64 k.n])).run Tryz.prog w = .ok (.bool (decide (l = k))) w := by
  refine eqS_row (ks := [some .i64, none, some .i64, some .i64]) (xs := l.cells) (ys := k.cells) struct127 guard127 rfl rfl ?_ w
  rw [decide_eq_true_iff]
  constructor
  · rintro rfl; rfl
  · intro h
    obtain ⟨a, b, c, d⟩ := l
    obtain ⟨a', b', c', d'⟩ := k
    simpa [Lock.cells] using h
theorem RSysAt.lockAt (h : RSysAt w r ρ) {k : Nat} {l : Lock} (hl : ρ.held[k]? = some l) : ∃ a, r.ls.a = some a /\ k < r.ls.len /\ w.cell? ((a.add (k * 4)).add 0) = some (.int .i64 l.u) /\ w.cell? ((a.add (k * 4)).add 1) = some (.string l.name) /\ w.cell? ((a.add (k * 4)).add 2) = some (.int .i64 l.at_) /\ w.cell? ((a.add (k * 4)).add 3) = some (.int .i64 l.n) := by
  obtain ⟨a, ha, hi, d0⟩ := h.lk.elem Lock.len hl (o := 0) (v := .int .i64 l.u) rfl
  obtain ⟨a1, ha1, _, d1⟩ := h.lk.elem Lock.len hl (o := 1) (v := .string l.name) rfl
  obtain ⟨a2, ha2, _, d2⟩ := h.lk.elem Lock.len hl (o := 2) (v := .int .i64 l.at_) rfl
  obtain ⟨a3, ha3, _, d3⟩ := h.lk.elem Lock.len hl (o := 3) (v := .int .i64 l.n) rfl
  rw [ha] at ha1 ha2 ha3; cases ha1; cases ha2; cases ha3
  exact ⟨a, ha, hi, d0, d1, d2, d3⟩
theorem add0 (a : Addr) : a.add 0 = a := by simp [Addr.add]
def tch (l : List B3) (at_ n : Nat) (i : Nat) : Bool := (l.getD i B3.zero).is && inPg i at_ n
def rUnlockC (u : Int) (name : ByteArray) (at_ n : Int) (ρ : RSys) : Int := if rBoth u name ρ = 0 then (if (⟨u, name, at_, n⟩ : Lock) ∈ ρ.held then 0 else 4) else rBoth u name ρ
def rUnlockS (u : Int) (name : ByteArray) (at_ n : Int) (ρ : RSys) : RSys :=
  if rUnlockC u name at_ n ρ = 0 then { ρ.wr u.toNat name (tch (ρ.cOf u.toNat name) at_.toNat n.toNat) with held := ρ.held.erase ⟨u, name, at_, n⟩ } else ρ
theorem wr_held (u : Nat) (name : ByteArray) (M : Nat -> Bool) : (ρ.wr u name M).held = ρ.held := by
  unfold RSys.wr
  split <;> rfl
set_option maxHeartbeats 2000000 in
theorem rUnlock_c (h : RSysAt w r ρ) (hG : RGood ρ) (hok : ∀ l ∈ ρ.held, l.ok /\ 1 <= l.n) (hcnt : ρ.held.length <= 1000000) (u : Int) (name : ByteArray) (at_ n : Int) :
    Calls Tryz.prog 32 #[r.ptr, .int .i64 u, .string name, .int .i64 at_, .int .i64 n] w fun e w' => e = .returned (.int .i64 (rUnlockC u name at_ n ρ)) /\ ∃ r', RLeft w w' r r' (rUnlockS u name at_ n ρ) := by
  refine F32_calls _ u name at_ n w _ ?_
  refine Calls.mono (both_c h u name) ?_
  rintro e w1 ⟨rfl, rfl⟩
  refine ⟨_, rfl, Br.of (fun h1 => ?_) (fun h1 => ?_)⟩
  · have h1 : rBoth u name ρ ≠ 0 := by simpa using h1
    have hC : rUnlockC u name at_ n ρ = rBoth u name ρ := by rw [rUnlockC, if_neg h1]
    exact ⟨by rw [hC], r, by rw [rUnlockS, hC, if_neg h1]; exact RLeft.refl h⟩
  have h1 : rBoth u name ρ = 0 := by simpa using h1
  obtain ⟨⟨v, rfl, hv⟩, b, hb⟩ := rBoth_zero h1
  have hhl := h.lk.len Lock.len (by omega)
  have hsz := hG.fsz name b hb
  have hcb := hG.cin v hv name b hb
  obtain ⟨lk, hlk⟩ : ∃ lk : Lock, lk = ⟨(v : Int), name, at_, n⟩ := ⟨_, rfl⟩
  refine loopUp ρ.held.length (fun k t w' => w' = w1 /\ t = (k : Int) /\ ∀ j, j < k -> ρ.held[j]? ≠ some lk) ⟨rfl, rfl, fun j hj => by omega⟩ ?_
  rintro k J t w2 hk ⟨rfl, rfl, hall⟩ hJ
  refine ⟨r.ls, h.cell5, Br.of (fun d1 => ?_) (fun d1 => ?_)⟩
  · have hkn : k < ρ.held.length := by have := dtrue d1; omega
    obtain ⟨l, hl⟩ := at_k hkn
    obtain ⟨a, ha, hi, c0, c1, c2, c3⟩ := h.lockAt hl
    refine ⟨r.ls, h.cell5, a, ha, by omega, by omega, l.u, by rw [Int.toNat_natCast]; exact c0, l.name, by rw [Int.toNat_natCast]; exact c1, l.at_, by rw [Int.toNat_natCast]; exact c2, l.n, by rw [Int.toNat_natCast]; exact c3, decide (l = lk), w2, by rw [hlk]; exact eqLock' l ⟨(v : Int), name, at_, n⟩ _ _ w2, Br.of (fun d2 => ?_) (fun d2 => ?_)⟩
    · have d2 : l = lk := dtrue d2
      subst d2
      have hmem := List.mem_of_getElem? hl
      obtain ⟨⟨o1, o2, o3, o4⟩, o5⟩ := hok l hmem
      have hla : l.at_ = at_ := by rw [hlk]
      have hln : l.n = n := by rw [hlk]
      rw [hla] at o1 o2
      rw [hln] at o3 o4 o5
      obtain ⟨a0, rfl⟩ : ∃ a : Nat, at_ = (a : Int) := ⟨at_.toNat, by omega⟩
      obtain ⟨n0, rfl⟩ : ∃ a : Nat, n = (a : Int) := ⟨n.toNat, by omega⟩
      have hC : rUnlockC (v : Int) name (a0 : Int) (n0 : Int) ρ = 0 := by rw [rUnlockC, if_pos h1, ← hlk, if_pos hmem]
      have hS : rUnlockS (v : Int) name (a0 : Int) (n0 : Int) ρ = { ρ.wr v name (tch (ρ.cOf v name) a0 n0) with held := ρ.held.erase l } := by rw [rUnlockS, if_pos hC, ← hlk]; simp
      have hers : ρ.held.erase l = ρ.held.eraseIdx k := (erase_first hl hall).symm
      rw [hC, hS, hers]
      obtain ⟨s, hlook, hrow, hown, hcs⟩ := h.cache hv name
      refine ⟨by omega, by omega, some (r.c v), h.cellC hv, s, w2, hlook, ?_⟩
      obtain ⟨c, hcd⟩ : ∃ c, c = ρ.cOf v name := ⟨_, rfl⟩
      rw [← hcd] at hrow hcb ⊢
      have hsl := hrow.len B3.len (by omega)
      refine loopUp c.length (fun j t w' => t = (j : Int) /\ RLeft w2 w' r r (ρ.wr v name (fun i => decide (i < j) && tch c a0 n0 i))) ⟨rfl, by rw [wr_ext (M' := fun _ => false) (fun i => by simp), wr_none hb]; exact RLeft.refl h⟩ ?_
      rintro j J2 t w3 hj ⟨rfl, L3⟩ hJ2
      refine Br.of (fun d3 => ?_) (fun d3 => ?_)
      · have hjn : j < c.length := by have := dtrue d3; omega
        obtain ⟨l0, hgl⟩ : ∃ l, AL.get (ρ.caches v) name = some l := by
          cases hgl : AL.get (ρ.caches v) name with
          | none => rw [hcd] at hjn; simp [RSys.cOf, hgl] at hjn
          | some l => exact ⟨l, rfl⟩
        have hcl : c = l0 := by rw [hcd]; simp [RSys.cOf, hgl]
        subst hcl
        have hse : s = r.cs v name := hcs (by rw [hgl]; simp)
        subst hse
        have S3 := L3.sys
        rw [wr_some hb hgl] at S3
        have hrow3 := S3.cb v hv _ (AL.get_mem (RSys.setFC_cache (ρ := ρ) v name (wF (fun i => decide (i < j) && tch c a0 n0 i) b c) (wC (fun i => decide (i < j) && tch c a0 n0 i) c)))
        have hx := wC_at (M := fun i => decide (i < j) && tch c a0 n0 i) hjn
        simp only [Nat.lt_irrefl, decide_false, Bool.false_and, Bool.false_eq_true, if_false] at hx
        refine Calls.mono (touched_c hrow3 (by rw [wC, rm_len]; omega) hx (at_ := a0) (n := n0) (by omega) (by omega)) ?_
        rintro e w4 ⟨rfl, rfl⟩
        have nextM : ∀ t : Bool, tch c a0 n0 j = t -> ∀ i, (decide (i < j + 1) && tch c a0 n0 i) = (if t then addM (fun i => decide (i < j) && tch c a0 n0 i) j i else (decide (i < j) && tch c a0 n0 i)) := fun t ht i => by
          by_cases e : i = j
          · subst e; cases t <;> simp [addM, ht]
          · have : decide (i < j + 1) = decide (i < j) := decide_eq_decide.2 ⟨fun h => by omega, fun h => by omega⟩
            cases t <;> simp [addM, e, this]
        refine ⟨_, rfl, Br.of (fun d4 => ?_) (fun d4 => ?_)⟩
        · refine Calls.mono (writes_c S3 hv hcb (by omega) hjn) ?_
          rintro e w5 ⟨rfl, L5⟩
          refine ⟨rfl, ?_⟩
          rw [wrap_in (by omega) (by omega)]
          refine hJ2 _ _ hjn ⟨rfl, ?_⟩
          rw [wr_ext (M' := addM (fun i => decide (i < j) && tch c a0 n0 i) j) (fun i => by rw [nextM true d4 i]; rfl), wr_some hb hgl]
          exact RLeft.trans L3 L5
        · rw [wrap_in (by omega) (by omega)]
          refine hJ2 _ _ hjn ⟨rfl, ?_⟩
          rw [wr_ext (M' := fun i => decide (i < j) && tch c a0 n0 i) (fun i => by rw [nextM false d4 i]; rfl)]
          exact L3
      · have hjn : j = c.length := by have := dfalse d3; omega
        subst hjn
        have hwr : ρ.wr v name (fun i => decide (i < c.length) && tch c a0 n0 i) = ρ.wr v name (tch c a0 n0) := wr_ext fun i => by
          by_cases e : i < c.length
          · simp [e]
          · have : c[i]? = none := List.getElem?_eq_none (by omega)
            simp [tch, List.getD, this, B3.zero]
        rw [hwr] at L3
        -- the lock goes
        refine dwE_intro fun w4 hp4 hh4 => ?_
        have S4 := L3.sys.pu hp4
        have hheld : (ρ.wr v name (tch c a0 n0)).held = ρ.held := wr_held v name _
        have hlk4 : RowAt w4 127 4 r.ls (ρ.held.flatMap Lock.cells) := by have := S4.lk; rw [hheld] at this; exact this
        have hcap := hlk4.le_cap
        have hml : maxLen = 9223372036854775807 := by unfold maxLen; omega
        rw [wrap_in (n := (k : Int) + 1) (by omega) (by omega), Int.toNat_natCast, show ((k : Int) + 1).toNat = k + 1 by omega]
        refine ⟨fun w' => w'.heap[r.S]? = some (.cells #[.slice r.fs.a r.fs.len r.fs.cap, .map (some (r.c 0)), .map (some (r.c 1)), .map (some (r.c 2)), .map (some (r.c 3)), .slice r.ls.a r.ls.len r.ls.cap] 73), S4.st, r.ls, fun w' e => by rw [add_def, cell_blk e]; rfl, by omega, by omega, by omega, r.ls, fun w' e => by rw [add_def, cell_blk e]; rfl, by omega, by omega, by omega, ?_⟩
        obtain ⟨p1, p2⟩ := hlk4.part Lock.len (by omega) (lo := 0) (m := k) (by omega)
        obtain ⟨s5, w5, hra5, hrow5, hf5, hblk5, hl5⟩ := row_append_any (P := Tryz.prog) (ty := 71) u71 info127 rfl (by omega) (RowAt.nil w4 127 4) p1 p2 (fun x hx => by
          obtain ⟨l', _, hx⟩ := List.mem_flatMap.1 hx
          simp [Lock.cells] at hx
          rcases hx with rfl | rfl | rfl | rfl <;> rfl) (c := r.ls.cap - 0) (by show (0 + k) * (40 + 1) <= _; omega)
        refine ⟨s5, w5, hra5, ?_⟩
        have hp5 : Pu w4 w5 := hf5.toPu fun i hi => by simp [blkOf] at hi
        have hst5 := hp5.blk S4.st
        refine ⟨hst5, ?_⟩
        have hlk5 := hlk4.pu hp5
        obtain ⟨q1, q2⟩ := hlk5.part Lock.len (by omega) (lo := k + 1) (m := ρ.held.length - (k + 1)) (by omega)
        rw [List.nil_append] at hrow5
        have hs5 : ∀ y ∈ blkOf s5, w4.heap.size <= y := fun y hy => by
          rcases hblk5 y hy with h5 | h5
          · simp [blkOf] at h5
          · exact h5
        have hl5' : s5.len = k := by have : (⟨none, 0, 0⟩ : SV).len = 0 := rfl; omega
        obtain ⟨s6, w6, hra6, hrow6, hf6, hblk6, hl6⟩ := row_append_any (P := Tryz.prog) (ty := 71) u71 info127 rfl (by omega) hrow5 q1 q2 (fun x hx => by
          obtain ⟨l', _, hx⟩ := List.mem_flatMap.1 hx
          simp [Lock.cells] at hx
          rcases hx with rfl | rfl | rfl | rfl <;> rfl) (c := r.ls.cap - (k + 1)) (by rw [hl5']; show _ * (40 + 1) <= _; omega)
        rw [← hhl] at hra6
        refine ⟨s6, w6, hra6, ?_⟩
        have hst6 := hf6.blk hst5 fun hx => by have := hs5 _ hx; have := S4.lt r.S (by rw [S4.oS]; simp); omega
        rw [ptrE_some, add_def]
        refine st1_intro hst6 (by show 0 + 5 < 6; omega) fun w7 hw7 hb7 => ?_
        have hf7 : Fr (· = r.S) w6 w7 := by rw [hw7]; exact Fr.cell w6 _ _ _
        have hs6 : ∀ y ∈ blkOf s6, w4.heap.size <= y := fun y hy => by
          rcases hblk6 y hy with h5 | h5
          · exact hs5 y h5
          · have := hp5.size; omega
        have hfl : (ρ.held.take k).flatMap Lock.cells ++ ((ρ.held.drop (k + 1)).take (ρ.held.length - (k + 1))).flatMap Lock.cells = (ρ.held.eraseIdx k).flatMap Lock.cells := by
          rw [List.eraseIdx_eq_take_drop_succ, List.flatMap_append, List.take_of_length_le (l := ρ.held.drop (k + 1)) (by rw [List.length_drop]; exact Nat.le_refl _)]
        rw [List.drop_zero, hfl] at hrow6
        have hfr : Fr (fun y => y = r.S ∨ w4.heap.size <= y) w4 w7 := ((Fr.pu hp5 : Fr (fun y => y = r.S ∨ w4.heap.size <= y) w4 w5).trans hf6 fun y hy _ => .inr (hs5 y hy)).trans hf7 fun y hy _ => .inl hy
        have hSlt := S4.lt r.S (by rw [S4.oS]; simp)
        have L7 := RLeft.putL (w' := w7) S4 (s := s6) (l := ρ.held.eraseIdx k) (by simpa using hb7) (hrow6.fr hf7 fun y hy hye => by have := hs6 y hy; have hye : y = r.S := hye; omega) hfr (fun y hlt hy => by
          rcases hy with hy | hy
          · exact .inl (by rw [hy]; exact S4.oS)
          · omega) (fun y hy => .inr (hs6 y hy))
        exact ⟨rfl, _, RLeft.trans L3 (RLeft.trans (RLeft.of_pu L3.sys hp4) L7)⟩
    · have d2 : l ≠ lk := dfalse d2
      show J _ _
      rw [wrap_in (by omega) (by omega)]
      refine hJ _ _ hkn ⟨rfl, rfl, fun j hj => ?_⟩
      by_cases e : j = k
      · subst e; rw [hl]; simp; exact d2
      · exact hall j (by omega)
  · have hkn : k = ρ.held.length := by have := dfalse d1; omega
    subst hkn
    have hno : lk ∉ ρ.held := fun hm => by
      obtain ⟨j, hj, e⟩ := List.getElem_of_mem hm
      exact hall j hj (by rw [List.getElem?_eq_getElem hj, e])
    have hC : rUnlockC (v : Int) name at_ n ρ = 4 := by rw [rUnlockC, if_pos h1, ← hlk, if_neg hno]
    exact ⟨by rw [hC], r, by rw [rUnlockS, hC]; exact RLeft.refl h⟩
end Go.Proofs.YtnigfiljenfgjaaGreat
