import Derived.Test.YtnigfiljenfgjaaGreatDzOwH
import Derived.Test.YtnigfiljenfgjaaGreatDzOwC
import Derived.Test.YtnigfiljenfgjaaGreatShTwenty
import Derived.Test.YtnigfiljenfgjaaGreatShTwentyThree
import Derived.ChangeKeysEq
/- The disk: an act that is played at both systems tells the same, all acts. -/
set_option maxRecDepth 100000
set_option linter.unusedVariables false
set_option linter.unusedSimpArgs false
namespace Go.Proofs.YtnigfiljenfgjaaGreat
open Go.Sh Go.RowKit
variable {w0 : Kp} {w w1 : World} {d d' : Lay} {r r' : RLay} {σ σ' : Sys} {ρ ρ' : RSys} {N : Nat}
set_option maxHeartbeats 4000000 in
theorem played_c (B : Base w0 w d r σ ρ) (O : Ok N σ ρ) (hN : N <= 400) (n0 n1 n2 n3 : Int) (name by_ : ByteArray) (hby : by_.size <= 100000) :
    Calls Tryz.prog 11 #[d.ptr, r.ptr, .agg #[.int .i64 n0, .int .i64 n1, .int .i64 n2, .int .i64 n3, .string name, .string by_]] w fun e w' => e = .returned (.bool true) /\ Pst w0 N w' d r ρ := by
  refine F11_calls _ _ n0 n1 n2 n3 name by_ w _ ?_
  refine alE_intro fun w1 hw1 => ?_
  have hp1 : Pu w w1 := by rw [hw1]; exact Pu.alloc w _
  have hb1 : w1.heap[w.heap.size]? = some (.cells #[.int .i64 n0, .int .i64 n1, .int .i64 n2, .int .i64 n3, .string name, .string by_] 31) := by rw [hw1]; exact alloc_new w _
  have B1 := B.pure hp1
  have hown : w.heap.size ∉ d.own := fun hx => by have := B.a.lt _ hx; omega
  obtain ⟨S, hS⟩ : ∃ S : World -> Prop, S = fun wx => wx.heap[w.heap.size]? = some (.cells #[.int .i64 n0, .int .i64 n1, .int .i64 n2, .int .i64 n3, .string name, .string by_] 31) := ⟨_, rfl⟩
  have hc1 : ∀ wx, S wx -> wx.cell? ((⟨w.heap.size, 0, none⟩ : Addr).add 1) = some (.int .i64 n1) := fun wx hx => by rw [hS] at hx; exact cellAt hx rfl
  have hc2 : ∀ wx, S wx -> wx.cell? ((⟨w.heap.size, 0, none⟩ : Addr).add 2) = some (.int .i64 n2) := fun wx hx => by rw [hS] at hx; exact cellAt hx rfl
  have hc3 : ∀ wx, S wx -> wx.cell? ((⟨w.heap.size, 0, none⟩ : Addr).add 3) = some (.int .i64 n3) := fun wx hx => by rw [hS] at hx; exact cellAt hx rfl
  have hc4 : ∀ wx, S wx -> wx.cell? ((⟨w.heap.size, 0, none⟩ : Addr).add 4) = some (.string name) := fun wx hx => by rw [hS] at hx; exact cellAt hx rfl
  have hc5 : ∀ wx, S wx -> wx.cell? ((⟨w.heap.size, 0, none⟩ : Addr).add 5) = some (.string by_) := fun wx hx => by rw [hS] at hx; exact cellAt hx rfl
  have hc0 : ∀ wx, S wx -> wx.cell? ((⟨w.heap.size, 0, none⟩ : Addr).add 0) = some (.int .i64 n0) := fun wx hx => by rw [hS] at hx; exact cellAt hx rfl
  have hS1 : S w1 := by rw [hS]; exact hb1
  have hSp : ∀ {wa wb : World}, S wa -> Pu wa wb -> S wb := fun {wa wb} ha hp => by rw [hS] at ha ⊢; exact hp.blk ha
  have hSf : ∀ {wa wb : World}, S wa -> Fr (· ∈ d.own) wa wb -> S wb := fun {wa wb} ha hf => by rw [hS] at ha ⊢; exact hf.blk ha hown
  refine ⟨n0, by rw [cell_blk hb1]; rfl, rfl, by decide, rfl, by decide, ?_⟩
  refine Br.of (fun _ => ?_) (fun _ => Br.of (fun _ => ?_) (fun _ => Br.of (fun _ => ?_) (fun _ => Br.of (fun _ => ?_) (fun _ => Br.of (fun _ => ?_) (fun _ => Br.of (fun _ => ?_) (fun _ => Br.of (fun _ => ?_) (fun _ => Br.of (fun _ => ?_) (fun _ => ?_))))))))
  · -- reading
    refine ⟨n1, hc1 _ hS1, name, hc4 _ hS1, n2, hc2 _ hS1, n3, hc3 _ hS1, ?_⟩
    refine Calls.mono (two_read B1 O hN n1 name n2 n3) ?_
    rintro e w3 ⟨l, n, bs, rfl, hf, hcall⟩
    have hS3 := hSf hS1 hf
    refine ⟨l, n, rfl, n1, hc1 _ hS3, name, hc4 _ hS3, n2, hc2 _ hS3, n3, hc3 _ hS3, Calls.mono hcall ?_⟩
    rintro e w4 ⟨l2, rfl, hr1, hr2, P⟩
    obtain ⟨s1, hs1, hd1⟩ := conv_str hr1
    obtain ⟨s2, hs2, hd2⟩ := conv_str hr2
    exact ⟨l2, n, rfl, s1, w4, hs1, s2, w4, hs2, Br.t (same_str hd1 hd2) ⟨by simp, P⟩⟩
  · -- writing
    refine dwE_intro fun w2 hp2 _ => ?_
    have B2 := B1.pure hp2
    have hS2 := hSp hS1 hp2
    have hsz : by_.size <= 140737488355328 := by omega
    refine ⟨S, hS2, n1, hc1, name, hc4, n2, hc2, by_, hc5, n1, hc1, name, hc4, n2, hc2, by_, hc5, ?_⟩
    have newout : ∀ {wa wb : World} {l : SV}, Base w0 wa d r σ ρ -> l.a = some ⟨wa.heap.size, 0, none⟩ -> wb.heap.size = wa.heap.size + 1 -> ∀ b ∈ blkOf l, b < wb.heap.size /\ b ∉ d.own /\ r.o b = none := fun {wa wb l} Ba hla hz b hb => by
      have hb : b = wa.heap.size := by simpa [blkOf, hla] using hb
      subst hb
      refine ⟨by omega, fun hx => by have := Ba.a.lt _ hx; omega, ?_⟩
      cases ho : r.o wa.heap.size with
      | none => rfl
      | some k => have := Ba.b.lt wa.heap.size (by rw [ho]; simp); omega
    have fin : ∀ (a b : Int), a = b -> (a == b) = true := fun a b h => by rw [h]; simp
    -- both slices are made, then the calls
    have both : ∀ {wx : World} {l83 l94 : SV}, Base w0 wx d r σ ρ -> S wx -> RdSl wx l83 by_.data.toList -> RdSl wx l94 by_.data.toList -> (∀ b ∈ blkOf l83, b < wx.heap.size /\ b ∉ d.own /\ r.o b = none) -> (∀ b ∈ blkOf l94, b < wx.heap.size /\ b ∉ d.own /\ r.o b = none) ->
        Calls Tryz.prog 25 #[.pointer (some ⟨d.S, 0, none⟩), .int .i64 n1, .string name, .int .i64 n2, .slice l83.a l83.len l83.cap] wx fun e w10 => ∃ n84 : Int, e = .returned (.int .i64 n84) /\ S w10 /\
        Calls Tryz.prog 29 #[.pointer (some ⟨r.S, 0, none⟩), .int .i64 n1, .string name, .int .i64 n2, .slice l94.a l94.len l94.cap] w10 fun e w12 => ∃ n95 : Int, e = .returned (.int .i64 n95) /\ runD Tryz.prog [] w12 fun w13 => (Ending.returned (.bool (n84 == n95)) = Ending.returned (.bool true) /\ Pst w0 N w13 d r ρ) := fun {wx l83 l94} Bx hSx h83 h94 o83 o94 => by
      refine Calls.mono (write_one Bx O n1 name n2 h83 (rdsl_out Bx o83).1) ?_
      rintro e w10 ⟨rfl, hf, d', B', hdS, hdo⟩
      refine ⟨_, rfl, hSf hSx hf, ?_⟩
      have h94' : RdSl w10 l94 by_.data.toList := rdsl_fr h94 hf fun b hb hx => (o94 b hb).2.1 hx
      have hz := hf.size
      refine Calls.mono (write_two B' O hN hdS h94' fun b hb => ⟨by have := (o94 b hb).1; omega, (o94 b hb).2.2⟩) ?_
      rintro e w12 ⟨rfl, P⟩
      exact ⟨_, rfl, by rw [fin _ _ rfl], P⟩
    refine ⟨?_, ?_⟩
    · obtain ⟨l83, w9, hr9, hp9, h83, ha83, hz9⟩ := conv_new (P := Tryz.prog) u9 u29 u5 by_ hsz w2
      have B9 := B2.pure hp9
      have hS9 := hSp hS2 hp9
      have o83 := newout (wb := w9) B2 ha83 hz9
      refine ⟨l83, w9, hr9, hS9, ?_, ?_⟩
      · refine Calls.mono (write_one B9 O n1 name n2 h83 (rdsl_out B9 o83).1) ?_
        rintro e w10 ⟨rfl, hf, d', B', hdS, hdo⟩
        have hS10 := hSf hS9 hf
        refine ⟨_, rfl, hS10, ?_⟩
        obtain ⟨l94, w11, hr11, hp11, h94, ha94, hz11⟩ := conv_new (P := Tryz.prog) u9 u29 u5 by_ hsz w10
        refine ⟨l94, w11, hr11, hSp hS10 hp11, ?_⟩
        refine Calls.mono (write_two (B'.pure hp11) O hN hdS h94 fun b hb => ?_) ?_
        · have hb : b = w10.heap.size := by simpa [blkOf, ha94] using hb
          subst hb
          refine ⟨by omega, ?_⟩
          cases ho : r.o w10.heap.size with
          | none => rfl
          | some k => have := B'.b.lt w10.heap.size (by rw [ho]; simp); omega
        · rintro e w12 ⟨rfl, P⟩
          exact ⟨_, rfl, by rw [fin _ _ rfl], P⟩
      · obtain ⟨l94, w14, hr14, hp14, h94, ha94, hz14⟩ := conv_new (P := Tryz.prog) u9 u29 u5 by_ hsz w9
        have hS14 := hSp hS9 hp14
        exact ⟨l94, w14, hr14, hS14, both (B9.pure hp14) hS14 (h83.pu hp14) h94 (fun b hb => ⟨by have := (o83 b hb).1; omega, (o83 b hb).2⟩) (newout (wb := w14) B9 ha94 hz14)⟩
    · obtain ⟨l94, w18, hr18, hp18, h94, ha94, hz18⟩ := conv_new (P := Tryz.prog) u9 u29 u5 by_ hsz w2
      have B18 := B2.pure hp18
      have hS18 := hSp hS2 hp18
      have o94 := newout (wb := w18) B2 ha94 hz18
      obtain ⟨l83, w19, hr19, hp19, h83, ha83, hz19⟩ := conv_new (P := Tryz.prog) u9 u29 u5 by_ hsz w18
      have hS19 := hSp hS18 hp19
      exact ⟨l94, w18, hr18, hS18, l83, w19, hr19, hS19, both (B18.pure hp19) hS19 h83 (h94.pu hp19) (newout (wb := w19) B18 ha83 hz19) (fun b hb => ⟨by have := (o94 b hb).1; omega, (o94 b hb).2⟩)⟩
  · -- locking
    refine dwE_intro fun w2 hp2 _ => ?_
    have hS2 := hSp hS1 hp2
    refine ⟨S, hS2, n1, hc1, name, hc4, n2, hc2, n3, hc3, n1, hc1, name, hc4, n2, hc2, n3, hc3, ?_⟩
    refine Calls.mono (two_lock (B1.pure hp2) O hN n1 name n2 n3) ?_
    rintro e w3 ⟨n, rfl, hf, hcall⟩
    refine ⟨n, rfl, hSf hS2 hf, Calls.mono hcall ?_⟩
    rintro e w4 ⟨rfl, P⟩
    exact ⟨n, rfl, by simp, P⟩
  · -- unlocking
    refine dwE_intro fun w2 hp2 _ => ?_
    have hS2 := hSp hS1 hp2
    refine ⟨S, hS2, n1, hc1, name, hc4, n2, hc2, n3, hc3, n1, hc1, name, hc4, n2, hc2, n3, hc3, ?_⟩
    refine Calls.mono (two_unlock (B1.pure hp2) O hN n1 name n2 n3) ?_
    rintro e w3 ⟨n, rfl, hf, hcall⟩
    refine ⟨n, rfl, hSf hS2 hf, Calls.mono hcall ?_⟩
    rintro e w4 ⟨rfl, P⟩
    exact ⟨n, rfl, by simp, P⟩
  · -- flushing
    refine ⟨n1, hc1 _ hS1, name, hc4 _ hS1, ?_⟩
    refine Calls.mono (two_flush B1 O n1 name) ?_
    rintro e w3 ⟨a, b, rfl, hf, hcall⟩
    have hS3 := hSf hS1 hf
    refine ⟨a, b, rfl, n1, hc1 _ hS3, name, hc4 _ hS3, Calls.mono hcall ?_⟩
    rintro e w4 ⟨rfl, P⟩
    exact ⟨a, b, rfl, Br.t (by simp) ⟨by simp, P⟩⟩
  · -- forgetting
    refine ⟨n1, hc1 _ hS1, name, hc4 _ hS1, ?_⟩
    refine Calls.mono (two_forget B1 O n1 name) ?_
    rintro e w3 ⟨a, b, rfl, hf, hcall⟩
    have hS3 := hSf hS1 hf
    refine ⟨a, b, rfl, n1, hc1 _ hS3, name, hc4 _ hS3, Calls.mono hcall ?_⟩
    rintro e w4 ⟨rfl, P⟩
    exact ⟨a, b, rfl, Br.t (by simp) ⟨by simp, P⟩⟩
  · -- falling
    refine ⟨n1, hc1 _ hS1, ?_⟩
    refine Calls.mono (two_fall B1 O hN n1) ?_
    rintro e w3 ⟨a, b, rfl, hf, hcall⟩
    have hS3 := hSf hS1 hf
    refine ⟨a, b, rfl, n1, hc1 _ hS3, Calls.mono hcall ?_⟩
    rintro e w4 ⟨rfl, P⟩
    exact ⟨a, b, rfl, Br.t (by simp) ⟨by simp, P⟩⟩
  · -- what is dirty
    refine ⟨n1, hc1 _ hS1, name, hc4 _ hS1, ?_⟩
    refine Calls.mono (two_dirty B1 O n1 name) ?_
    rintro e w3 ⟨l, c, zs, rfl, hf, hcall⟩
    have hS3 := hSf hS1 hf
    refine ⟨l, c, rfl, n1, hc1 _ hS3, name, hc4 _ hS3, Calls.mono hcall ?_⟩
    rintro e w4 ⟨l2, rfl, hr1, hr2, d', r', σ', ρ', B', O', hd, hr, hs⟩
    refine ⟨l2, c, rfl, Calls.mono (sameInts_c hr1 hr2) ?_⟩
    rintro e w5 ⟨rfl, hp5⟩
    exact ⟨true, rfl, Br.t rfl ⟨by simp, d', r', σ', ρ', B'.pure hp5, O', hd, hr, hs⟩⟩
  · -- files
    refine ⟨n0, hc0 _ hS1, n1, hc1 _ hS1, n2, hc2 _ hS1, n3, hc3 _ hS1, name, hc4 _ hS1, by_, hc5 _ hS1, ?_⟩
    refine Calls.mono (files_c B1 O hN _ n0 n1 n2 n3 name by_) ?_
    rintro e w3 ⟨rfl, P⟩
    exact ⟨true, rfl, rfl, P⟩
end Go.Proofs.YtnigfiljenfgjaaGreat

/- The disk: scripts that are handed in; the law. No condition. -/
set_option maxRecDepth 100000
set_option linter.unusedVariables false
set_option linter.unusedSimpArgs false
namespace Go.Proofs.YtnigfiljenfgjaaGreat
open Go.Sh Go.RowKit
structure Act where
  kind : Int
  u : Int
  at_ : Int
  n : Int
  name : ByteArray
  data : ByteArray
def intOk (n : Int) : Prop := -9223372036854775808 <= n /\ n <= 9223372036854775807
def Act.ok (a : Act) : Prop := intOk a.kind /\ intOk a.u /\ intOk a.at_ /\ intOk a.n
def Act.vals (a : Act) : List Value := [.int .i64 a.kind, .int .i64 a.u, .int .i64 a.at_, .int .i64 a.n, .string a.name, .string a.data]
instance : Enc Act where
  sz := 6
  rd _ vs a := vs = a.vals /\ a.ok
  len h := by rw [h.1]; rfl
  pu _ h := h
instance : Lim Act := ⟨fun a => Lim.ok a.name /\ Lim.ok a.data⟩
theorem actAt {w : World} {s : SV} {l : List Act} (h : RdSl w s l) {i : Nat} {x : Act} (hx : l[i]? = some x) : ∃ a, s.a = some a /\ i < s.len /\ x.ok /\ w.cell? ((a.add (i * 6)).add 0) = some (.int .i64 x.kind) /\ w.cell? ((a.add (i * 6)).add 1) = some (.int .i64 x.u) /\ w.cell? ((a.add (i * 6)).add 2) = some (.int .i64 x.at_) /\
    w.cell? ((a.add (i * 6)).add 3) = some (.int .i64 x.n) /\ w.cell? ((a.add (i * 6)).add 4) = some (.string x.name) /\ w.cell? ((a.add (i * 6)).add 5) = some (.string x.data) := by
  obtain ⟨a, ha, vs, h1, h2⟩ := h.get i x hx
  obtain ⟨rfl, hok⟩ : vs = x.vals /\ x.ok := h1
  have hi : i < l.length := (List.getElem?_eq_some_iff.1 hx).1
  have h2 : CellsAt w (a.add (i * 6)) x.vals := h2
  exact ⟨a, ha, by rw [h.len]; exact hi, hok, h2 0 _ rfl, h2 1 _ rfl, h2 2 _ rfl, h2 3 _ rfl, h2 4 _ rfl, h2 5 _ rfl⟩
open Go.ChangeShapes Go.WideShapes Go.ChangeAt in
theorem opens_act : Opens Tryz.prog 31 Act := fun H enc w base sp held fuel cs x h hr => by
  obtain ⟨hl, hF⟩ := open_fields (P := Tryz.prog) (t := 31) (ts := [(3, 0), (3, 1), (3, 2), (3, 3), (9, 4), (9, 5)]) (by kernel_rfl) (by rfl) (fun p hp => by
    simp only [List.mem_cons, List.not_mem_nil, or_false] at hp
    rcases hp with rfl | rfl | rfl | rfl | rfl | rfl <;> kernel_rfl) (by kernel_rfl) h
  obtain ⟨n0, v0, d0, c0, t0, w0⟩ := hF 0 _ rfl
  obtain ⟨n1, v1, d1, c1, t1, w1⟩ := hF 1 _ rfl
  obtain ⟨n2, v2, d2, c2, t2, w2⟩ := hF 2 _ rfl
  obtain ⟨n3, v3, d3, c3, t3, w3⟩ := hF 3 _ rfl
  obtain ⟨n4, v4, d4, c4, t4, w4⟩ := hF 4 _ rfl
  obtain ⟨n5, v5, d5, c5, t5, w5⟩ := hF 5 _ rfl
  obtain ⟨x0, r0, l0⟩ := field_as (opens_int (by kernel_rfl)) t0 fun m hm => hr m (w0 m hm)
  obtain ⟨x1, r1, l1⟩ := field_as (opens_int (by kernel_rfl)) t1 fun m hm => hr m (w1 m hm)
  obtain ⟨x2, r2, l2⟩ := field_as (opens_int (by kernel_rfl)) t2 fun m hm => hr m (w2 m hm)
  obtain ⟨x3, r3, l3⟩ := field_as (opens_int (by kernel_rfl)) t3 fun m hm => hr m (w3 m hm)
  obtain ⟨x4, r4, l4⟩ := field_as (opens_str (by kernel_rfl)) t4 fun m hm => hr m (w4 m hm)
  obtain ⟨x5, r5, l5⟩ := field_as (opens_str (by kernel_rfl)) t5 fun m hm => hr m (w5 m hm)
  obtain ⟨r0, b0⟩ := r0
  obtain ⟨r1, b1⟩ := r1
  obtain ⟨r2, b2⟩ := r2
  obtain ⟨r3, b3⟩ := r3
  have r4 : [v4] = [.string x4] := r4
  have r5 : [v5] = [.string x5] := r5
  simp only [List.cons.injEq, and_true] at r0 r1 r2 r3 r4 r5
  subst r0 r1 r2 r3 r4 r5
  refine ⟨⟨x0, x1, x2, x3, x4, x5⟩, ⟨?_, b0, b1, b2, b3⟩, ⟨l4, l5⟩⟩
  have hl : cs.length = 6 := hl
  apply List.ext_getElem?
  intro i
  match i with
  | 0 => exact c0
  | 1 => exact c1
  | 2 => exact c2
  | 3 => exact c3
  | 4 => exact c4
  | 5 => exact c5
  | k + 6 => rw [List.getElem?_eq_none (by omega)]; rfl
def totA (l : List Act) : Nat := (l.map fun a => a.name.size + a.data.size).sum
theorem totA_snoc (l : List Act) (a : Act) : totA (l ++ [a]) = totA l + (a.name.size + a.data.size) := by simp [totA]
theorem totA_mem {l : List Act} {a : Act} (h : a ∈ l) : a.data.size <= totA l := by
  induction l with
  | nil => cases h
  | cons b l ih =>
    simp only [totA, List.map_cons, List.sum_cons] at *
    rcases List.mem_cons.1 h with rfl | h
    · omega
    · have := ih h; omega
theorem totA_le : ∀ (l : List Act), Lim.ok l -> totA l <= l.length * 281474976710656
  | [], _ => by simp [totA]
  | a :: l, h => by
    have h1 := totA_le l fun x hx => h x (List.mem_cons_of_mem _ hx)
    have h2 : Lim.ok a := h a (List.mem_cons_self ..)
    have h3 : a.name.size <= 140737488355328 := h2.1
    have h4 : a.data.size <= 140737488355328 := h2.2
    simp only [totA, List.map_cons, List.sum_cons, List.length_cons] at *
    omega
theorem over_c (w : World) (s : SV) (l : List Act) (h : RdSl w s l) (hlim : Lim.ok l) : Calls Tryz.prog 7 #[.slice s.a s.len s.cap] w fun e w' => ∃ b : Bool, e = .returned (.bool b) /\ Pu w w' /\ (b = false -> l.length <= 200 /\ ∀ x ∈ l, x.data.size <= 100000) := by
  refine F7_calls s w _ ?_
  have hlen := h.len
  have hl2 := h.lim
  refine loopUp l.length (fun k t w' => t.2 = (k : Int) /\ Pu w w' /\ (l.length <= 200 -> t.1 = ((totA (l.take k) : Nat) : Int))) ⟨rfl, Pu.refl _, fun _ => by simp [totA]⟩ ?_
  rintro k J ⟨n3, t⟩ w2 hk ⟨ht, hp2, hsum⟩ hJ
  obtain rfl : t = (k : Int) := ht
  dsimp only at hsum ⊢
  refine Br.of (fun d1 => ?_) (fun d1 => ?_)
  · have hkn : k < l.length := by have := dtrue d1; omega
    refine dwE_intro fun w3 hp3 _ => ?_
    obtain ⟨x, hx⟩ := at_k hkn
    obtain ⟨a, ha, hi, hok, c0, c1, c2, c3, c4, c5⟩ := actAt ((h.pu hp2).pu hp3) hx
    refine ⟨a, ha, by omega, by omega, x.name, by rw [Int.toNat_natCast]; exact c4, a, ha, by omega, by omega, x.data, by rw [Int.toNat_natCast]; exact c5, ?_⟩
    rw [wrap_in (n := (k : Int) + 1) (by omega) (by omega)]
    have htk : l.take (k + 1) = l.take k ++ [x] := by rw [List.take_add_one, hx]; rfl
    refine hJ _ _ hkn ⟨rfl, hp2.trans hp3, fun h200 => ?_⟩
    have hx2 : Lim.ok x := hlim x (List.mem_of_getElem? hx)
    have h3 : x.name.size <= 140737488355328 := hx2.1
    have h4 : x.data.size <= 140737488355328 := hx2.2
    have h5 := totA_le (l.take k) fun y hy => hlim y (List.mem_of_mem_take hy)
    rw [List.length_take, Nat.min_eq_left (by omega)] at h5
    show IntKind.i64.wrap (n3 + IntKind.i64.wrap (((x.name.size : Nat) : Int) + ((x.data.size : Nat) : Int))) = _
    rw [hsum h200, wrap_in (n := ((x.name.size : Nat) : Int) + ((x.data.size : Nat) : Int)) (by omega) (by omega), wrap_in (by omega) (by omega), htk, totA_snoc]
    omega
  · have hkn : k = l.length := by have := dfalse d1; omega
    subst hkn
    rw [List.take_length] at hsum
    refine Br.of (fun d2 => ⟨true, rfl, hp2, fun h => by cases h⟩) (fun d2 => ⟨_, rfl, hp2, fun hb => ?_⟩)
    have h200 : l.length <= 200 := by have := dfalse hb; omega
    have h1 := dfalse d2
    rw [hsum h200] at h1
    exact ⟨h200, fun x hx => by have := totA_mem hx; omega⟩
theorem newLay_own (n : Nat) : ∀ x ∈ (newLay n).own, n <= x := fun x hx => by
  simp [newLay, Lay.own, blkOf] at hx
  omega
end Go.Proofs.YtnigfiljenfgjaaGreat

/- The disk: arrays held against each other, cell by cell. No condition but those stated. -/
set_option maxRecDepth 100000
set_option linter.unusedVariables false
set_option linter.unusedSimpArgs false
namespace Go.Proofs.YtnigfiljenfgjaaGreat
open Go.Sh Go.RowKit
theorem u103a : Tryz.prog.underlying 103 = some (.array 4 3) := by kernel_rfl
theorem info3a : (Tryz.prog.info? 3).map (fun i => (i.zero, i.size, i.bytes)) = some (some (.int .i64 0), 1, 8) := by kernel_rfl
theorem guard103 : Tryz.prog.eqGuardType Tryz.prog.depth 103 = false := by kernel_rfl
def flatB (P : Program) (e : TypeId) (k : SK) : Bool := !aggB P e && skB P e k && Nat.beq (P.cellsOf e) 1
theorem eqItems_sk {P : Program} (d : Nat) {e : TypeId} {k : SK} (he : flatB P e k = true) (xs ys : Array Value) (fx fy : Nat -> Value) (w : World) : ∀ is : List Nat, (∀ i ∈ is, xs[i]? = some (fx i) /\ ys[i]? = some (fy i) /\ skOf (fx i) = some k /\ skOf (fy i) = some k) ->
    ∃ r, (Op.eqItems (d + 1) e (P.cellsOf e) xs ys is).run P w = .ok r w /\ (r = true ↔ ∀ i ∈ is, fx i = fy i)
  | [], _ => ⟨true, rfl, by simp⟩
  | i :: is, h => by
    simp only [flatB, Bool.and_eq_true, Bool.not_eq_true'] at he
    obtain ⟨⟨h1, h2⟩, h3⟩ := he
    have h3' := Nat.eq_of_beq_eq_true h3
    obtain ⟨r, hr, hi⟩ := eqItems_sk (P := P) d (e := e) (k := k) (by simp [flatB, h1, h2, h3]) xs ys fx fy w is fun j hj => h j (List.mem_cons_of_mem _ hj)
    obtain ⟨a1, a2, a3, a4⟩ := h i (by simp)
    obtain ⟨b, hb, hbi, hus⟩ := equalIn_sk (P := P) d w h2 a3 a4
    rw [h3'] at hr ⊢
    simp only [Op.eqItems, Sem.run_bind, Nat.mul_one, run_part_one h1 hus a1, run_part_one h1 hus a2, Result.andThen_ok, hb]
    cases b with
    | true => exact ⟨r, by simpa using hr, by rw [hi]; have := hbi.1 rfl; simp [this]⟩
    | false => exact ⟨false, by simp, by simp; exact fun e => absurd (hbi.2 e) (by simp)⟩
theorem i3c : flatB Tryz.prog 3 (.int .i64) = true := by kernel_rfl
theorem q4_get (x : Q4) : ∀ i ∈ List.range 4, ∃ n : Int, (#[.int .i64 x.a, .int .i64 x.b, .int .i64 x.c, .int .i64 x.d] : Array Value)[i]? = some (.int .i64 n) /\ n = [x.a, x.b, x.c, x.d].getD i 0 := fun i hi => by
  have := List.mem_range.1 hi
  rcases (by omega : i = 0 ∨ i = 1 ∨ i = 2 ∨ i = 3) with rfl | rfl | rfl | rfl <;> exact ⟨_, rfl, rfl⟩
theorem q4_ne (x y : Q4) (a b : Operand) (w : World) : (eqS .neq 103 a b (.agg #[.int .i64 x.a, .int .i64 x.b, .int .i64 x.c, .int .i64 x.d]) (.agg #[.int .i64 y.a, .int .i64 y.b, .int .i64 y.c, .int .i64 y.d])).run Tryz.prog w = .ok (.bool (!decide (x = y))) w := by
  obtain ⟨r, hr, hi⟩ := eqItems_sk 9998 i3c #[.int .i64 x.a, .int .i64 x.b, .int .i64 x.c, .int .i64 x.d] #[.int .i64 y.a, .int .i64 y.b, .int .i64 y.c, .int .i64 y.d] (fun i => .int .i64 ([x.a, x.b, x.c, x.d].getD i 0)) (fun i => .int .i64 ([y.a, y.b, y.c, y.d].getD i 0)) w (List.range 4) fun i hi => by
    obtain ⟨n, h1, h2⟩ := q4_get x i hi
    obtain ⟨m, h3, h4⟩ := q4_get y i hi
    exact ⟨by rw [h1, h2], by rw [h3, h4], rfl, rfl⟩
  obtain ⟨i, hii, _⟩ := info_parts info3a
  have hd : r = decide (x = y) := by
    have : r = true ↔ x = y := by
      rw [hi]
      obtain ⟨a, b, c, d⟩ := x
      obtain ⟨a', b', c', d'⟩ := y
      simp [List.range_succ]
    cases r with
    | true => rw [decide_eq_true (this.1 rfl)]
    | false => rw [decide_eq_false fun h => by have := this.2 h; cases this]
  subst hd
  refine neS_run (r := decide (x = y)) (run_eqGuard_agg w .neq 103 a b _ _ guard103) (by simp only [binOp]; simp [Op.equal, Op.maxDepth]) ?_
  rw [run_equalIn_array w 9999 _ _ u103a hii]
  exact hr
end Go.Proofs.YtnigfiljenfgjaaGreat

/- The disk: both systems list the same files, bytes and locks; the law. No condition. -/
set_option maxRecDepth 100000
set_option linter.unusedVariables false
set_option linter.unusedSimpArgs false
namespace Go.Proofs.YtnigfiljenfgjaaGreat
open Go.Sh Go.RowKit
variable {w0 : Kp} {w w1 : World} {d d' : Lay} {r r' : RLay} {σ σ' : Sys} {ρ ρ' : RSys} {N : Nat}
set_option maxHeartbeats 1000000 in
theorem seen_c (B : Base w0 w d r σ ρ) (O : Ok N σ ρ) (hN : N + 40 <= 400) (hs : SortedF ρ.files) : Calls Tryz.prog 21 #[d.ptr, r.ptr] w fun e w' => e = .returned (.bool true) /\ Pu w0.w w' := by
  have hf8 := O.files
  have hsf := O.sim.fn
  refine F21_calls _ _ w _ (Calls.mono (rFiles_c B.b (by omega)) ?_)
  rintro e w1 ⟨ln, rfl, hrow1, hnew, hp1⟩
  have B1 := B.pure hp1
  refine ⟨ln, rfl, Calls.mono (listFiles_c B1.a (by omega)) ?_⟩
  rintro e w2 ⟨l14, rfl, L2, hrow14, hnew14⟩
  have B2 := B1.op L2
  have hown : ∀ b ∈ blkOf ln, b ∉ d.own := fun b hb hd => by have := hnew b hb; have := B.a.lt b hd; omega
  have hro : ∀ b ∈ blkOf ln, r.o b = none := fun b hb => by
    cases ho : r.o b with
    | none => rfl
    | some k => have := hnew b hb; have := B.b.lt b (by rw [ho]; simp); omega
  have hrow2 : RowAt w2 9 1 ln (strV (ρ.files.map Prod.fst)) := hrow1.fr L2.fr fun b hb hx => hown b hb hx
  rw [O.sim.names hs] at hrow14
  refine ⟨l14, rfl, Calls.mono (sameTexts_c hrow14 hrow2) ?_⟩
  rintro e w3 ⟨rfl, hp3⟩
  refine ⟨true, rfl, Br.f rfl ?_⟩
  have hrow3 := hrow2.pu hp3
  have B3 := (B2.pure hp3).hold (· ∈ blkOf ln) fun b hb => ⟨hrow3.lt b hb, hown b hb, hro b hb⟩
  obtain ⟨names, hnm⟩ : ∃ names, names = ρ.files.map Prod.fst := ⟨_, rfl⟩
  rw [← hnm] at hrow3
  have hnl : names.length <= 8 := by rw [hnm, List.length_map]; exact hf8
  have hll : ln.len = names.length := by have := hrow3.1; simpa using this.symm
  obtain ⟨K, hK⟩ : ∃ K : Kp, K = ⟨w0.w, (· ∈ blkOf ln), w3⟩ := ⟨_, rfl⟩
  have hKw : K.w = w0.w := by rw [hK]
  have nameAt : ∀ {wz : World} {d' : Lay} {r' : RLay} {σ' : Sys} {ρ' : RSys} {k : Nat} {x : ByteArray}, Base K wz d' r' σ' ρ' -> names[k]? = some x -> ∃ a : Addr, ln.a = some a /\ wz.cell? (a.add ((k : Int).toNat * 1)) = some (.string x) := fun {wz d' r' σ' ρ' k x} Bz hx => by
    have hrz : RowAt wz 9 1 ln (strV names) := Bz.row (by rw [hK]; exact hrow3) (fun b hb => by rw [hK]; exact hb)
    obtain ⟨a, ha, hc, _⟩ := hrz.cell (j := k) (v := .string x) (by rw [List.getElem?_map, hx]; rfl)
    exact ⟨a, ha, by rw [Int.toNat_natCast, Nat.mul_one]; exact hc⟩
  rw [← hK] at B3
  refine loopUp names.length (fun k t w' => t = (k : Int) /\ ∃ d' r' σ' ρ', Base K w' d' r' σ' ρ' /\ Ok (N + 5 * k) σ' ρ' /\ SortedF ρ'.files /\ d'.S = d.S /\ r'.S = r.S) ⟨rfl, d, r, σ, ρ, B3, O, hs, rfl, rfl⟩ ?_
  rintro k J t w4 hk ⟨rfl, d4, r4, σ4, ρ4, B4, O4, hs4, hdS4, hrS4⟩ hJ
  refine Br.of (fun d1 => ?_) (fun d1 => ?_)
  · have hkn : k < names.length := by have := dtrue d1; omega
    obtain ⟨x, hx⟩ := at_k hkn
    refine loopUp 4 (fun j t w' => t = (j : Int) /\ ∃ d' r' σ' ρ', Base K w' d' r' σ' ρ' /\ Ok (N + 5 * k + j) σ' ρ' /\ SortedF ρ'.files /\ d'.S = d.S /\ r'.S = r.S) ⟨rfl, d4, r4, σ4, ρ4, B4, O4, hs4, hdS4, hrS4⟩ ?_
    rintro j J2 t w5 hj ⟨rfl, d5, r5, σ5, ρ5, B5, O5, hs5, hdS5, hrS5⟩ hJ2
    obtain ⟨a, ha, hc⟩ := nameAt B5 hx
    refine Br.of (fun d2 => ?_) (fun d2 => ?_)
    · have hj4 : j < 4 := by have := dtrue d2; omega
      refine ⟨a, ha, by omega, by omega, x, hc, ?_⟩
      have hcall := played_c B5 O5 (by omega) 12 (j : Int) 0 0 x ⟨#[]⟩ (by decide)
      rw [Lay.ptr, RLay.ptr, hdS5, hrS5] at hcall
      refine Calls.mono hcall ?_
      rintro e w6 ⟨rfl, d6, r6, σ6, ρ6, B6, O6, e1, e2, hs6⟩
      refine ⟨true, rfl, Br.f rfl ?_⟩
      rw [wrap_in (by omega) (by omega)]
      exact hJ2 _ _ hj4 ⟨rfl, d6, r6, σ6, ρ6, B6, O6, hs6 hs5, e1.trans hdS5, e2.trans hrS5⟩
    · have hj4 : j = 4 := by have := dfalse d2; omega
      subst hj4
      refine ⟨a, ha, by omega, by omega, x, hc, ?_⟩
      have hcall := files_c B5 O5 (by omega) 4 0 0 0 0 x ⟨#[]⟩
      rw [Lay.ptr, RLay.ptr, hdS5, hrS5] at hcall
      refine Calls.mono hcall ?_
      rintro e w6 ⟨rfl, d6, r6, σ6, ρ6, B6, O6, e1, e2, hs6⟩
      refine ⟨true, rfl, Br.f rfl ?_⟩
      show J _ w6
      rw [wrap_in (by omega) (by omega)]
      exact hJ _ _ hkn ⟨rfl, d6, r6, σ6, ρ6, B6, (by rw [show N + 5 * (k + 1) = N + 5 * k + 4 + 1 by omega]; exact O6), hs6 hs5, e1.trans hdS5, e2.trans hrS5⟩
  · have hkn : k = names.length := by have := dfalse d1; omega
    subst hkn
    have hh4 := O4.held
    have hlk4 := O4.sim.lk
    have hfn4 := O4.sim.fn
    have hf4 := O4.files
    have hcall := locks_c B4.a (by omega) (by rw [hlk4]; omega)
    rw [Lay.ptr, hdS4] at hcall
    refine Calls.mono hcall ?_
    rintro e w5 ⟨l48, q, rfl, L5, hr48, hsrt, hperm, hnb48⟩
    have B5 := B4.op L5
    have hcall := rLocks_c B5.b (by omega) (by omega)
    rw [RLay.ptr, hrS4] at hcall
    refine ⟨l48, rfl, Calls.mono hcall ?_⟩
    rintro e w6 ⟨l50, q', rfl, hr50, hsrt', hperm', hnb50, hp6⟩
    have B6 := B5.pure hp6
    rw [O4.sim.names hs4, hlk4] at hperm
    have hqq : q = q' := srtQ_uniq hsrt hsrt' (hperm.trans hperm'.symm)
    subst hqq
    have hl1 : l48.len = q.length := hr48.len Q4.len (by omega)
    have hl2 : l50.len = q.length := hr50.len Q4.len (by omega)
    have hql : q.length <= 400 := by have := hperm.length_eq; rw [List.length_map] at this; omega
    have hr48' := hr48.pu hp6
    refine ⟨l50, rfl, Br.f (by rw [hl1, hl2]; simp) ?_⟩
    refine loopUp q.length (fun i t w' => t = (i : Int) /\ Pu w6 w') ⟨rfl, Pu.refl _⟩ ?_
    rintro i J3 t w7 hi ⟨rfl, hp7⟩ hJ3
    refine Br.of (fun d3 => ?_) (fun d3 => ⟨rfl, ?_⟩)
    · have hi2 : i < q.length := by have := dtrue d3; omega
      obtain ⟨y, hy⟩ := at_k hi2
      refine dwE_intro fun w8 hp8 _ => ?_
      obtain ⟨a, ha, i1, i2, c0, c1, c2, c3⟩ := q4At ((hr48'.pu hp7).pu hp8) hy
      obtain ⟨b, hb, j1, j2, g0, g1, g2, g3⟩ := q4At ((hr50.pu hp7).pu hp8) hy
      refine ⟨a, ha, i1, i2, _, c0, _, c1, _, c2, _, c3, b, hb, j1, j2, _, g0, _, g1, _, g2, _, g3, _, fun wz => q4_ne y y _ _ wz, Br.f (by simp) ?_⟩
      rw [wrap_in (by omega) (by omega)]
      exact hJ3 _ _ hi2 ⟨rfl, hp7.trans hp8⟩
    · have := B6.pu
      rw [hKw] at this
      exact this.trans hp7
set_option maxHeartbeats 1000000 in
theorem diskPlays_c (w : World) (s : SV) (l : List Act) (h : RdSl w s l) (hlim : Lim.ok l) : Calls Tryz.prog 5 #[.slice s.a s.len s.cap] w fun e w' => e = .returned (.bool true) /\ Pu w w' := by
  refine F5_calls s w _ ?_
  refine Calls.mono (over_c w s l h hlim) ?_
  rintro e w1 ⟨b, rfl, hp1, hb⟩
  have fin : ∀ w2, Pu w w2 -> Calls Tryz.prog 8 #[] w2 fun e w11 => ∃ b18 : Bool, e = .returned (.bool b18) /\ runD Tryz.prog [] w11 fun w12 => (Ending.returned (.bool b18) = Ending.returned (.bool true) /\ Pu w w12) := fun w2 hp2 => by
    refine Calls.mono (known_c w2) ?_
    rintro e w3 ⟨rfl, hp3⟩
    exact ⟨true, rfl, rfl, hp2.trans hp3⟩
  refine ⟨b, rfl, Br.of (fun d1 => fin w1 hp1) (fun d1 => ?_)⟩
  obtain ⟨h200, hdat⟩ := hb d1
  refine Calls.mono (new_c w1) ?_
  rintro e w2 ⟨rfl, hA, hp2⟩
  refine ⟨some ⟨(newLay w1.heap.size).S, 0, none⟩, rfl, ?_⟩
  refine Calls.mono (rNew_c w2) ?_
  rintro e w3 ⟨r, rfl, hB, hp3, hnB⟩
  refine ⟨some ⟨r.S, 0, none⟩, rfl, false, w3, eqS_ptr_nil u23 _ _ _ w3, ?_⟩
  refine Br.f rfl ?_
  have hz1 := hp1.size
  have hz2 := hp2.size
  generalize hd : newLay w1.heap.size = d at hA
  have hown : ∀ y ∈ d.own, w1.heap.size <= y := by rw [← hd]; exact newLay_own _
  have B0 : Base (Kp.of w) w3 d r Sys.new RSys.new := ⟨hA.pu hp3, hB, fun y hy => by
    cases ho : r.o y with
    | none => rfl
    | some k => have := hnB y (by rw [ho]; simp); have := hA.lt y hy; omega, (hp1.trans hp2).trans hp3, fun y hy => by have := hown y hy; show w.heap.size <= y; omega, fun y hy => by have := hnB y hy; show w.heap.size <= y; omega, fun b hb => hb.elim, fun x hx hb => hb.elim, fun x hx hb => hb.elim⟩
  have hlen := h.len
  refine loopUp l.length (fun k t w' => t = (k : Int) /\ ∃ d' r' σ ρ, Base (Kp.of w) w' d' r' σ ρ /\ Ok k σ ρ /\ SortedF ρ.files /\ d'.S = d.S /\ r'.S = r.S) ⟨rfl, d, r, _, _, B0, Ok.new, List.Pairwise.nil, rfl, rfl⟩ ?_
  rintro k J t w4 hk ⟨rfl, d', r', σ, ρ, B, O, hso, hdS, hrS⟩ hJ
  refine Br.of (fun d3 => ?_) (fun d3 => ?_)
  · have hkn : k < l.length := by have := dtrue d3; omega
    obtain ⟨y, hy⟩ := at_k hkn
    obtain ⟨a, ha, hi, hok, c0, c1, c2, c3, c4, c5⟩ := actAt (h.pu B.pu) hy
    refine ⟨a, ha, by omega, by omega, y.kind, by rw [Int.toNat_natCast]; exact c0, y.u, by rw [Int.toNat_natCast]; exact c1, y.at_, by rw [Int.toNat_natCast]; exact c2, y.n, by rw [Int.toNat_natCast]; exact c3, y.name, by rw [Int.toNat_natCast]; exact c4, y.data, by rw [Int.toNat_natCast]; exact c5, ?_⟩
    have hc := played_c B O (by omega) y.kind y.u y.at_ y.n y.name y.data (hdat y (List.mem_of_getElem? hy))
    rw [Lay.ptr, RLay.ptr, hdS, hrS] at hc
    refine Calls.mono hc ?_
    rintro e w5 ⟨rfl, d2, r2, σ2, ρ2, B2, O2, e1, e2, hs2⟩
    refine ⟨true, rfl, Br.f rfl ?_⟩
    rw [wrap_in (by omega) (by omega)]
    exact hJ _ _ hkn ⟨rfl, d2, r2, σ2, ρ2, B2, O2, hs2 hso, e1.trans hdS, e2.trans hrS⟩
  · have hkn : k = l.length := by have := dfalse d3; omega
    subst hkn
    have hc := seen_c B O (by omega) hso
    rw [Lay.ptr, RLay.ptr, hdS, hrS] at hc
    refine Calls.mono hc ?_
    rintro e w5 ⟨rfl, hp5⟩
    exact ⟨true, rfl, Br.t rfl (fin w5 hp5)⟩
end Go.Proofs.YtnigfiljenfgjaaGreat
