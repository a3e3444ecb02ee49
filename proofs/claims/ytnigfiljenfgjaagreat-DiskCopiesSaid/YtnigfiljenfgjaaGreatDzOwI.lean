import Derived.Test.YtnigfiljenfgjaaGreatDzOwH
import Derived.Test.YtnigfiljenfgjaaGreatDzPrB
import Derived.Test.YtnigfiljenfgjaaGreatDzOwC
import Derived.Test.YtnigfiljenfgjaaGreatShTwenty
import Derived.Test.YtnigfiljenfgjaaGreatDzOwF
import Derived.LaidEqlPtr
import Derived.Test.YtnigfiljenfgjaaGreatDzOwG
/- The disk: the program's system and the reference's beside each other. -/
set_option maxRecDepth 100000
set_option linter.unusedVariables false
set_option linter.unusedSimpArgs false
namespace Go.Proofs.YtnigfiljenfgjaaGreat
open Go.Sh Go.RowKit
structure Kp where
  w : World
  K : Nat -> Prop
  v : World
structure Base (w0 : Kp) (w : World) (d : Lay) (r : RLay) (σ : Sys) (ρ : RSys) : Prop where
  a : SysAt w d 0 σ
  b : RSysAt w r ρ
  dis : ∀ x ∈ d.own, r.o x = none
  pu : Pu w0.w w
  newA : ∀ x ∈ d.own, w0.w.heap.size <= x
  newB : ∀ x, r.o x ≠ none -> w0.w.heap.size <= x
  kp : ∀ b, w0.K b -> b < w.heap.size /\ w.heap[b]? = w0.v.heap[b]?
  kA : ∀ x ∈ d.own, ¬ w0.K x
  kB : ∀ x, r.o x ≠ none -> ¬ w0.K x
  sz : w0.v.heap.size <= w.heap.size
section
variable {w0 : Kp} {w w1 : World} {d d' : Lay} {r r' : RLay} {σ σ' : Sys} {ρ ρ' : RSys} {N : Nat}
theorem Base.op (B : Base w0 w d r σ ρ) (L : Left w w1 d d' σ') : Base w0 w1 d' r σ' ρ := by
  obtain ⟨p1, p2⟩ := L.next B.pu B.newA
  refine ⟨L.sys, B.b.fr L.fr fun x hx hd => hx (B.dis x hd), fun x hx => ?_, p1, p2, B.newB, fun b hb => ?_, fun x hx hK => ?_, B.kB, Nat.le_trans B.sz L.fr.size⟩
  · rcases L.own x hx with h | h
    · exact B.dis x h
    · cases ho : r.o x with
      | none => rfl
      | some k => have := B.b.lt x (by rw [ho]; simp); omega
  · obtain ⟨h1, h2⟩ := B.kp b hb
    exact ⟨Nat.lt_of_lt_of_le h1 L.fr.size, (L.fr.block b h1 fun h => B.kA b h hb).trans h2⟩
  · rcases L.own x hx with h | h
    · exact B.kA x h hK
    · have := (B.kp x hK).1; omega
theorem Base.rop (B : Base w0 w d r σ ρ) (L : RLeft w w1 r r' ρ') : Base w0 w1 d r' σ ρ' := by
  have hz := B.pu.size
  refine ⟨B.a.fr L.fr fun x hx hn => hn (B.dis x hx), L.sys, fun x hx => ?_, ((Fr.pu B.pu : Fr (fun b => r.o b ≠ none) w0.w w).trans L.fr fun b hb _ => hb).toPu fun b hb => B.newB b hb, B.newA, fun x hx => ?_, fun b hb => ?_, B.kA, fun x hx hK => ?_, Nat.le_trans B.sz L.fr.size⟩
  · cases ho : r'.o x with
    | none => rfl
    | some k =>
      rcases L.own x (by rw [ho]; simp) with h | h
      · exact absurd (B.dis x hx) h
      · have := B.a.lt x hx; omega
  · rcases L.own x hx with h | h
    · exact B.newB x h
    · omega
  · obtain ⟨h1, h2⟩ := B.kp b hb
    exact ⟨Nat.lt_of_lt_of_le h1 L.fr.size, (L.fr.block b h1 fun h => B.kB b h hb).trans h2⟩
  · rcases L.own x hx with h | h
    · exact B.kB x h hK
    · have := (B.kp x hK).1; omega
theorem Base.pure (B : Base w0 w d r σ ρ) (hp : Pu w w1) : Base w0 w1 d r σ ρ := ⟨B.a.pu hp, B.b.pu hp, B.dis, B.pu.trans hp, B.newA, B.newB, fun b hb => by
  obtain ⟨h1, h2⟩ := B.kp b hb
  exact ⟨Nat.lt_of_lt_of_le h1 hp.size, (hp.block b h1).trans h2⟩, B.kA, B.kB, Nat.le_trans B.sz hp.size⟩
abbrev Kp.of (w : World) : Kp := ⟨w, fun _ => False, w⟩
theorem Base.hold (B : Base w0 w d r σ ρ) (K : Nat -> Prop) (hK : ∀ b, K b -> b < w.heap.size /\ b ∉ d.own /\ r.o b = none) : Base ⟨w0.w, K, w⟩ w d r σ ρ :=
  ⟨B.a, B.b, B.dis, B.pu, B.newA, B.newB, fun b hb => ⟨(hK b hb).1, rfl⟩, fun x hx hb => (hK x hb).2.1 hx, fun x hx hb => hx (hK x hb).2.2, Nat.le_refl _⟩
theorem Base.row {e : TypeId} {sz : Nat} {s : SV} {vs : List Value} (B : Base w0 w d r σ ρ) (h : RowAt w0.v e sz s vs) (hK : ∀ b ∈ blkOf s, w0.K b) : RowAt w e sz s vs := by
  obtain ⟨h1, h2 | ⟨g, cur, h3, h4, h5⟩⟩ := h
  · exact ⟨h1, .inl h2⟩
  · exact ⟨h1, .inr ⟨g, cur, h3, by rw [(B.kp g (hK g (by simp [blkOf, h3]))).2]; exact h4, h5⟩⟩
theorem Base.free (B : Base w0 w d r σ ρ) : Base (Kp.of w0.w) w d r σ ρ := ⟨B.a, B.b, B.dis, B.pu, B.newA, B.newB, fun b hb => hb.elim, fun x hx hb => hb.elim, fun x hx hb => hb.elim, B.pu.size⟩
theorem Base.fr (B : Base w0 w d r σ ρ) (hv : Pu w0.w w0.v) : Fr (fun b => ¬ w0.K b) w0.v w := ⟨B.pu.os.trans hv.os.symm, B.pu.tape.trans hv.tape.symm, B.pu.output.trans hv.output.symm, B.sz, fun k hk hn => (B.kp k (Classical.not_not.1 hn)).2⟩
theorem Base.cn (B : Base w0 w d r σ ρ) : ∀ u, u < 4 -> ((σ.caches u).map Prod.fst).Nodup := fun u hu => (B.a.ca u hu).nodup
theorem Base.rcn (B : Base w0 w d r σ ρ) : ∀ u, u < 4 -> ((ρ.caches u).map Prod.fst).Nodup := fun u hu => B.b.cnd hu
theorem Ok.lo (O : Ok N σ ρ) (hN : N <= 400) : LocksOk σ := ⟨fun l hl => (O.locks l (by rw [← O.sim.lk]; exact hl)).1, by rw [O.sim.lk]; have := O.held; omega⟩
def Pst (w0 : Kp) (N : Nat) (w : World) (d : Lay) (r : RLay) (ρ : RSys) : Prop := ∃ d' r' σ' ρ', Base w0 w d' r' σ' ρ' /\ Ok (N + 1) σ' ρ' /\ d'.S = d.S /\ r'.S = r.S /\ (SortedF ρ.files -> SortedF ρ'.files)
theorem conv_new {src dst e : TypeId} {P : Program} (h1 : P.underlying src = some .string) (h2 : P.underlying dst = some (.slice e)) (h3 : P.underlying e = some (.int .u8)) (s : ByteArray) (hs : s.size <= 140737488355328) (w : World) :
    ∃ l : SV, ∃ w' : World, (convert src dst (.string s)).run P w = .ok (.slice l.a l.len l.cap) w' /\ Pu w w' /\ RdSl w' l s.data.toList /\ l.a = some ⟨w.heap.size, 0, none⟩ /\ w'.heap.size = w.heap.size + 1 := by
  obtain ⟨c, hc, hcr⟩ : ∃ c, s.size <= c /\ (choose (.appendCap s.size 0 e)).run P w = .ok c w.drew := by
    refine ⟨(Question.appendCap s.size 0 e).cut (w.tape w.drawn (.appendCap s.size 0 e)), by simp [Question.cut], ?_⟩
    rw [run_choose]; simp [Question.forced]
  obtain ⟨arr, harr⟩ : ∃ arr : Array Value, arr = (s.data.map fun b => Value.int .u8 b.toNat) ++ Array.replicate (c - s.size) (.int .u8 0) := ⟨_, rfl⟩
  have hsz : arr.size = c := by rw [harr]; simp; show s.size + _ = _; omega
  refine ⟨⟨some ⟨w.heap.size, 0, none⟩, s.size, c⟩, (w.drew.alloc (.cells arr e)).freeze ⟨w.heap.size, c, none⟩ 1, ?_, ?_, ⟨rfl, hc, hs, ?_⟩, rfl, ?_⟩
  · unfold convert
    simp only [Sem.run_bind, run_under h1, run_under h2, Result.andThen_ok, run_under h3]
    unfold Conv.stringToBytes
    simp only [Sem.run_bind, hcr, Result.andThen_ok, ← harr, newRow, run_newObj, Sem.run_pure]
    have hsh : World.shape? (w.drew.alloc (.cells arr e)) w.heap.size = some (e, c) := by
      unfold World.shape?
      rw [show (w.drew.alloc (.cells arr e)).heap[w.heap.size]? = _ from alloc_new w.drew _]
      simp [hsz]
    unfold markStringish
    simp only [Sem.run_bind, run_shape, World.alloc_eq, Result.andThen_ok]
    rw [show w.drew.heap.size = w.heap.size from rfl, hsh]
    simp
  · refine ⟨by unfold World.freeze; simp; rfl, by unfold World.freeze; simp, by unfold World.freeze; simp; rfl, ?_, fun k hk => ?_⟩
    · unfold World.freeze; simp
    · unfold World.freeze
      simp only [Nat.one_ne_zero, if_false, Array.getElem?_modify]
      rw [if_neg (by omega)]
      exact Below.heap_alloc w.drew _ k hk
  · obtain ⟨l, w', hr, hp, hrd⟩ := conv_bytes (P := P) h1 h2 h3 s hs w
    have hrun : (convert src dst (.string s)).run P w = .ok (.slice (some ⟨w.heap.size, 0, none⟩) s.size c) ((w.drew.alloc (.cells arr e)).freeze ⟨w.heap.size, c, none⟩ 1) := by
      unfold convert
      simp only [Sem.run_bind, run_under h1, run_under h2, Result.andThen_ok, run_under h3]
      unfold Conv.stringToBytes
      simp only [Sem.run_bind, hcr, Result.andThen_ok, ← harr, newRow, run_newObj, Sem.run_pure]
      have hsh : World.shape? (w.drew.alloc (.cells arr e)) w.heap.size = some (e, c) := by
        unfold World.shape?
        rw [show (w.drew.alloc (.cells arr e)).heap[w.heap.size]? = _ from alloc_new w.drew _]
        simp [hsz]
      unfold markStringish
      simp only [Sem.run_bind, run_shape, World.alloc_eq, Result.andThen_ok]
      rw [show w.drew.heap.size = w.heap.size from rfl, hsh]
      simp
    rw [hrun] at hr
    obtain ⟨e1, e2⟩ := Result.ok.inj hr
    simp only [Value.slice.injEq] at e1
    have hl : l = ⟨some ⟨w.heap.size, 0, none⟩, s.size, c⟩ := by
      obtain ⟨la, ll, lc⟩ := l
      obtain ⟨i1, i2, i3⟩ := e1
      simp only at i1 i2 i3
      rw [← i1, ← i2, ← i3]
    rw [← e2, hl] at hrd
    exact hrd.get
  · unfold World.freeze
    simp only [Nat.one_ne_zero, if_false, Array.size_modify]
    exact Array.size_push ..
end
end Go.Proofs.YtnigfiljenfgjaaGreat

/- The disk: each act, at both systems. -/
set_option maxRecDepth 100000
set_option linter.unusedVariables false
set_option linter.unusedSimpArgs false
namespace Go.Proofs.YtnigfiljenfgjaaGreat
open Go.Sh Go.RowKit
variable {w0 : Kp} {w w1 : World} {d d' : Lay} {r r' : RLay} {σ σ' : Sys} {ρ ρ' : RSys} {N : Nat}
def iE (n : Int) : Ending := .returned (.int .i64 n)
def iiE (a b : Int) : Ending := .returned (.tuple #[.int .i64 a, .int .i64 b])
theorem two_make (B : Base w0 w d r σ ρ) (O : Ok N σ ρ) (name : ByteArray) : Calls Tryz.prog 16 #[d.ptr, .string name] w fun e w1 => ∃ n : Int, e = iE n /\ Fr (· ∈ d.own) w w1 /\ Calls Tryz.prog 86 #[r.ptr, .string name] w1 fun e w2 => e = iE n /\ Pst w0 N w2 d r ρ := by
  refine Calls.mono (make_c B.a name) ?_
  rintro e w1 ⟨rfl, d', L⟩
  obtain ⟨hc, O'⟩ := O.make B.b.fnd name
  have B1 := B.op L
  refine ⟨_, rfl, L.fr, Calls.mono (rMake_c B1.b name) ?_⟩
  rintro e w2 ⟨rfl, r', L2⟩
  exact ⟨by rw [hc]; rfl, d', r', _, _, B1.rop L2, O'.more, L.ptr, L2.ptr, fun h => rMakeS_sorted h name⟩
theorem two_drop (B : Base w0 w d r σ ρ) (O : Ok N σ ρ) (hN : N <= 400) (name : ByteArray) : Calls Tryz.prog 87 #[d.ptr, .string name] w fun e w1 => ∃ n : Int, e = iE n /\ Fr (· ∈ d.own) w w1 /\ Calls Tryz.prog 88 #[r.ptr, .string name] w1 fun e w2 => e = iE n /\ Pst w0 N w2 d r ρ := by
  refine Calls.mono (drop_c B.a (O.lo hN) name) ?_
  rintro e w1 ⟨rfl, d', L⟩
  obtain ⟨hc, O'⟩ := O.drop B.b.fnd B.rcn name
  have B1 := B.op L
  have h1 := O.held
  have h2 := O.files
  refine ⟨_, rfl, L.fr, Calls.mono (rDrop_c B1.b O.rgood (by omega) (by omega) name) ?_⟩
  rintro e w2 ⟨rfl, r', L2⟩
  exact ⟨by rw [hc]; rfl, d', r', _, _, B1.rop L2, O'.more, L.ptr, L2.ptr, fun h => rDropS_sorted h name⟩
theorem two_resize (B : Base w0 w d r σ ρ) (O : Ok N σ ρ) (name : ByteArray) (n : Int) : Calls Tryz.prog 24 #[d.ptr, .string name, .int .i64 n] w fun e w1 => ∃ m : Int, e = iE m /\ Fr (· ∈ d.own) w w1 /\ Calls Tryz.prog 89 #[r.ptr, .string name, .int .i64 n] w1 fun e w2 => e = iE m /\ Pst w0 N w2 d r ρ := by
  refine Calls.mono (resize_c B.a O.good.small O.good.near name n) ?_
  rintro e w1 ⟨rfl, d', L⟩
  obtain ⟨hc, O'⟩ := O.resize B.b.fnd B.rcn B.cn name n
  have B1 := B.op L
  have h2 := O.files
  refine ⟨_, rfl, L.fr, Calls.mono (rResize_c B1.b O.rgood (by omega) name n) ?_⟩
  rintro e w2 ⟨rfl, r', L2⟩
  exact ⟨by rw [hc]; rfl, d', r', _, _, B1.rop L2, O'.more, L.ptr, L2.ptr, fun h => rResizeS_sorted h name n⟩
theorem two_size (B : Base w0 w d r σ ρ) (O : Ok N σ ρ) (name : ByteArray) : Calls Tryz.prog 90 #[d.ptr, .string name] w fun e w1 => ∃ a b : Int, e = iiE a b /\ Fr (· ∈ d.own) w w1 /\ Calls Tryz.prog 12 #[r.ptr, .string name] w1 fun e w2 => e = iiE a b /\ Pst w0 N w2 d r ρ := by
  refine Calls.mono (size_c B.a name) ?_
  rintro e w1 ⟨rfl, L⟩
  have B1 := B.op L
  refine ⟨_, _, rfl, L.fr, Calls.mono (rSize_c B1.b name) ?_⟩
  rintro e w2 ⟨rfl, hp⟩
  refine ⟨?_, d, r, _, _, B1.pure hp, O.more, rfl, rfl, fun h => h⟩
  rw [sizeN, rSize, O.sim.ask, O.sim.file]
  rfl
theorem two_disk (B : Base w0 w d r σ ρ) (O : Ok N σ ρ) (name : ByteArray) : Calls Tryz.prog 15 #[d.ptr, .string name] w fun e w1 => ∃ (l : SV) (n : Int) (bs : List UInt8), e = .returned (.tuple #[.slice l.a l.len l.cap, .int .i64 n]) /\ Fr (· ∈ d.own) w w1 /\ Calls Tryz.prog 91 #[r.ptr, .string name] w1 fun e w2 => ∃ l2 : SV, e = .returned (.tuple #[.slice l2.a l2.len l2.cap, .int .i64 n]) /\ RowAt w2 5 1 l (bs.map u8V) /\ RowAt w2 5 1 l2 (bs.map u8V) /\ Pst w0 N w2 d r ρ := by
  refine Calls.mono (disk_c B.a O.good.small name) ?_
  rintro e w1 h
  obtain ⟨l, rfl, L, hrow, hnew⟩ := h
  have B1 := B.op L
  refine ⟨l, _, if diskC name σ = 0 then fileOf σ name else [], rfl, L.fr, Calls.mono (rDisk_c B1.b O.rgood name) ?_⟩
  rintro e w2 ⟨l2, rfl, hrow2, _, hp⟩
  refine ⟨l2, ?_, hrow.pu hp, ?_, d, r, _, _, B1.pure hp, O.more, rfl, rfl, fun h => h⟩
  · rw [diskC, O.sim.ask]
  · rw [rDiskB] at hrow2
    rw [diskC, O.sim.ask, O.sim.file]
    exact hrow2
theorem two_read (B : Base w0 w d r σ ρ) (O : Ok N σ ρ) (hN : N <= 400) (u : Int) (name : ByteArray) (at_ n : Int) : Calls Tryz.prog 13 #[d.ptr, .int .i64 u, .string name, .int .i64 at_, .int .i64 n] w fun e w1 => ∃ (l : SV) (c : Int) (bs : List UInt8), e = .returned (.tuple #[.slice l.a l.len l.cap, .int .i64 c]) /\ Fr (· ∈ d.own) w w1 /\
    Calls Tryz.prog 28 #[r.ptr, .int .i64 u, .string name, .int .i64 at_, .int .i64 n] w1 fun e w2 => ∃ l2 : SV, e = .returned (.tuple #[.slice l2.a l2.len l2.cap, .int .i64 c]) /\ RowAt w2 5 1 l (bs.map u8V) /\ RowAt w2 5 1 l2 (bs.map u8V) /\ Pst w0 N w2 d r ρ := by
  refine Calls.mono (read_c B.a O.good.small u name at_ n) ?_
  rintro e w1 ⟨l, rfl, L, hrow, hnew⟩
  have B1 := B.op L
  obtain ⟨O', hbs⟩ := O.read hN u name at_ n
  refine ⟨l, _, (readR u name at_ n σ).2, rfl, L.fr, Calls.mono (rRead_c B1.b O.rgood u name at_ n) ?_⟩
  rintro e w2 ⟨l2, r', rfl, L2, hrow2, _⟩
  refine ⟨l2, by rw [O.readC], hrow.fr L2.fr fun b hb hn => ?_, by rw [hbs]; exact hrow2, d, r', _, _, B1.rop L2, O', rfl, L2.ptr, fun h => rReadS_sorted h u name at_ n⟩
  have := hnew b hb
  have := B.b.lt b hn
  omega
theorem two_lock (B : Base w0 w d r σ ρ) (O : Ok N σ ρ) (hN : N <= 400) (u : Int) (name : ByteArray) (at_ n : Int) : Calls Tryz.prog 27 #[d.ptr, .int .i64 u, .string name, .int .i64 at_, .int .i64 n] w fun e w1 => ∃ c : Int, e = iE c /\ Fr (· ∈ d.own) w w1 /\
    Calls Tryz.prog 30 #[r.ptr, .int .i64 u, .string name, .int .i64 at_, .int .i64 n] w1 fun e w2 => e = iE c /\ Pst w0 N w2 d r ρ := by
  refine Calls.mono (lock_c B.a O.good (O.lo hN) u name at_ n) ?_
  rintro e w1 ⟨rfl, hcase⟩
  have hC := O.lockC u name at_ n
  have hl := O.held
  rw [hC] at hcase
  rcases hcase with ⟨h0, L⟩ | ⟨h0, d', ps, hps, L⟩
  · have B1 := B.op L
    refine ⟨_, rfl, L.fr, Calls.mono (rLock_c B1.b O.rgood (fun l hl => (O.locks l hl).1) (by omega) u name at_ n) ?_⟩
    rintro e w2 ⟨rfl, r', L2⟩
    rw [rLockS, if_neg h0] at L2
    exact ⟨by rw [hC]; rfl, d, r', _, _, B1.rop L2, O.more, rfl, L2.ptr, fun h => h⟩
  · have B1 := B.op L
    refine ⟨_, rfl, L.fr, Calls.mono (rLock_c B1.b O.rgood (fun l hl => (O.locks l hl).1) (by omega) u name at_ n) ?_⟩
    rintro e w2 ⟨rfl, r', L2⟩
    rw [rLockS, if_pos h0] at L2
    obtain ⟨⟨v, a, m, b, hu, hv, hb, ha, hm, hm1⟩, OL⟩ := O.locked h0
    subst hu; subst ha; subst hm
    have hb' : AL.get ({ ρ with held := ρ.held ++ [⟨(v : Int), name, (a : Int), (m : Int)⟩] } : RSys).files name = some b := hb
    have O2 := OL.refresh hv (B.cn v hv) hb' (a := a) (m := m) hm1 (ps := ps) (by rw [Int.toNat_natCast] at hps; exact hps)
    rw [hb] at L2
    exact ⟨by rw [hC]; rfl, d', r', _, _, B1.rop L2, O2, L.ptr, L2.ptr, fun h => by rw [(updC_files _ _ _ _).1]; exact h⟩
theorem two_unlock (B : Base w0 w d r σ ρ) (O : Ok N σ ρ) (hN : N <= 400) (u : Int) (name : ByteArray) (at_ n : Int) : Calls Tryz.prog 31 #[d.ptr, .int .i64 u, .string name, .int .i64 at_, .int .i64 n] w fun e w1 => ∃ c : Int, e = iE c /\ Fr (· ∈ d.own) w w1 /\
    Calls Tryz.prog 32 #[r.ptr, .int .i64 u, .string name, .int .i64 at_, .int .i64 n] w1 fun e w2 => e = iE c /\ Pst w0 N w2 d r ρ := by
  refine Calls.mono (unlock_any B.a O.good (O.lo hN) u name at_ n) ?_
  rintro e w1 ⟨rfl, hcase⟩
  have hC : unlockC u name at_ n σ = rUnlockC u name at_ n ρ := by rw [unlockC, rUnlockC, O.sim.both, O.sim.lk]
  have hl := O.held
  rw [hC] at hcase
  rcases hcase with ⟨h0, L⟩ | ⟨h0, d', ps, hps, L⟩
  · have B1 := B.op L
    refine ⟨_, rfl, L.fr, Calls.mono (rUnlock_c B1.b O.rgood O.locks (by omega) u name at_ n) ?_⟩
    rintro e w2 ⟨rfl, r', L2⟩
    rw [rUnlockS, if_neg h0] at L2
    exact ⟨by rw [hC]; rfl, d, r', _, _, B1.rop L2, O.more, rfl, L2.ptr, fun h => h⟩
  · have B1 := B.op L
    refine ⟨_, rfl, L.fr, Calls.mono (rUnlock_c B1.b O.rgood O.locks (by omega) u name at_ n) ?_⟩
    rintro e w2 ⟨rfl, r', L2⟩
    rw [rUnlockS, if_pos h0] at L2
    have h1 : rBoth u name ρ = 0 := by
      unfold rUnlockC at h0
      by_cases h1 : rBoth u name ρ = 0
      · exact h1
      · rw [if_neg h1] at h0; exact absurd h0 h1
    rw [rUnlockC, if_pos h1] at h0
    have hmem : (⟨u, name, at_, n⟩ : Lock) ∈ ρ.held := by
      by_cases hm : (⟨u, name, at_, n⟩ : Lock) ∈ ρ.held
      · exact hm
      · rw [if_neg hm] at h0; cases h0
    obtain ⟨⟨v, hu, hv⟩, b, hb⟩ := rBoth_zero h1
    obtain ⟨⟨o1, o2, o3, o4⟩, o5⟩ := O.locks _ hmem
    simp only at o1 o2 o3 o4 o5
    obtain ⟨a, rfl⟩ := Int.eq_ofNat_of_zero_le o1
    obtain ⟨m, rfl⟩ := Int.eq_ofNat_of_zero_le o3
    subst hu
    have O2 := O.unlock hv (B.cn v hv) hb (a := a) (m := m) (by omega) (ps := ps) (by simpa using hps) ⟨(v : Int), name, (a : Int), (m : Int)⟩
    exact ⟨by rw [hC]; rfl, d', r', _, _, B1.rop L2, O2.more, L.ptr, L2.ptr, fun h => wr_sorted h (by rw [hb]; simp) _⟩
theorem two_flush (B : Base w0 w d r σ ρ) (O : Ok N σ ρ) (u : Int) (name : ByteArray) : Calls Tryz.prog 26 #[d.ptr, .int .i64 u, .string name] w fun e w1 => ∃ a b : Int, e = iiE a b /\ Fr (· ∈ d.own) w w1 /\ Calls Tryz.prog 33 #[r.ptr, .int .i64 u, .string name] w1 fun e w2 => e = iiE a b /\ Pst w0 N w2 d r ρ := by
  refine Calls.mono (flush_c B.a O.good u name) ?_
  rintro e w1 ⟨n, rfl, hcase⟩
  have hC := O.sim.both u name
  rw [hC] at hcase ⊢
  rcases hcase with ⟨h0, rfl, L⟩ | ⟨h0, ps, hps, rfl, L⟩
  · have B1 := B.op L
    refine ⟨_, _, rfl, L.fr, Calls.mono (rFlush_c B1.b O.rgood u name) ?_⟩
    rintro e w2 ⟨rfl, L2⟩
    rw [rFlushS, if_neg h0] at L2
    refine ⟨?_, d, r, _, _, B1.rop L2, O.more, rfl, rfl, fun h => h⟩
    rw [rFlushN, rDirty, if_neg h0]; rfl
  · have B1 := B.op L
    refine ⟨_, _, rfl, L.fr, Calls.mono (rFlush_c B1.b O.rgood u name) ?_⟩
    rintro e w2 ⟨rfl, L2⟩
    rw [rFlushS, if_pos h0, rDirty, if_pos h0] at L2
    obtain ⟨⟨v, hu, hv⟩, b, hb⟩ := rBoth_zero h0
    subst hu
    rw [Int.toNat_natCast] at L2 hps L ⊢
    obtain ⟨O2, hc⟩ := O.flush hv (B.cn v hv) hb hps
    rw [Int.toNat_natCast] at B1
    refine ⟨?_, d, r, _, _, B1.rop L2, O2.more, rfl, rfl, fun h => wr_sorted h (by rw [hb]; simp) _⟩
    rw [hc, rFlushN, rDirty, if_pos h0]; rfl
theorem two_forget (B : Base w0 w d r σ ρ) (O : Ok N σ ρ) (u : Int) (name : ByteArray) : Calls Tryz.prog 34 #[d.ptr, .int .i64 u, .string name] w fun e w1 => ∃ a b : Int, e = iiE a b /\ Fr (· ∈ d.own) w w1 /\ Calls Tryz.prog 35 #[r.ptr, .int .i64 u, .string name] w1 fun e w2 => e = iiE a b /\ Pst w0 N w2 d r ρ := by
  refine Calls.mono (forget_c B.a O.good u name) ?_
  intro e w1 hcase
  have hC := O.sim.both u name
  rw [hC] at hcase
  rcases hcase with ⟨h0, rfl, L⟩ | ⟨h0, rfl, L⟩
  · have B1 := B.op L
    refine ⟨_, _, rfl, L.fr, Calls.mono (rForget_c B1.b O.rgood u name) ?_⟩
    rintro e w2 ⟨rfl, L2⟩
    rw [rForgetS, if_neg h0] at L2
    refine ⟨?_, d, r, _, _, B1.rop L2, O.more, rfl, rfl, fun h => h⟩
    rw [rForgetN, if_neg h0]; rfl
  · have B1 := B.op L
    refine ⟨_, _, rfl, L.fr, Calls.mono (rForget_c B1.b O.rgood u name) ?_⟩
    rintro e w2 ⟨rfl, L2⟩
    rw [rForgetS, if_pos h0] at L2
    obtain ⟨⟨v, hu, hv⟩, b, hb⟩ := rBoth_zero h0
    subst hu
    rw [Int.toNat_natCast] at L2 L ⊢
    obtain ⟨O2, hc⟩ := O.forget hv (B.cn v hv) hb
    rw [Int.toNat_natCast] at B1
    refine ⟨?_, d, r, _, _, B1.rop L2, O2.more, rfl, rfl, fun h => by rw [(updC_files _ _ _ _).1]; exact h⟩
    rw [hc, rForgetN, if_pos h0, h0, Int.toNat_natCast]; rfl
theorem two_fall (B : Base w0 w d r σ ρ) (O : Ok N σ ρ) (hN : N <= 400) (u : Int) : Calls Tryz.prog 14 #[d.ptr, .int .i64 u] w fun e w1 => ∃ a b : Int, e = iiE a b /\ Fr (· ∈ d.own) w w1 /\ Calls Tryz.prog 36 #[r.ptr, .int .i64 u] w1 fun e w2 => e = iiE a b /\ Pst w0 N w2 d r ρ := by
  refine Calls.mono (fall_c B.a O.good (O.lo hN) u) ?_
  rintro e w1 ⟨rfl, d', L⟩
  have B1 := B.op L
  obtain ⟨hc, O2⟩ := O.fall B.b.fnd B.cn u
  have h1 := O.held
  have h2 := O.files
  refine ⟨_, _, rfl, L.fr, Calls.mono (rFall_c B1.b O.rgood (by omega) (by omega) u) ?_⟩
  rintro e w2 ⟨rfl, r', L2⟩
  exact ⟨by rw [hc]; rfl, d', r', _, _, B1.rop L2, O2.more, L.ptr, L2.ptr, fun h => rFallS_sorted h u⟩
theorem two_dirty (B : Base w0 w d r σ ρ) (O : Ok N σ ρ) (u : Int) (name : ByteArray) : Calls Tryz.prog 37 #[d.ptr, .int .i64 u, .string name] w fun e w1 => ∃ (l : SV) (c : Int) (zs : List Nat), e = .returned (.tuple #[.slice l.a l.len l.cap, .int .i64 c]) /\ Fr (· ∈ d.own) w w1 /\
    Calls Tryz.prog 38 #[r.ptr, .int .i64 u, .string name] w1 fun e w2 => ∃ l2 : SV, e = .returned (.tuple #[.slice l2.a l2.len l2.cap, .int .i64 c]) /\ RowAt w2 3 1 l (zs.map natV) /\ RowAt w2 3 1 l2 (zs.map natV) /\ Pst w0 N w2 d r ρ := by
  refine Calls.mono (dirty_c B.a O.good u name) ?_
  rintro e w1 ⟨l, zs, rfl, L, hrow, hnew, hcase⟩
  have B1 := B.op L
  have hC := O.sim.both u name
  rw [hC] at hcase ⊢
  refine ⟨l, _, rDirty u name ρ, rfl, L.fr, Calls.mono (rDirty_c B1.b O.rgood u name) ?_⟩
  rintro e w2 ⟨l2, rfl, hrow2, _, hp⟩
  refine ⟨l2, rfl, ?_, hrow2, d, r, _, _, B1.pure hp, O.more, rfl, rfl, fun h => h⟩
  have hz : zs.map iV = (rDirty u name ρ).map natV := by
    rcases hcase with ⟨h0, rfl⟩ | ⟨h0, hs, ps, hps, hzp⟩
    · rw [rDirty, if_neg h0]; rfl
    · obtain ⟨⟨v, hu, hv⟩, b, hb⟩ := rBoth_zero h0
      subst hu
      rw [Int.toNat_natCast] at hps hzp
      rw [rDirty, if_pos h0, Int.toNat_natCast]
      exact O.dirty hv (B.cn v hv) hb hps hzp hs
  rw [← hz]
  exact hrow.pu hp
end Go.Proofs.YtnigfiljenfgjaaGreat

/- The disk: an act that is played at both systems tells the same. -/
set_option maxRecDepth 100000
set_option linter.unusedVariables false
set_option linter.unusedSimpArgs false
namespace Go.Proofs.YtnigfiljenfgjaaGreat
open Go.Sh Go.RowKit
variable {w0 : Kp} {w w1 : World} {d d' : Lay} {r r' : RLay} {σ σ' : Sys} {ρ ρ' : RSys} {N : Nat}
theorem rdsl_out (B : Base w0 w d r σ ρ) {l : SV} (hl : ∀ b ∈ blkOf l, b < w.heap.size /\ b ∉ d.own /\ r.o b = none) : (∀ b ∈ blkOf l, b < w.heap.size /\ b ∉ d.own) /\ ∀ b ∈ blkOf l, b < w.heap.size /\ r.o b = none := ⟨fun b hb => ⟨(hl b hb).1, (hl b hb).2.1⟩, fun b hb => ⟨(hl b hb).1, (hl b hb).2.2⟩⟩
theorem eq_of_data {s t : ByteArray} (h : s.data.toList = t.data.toList) : s = t := by
  obtain ⟨a⟩ := s; obtain ⟨b⟩ := t
  congr 1
  exact Array.ext' h
theorem same_str {s t : ByteArray} {bs : List UInt8} (h1 : s.data.toList = bs) (h2 : t.data.toList = bs) : (s.toList == t.toList) = true := by
  rw [toList_beq, decide_eq_true (eq_of_data (h1.trans h2.symm))]
theorem cellAt {wx : World} {b : Nat} {arr : Array Value} {t : TypeId} (h : wx.heap[b]? = some (.cells arr t)) {j : Nat} {v : Value} (hv : arr[j]? = some v) : wx.cell? ((⟨b, 0, none⟩ : Addr).add j) = some v := by rw [add_def, cell_blk h, Nat.zero_add]; exact hv
set_option maxHeartbeats 2000000 in
theorem files_c (B : Base w0 w d r σ ρ) (O : Ok N σ ρ) (hN : N <= 400) (k n0 n1 n2 n3 : Int) (name by_ : ByteArray) :
    Calls Tryz.prog 40 #[d.ptr, r.ptr, .int .i64 k, .agg #[.int .i64 n0, .int .i64 n1, .int .i64 n2, .int .i64 n3, .string name, .string by_]] w fun e w' => e = .returned (.bool true) /\ Pst w0 N w' d r ρ := by
  refine F40_calls _ _ k n0 n1 n2 n3 name by_ w _ ?_
  refine alE_intro fun w1 hw1 => ?_
  have hp1 : Pu w w1 := by rw [hw1]; exact Pu.alloc w _
  have hb1 : w1.heap[w.heap.size]? = some (.cells #[.int .i64 n0, .int .i64 n1, .int .i64 n2, .int .i64 n3, .string name, .string by_] 31) := by rw [hw1]; exact alloc_new w _
  have B1 := B.pure hp1
  have hown : w.heap.size ∉ d.own := fun hx => by have := B.a.lt _ hx; omega
  obtain ⟨S, hS⟩ : ∃ S : World -> Prop, S = fun wx => wx.heap[w.heap.size]? = some (.cells #[.int .i64 n0, .int .i64 n1, .int .i64 n2, .int .i64 n3, .string name, .string by_] 31) := ⟨_, rfl⟩
  have hc4 : ∀ wx, S wx -> wx.cell? ((⟨w.heap.size, 0, none⟩ : Addr).add 4) = some (.string name) := fun wx hx => by rw [hS] at hx; exact cellAt hx rfl
  have hc2 : ∀ wx, S wx -> wx.cell? ((⟨w.heap.size, 0, none⟩ : Addr).add 2) = some (.int .i64 n2) := fun wx hx => by rw [hS] at hx; exact cellAt hx rfl
  have hS1 : S w1 := by rw [hS]; exact hb1
  have hSp : ∀ {wa wb : World}, S wa -> Pu wa wb -> S wb := fun {wa wb} ha hp => by rw [hS] at ha ⊢; exact hp.blk ha
  have hSf : ∀ {wa wb : World}, S wa -> Fr (· ∈ d.own) wa wb -> S wb := fun {wa wb} ha hf => by rw [hS] at ha ⊢; exact hf.blk ha hown
  refine Br.of (fun _ => ?_) (fun _ => Br.of (fun _ => ?_) (fun _ => Br.of (fun _ => ?_) (fun _ => Br.of (fun _ => ?_) (fun _ => ?_))))
  · refine dwE_intro fun w2 hp2 _ => ?_
    refine ⟨S, hSp hS1 hp2, name, hc4, name, hc4, ?_⟩
    refine Calls.mono (two_make (B1.pure hp2) O name) ?_
    rintro e w3 ⟨n, rfl, hf, hcall⟩
    refine ⟨n, rfl, hSf (hSp hS1 hp2) hf, Calls.mono hcall ?_⟩
    rintro e w4 ⟨rfl, P⟩
    exact ⟨n, rfl, by simp, P⟩
  · refine dwE_intro fun w2 hp2 _ => ?_
    refine ⟨S, hSp hS1 hp2, name, hc4, name, hc4, ?_⟩
    refine Calls.mono (two_drop (B1.pure hp2) O hN name) ?_
    rintro e w3 ⟨n, rfl, hf, hcall⟩
    refine ⟨n, rfl, hSf (hSp hS1 hp2) hf, Calls.mono hcall ?_⟩
    rintro e w4 ⟨rfl, P⟩
    exact ⟨n, rfl, by simp, P⟩
  · refine dwE_intro fun w2 hp2 _ => ?_
    refine ⟨S, hSp hS1 hp2, name, hc4, n2, hc2, name, hc4, n2, hc2, ?_⟩
    refine Calls.mono (two_resize (B1.pure hp2) O name n2) ?_
    rintro e w3 ⟨n, rfl, hf, hcall⟩
    refine ⟨n, rfl, hSf (hSp hS1 hp2) hf, Calls.mono hcall ?_⟩
    rintro e w4 ⟨rfl, P⟩
    exact ⟨n, rfl, by simp, P⟩
  · refine ⟨name, hc4 _ hS1, ?_⟩
    refine Calls.mono (two_size B1 O name) ?_
    rintro e w3 ⟨a, b, rfl, hf, hcall⟩
    refine ⟨a, b, rfl, name, hc4 _ (hSf hS1 hf), Calls.mono hcall ?_⟩
    rintro e w4 ⟨rfl, P⟩
    exact ⟨a, b, rfl, Br.t (by simp) ⟨by simp, P⟩⟩
  · refine ⟨name, hc4 _ hS1, ?_⟩
    refine Calls.mono (two_disk B1 O name) ?_
    rintro e w3 ⟨l, n, bs, rfl, hf, hcall⟩
    refine ⟨l, n, rfl, name, hc4 _ (hSf hS1 hf), Calls.mono hcall ?_⟩
    rintro e w4 ⟨l2, rfl, hr1, hr2, P⟩
    obtain ⟨s1, hs1, hd1⟩ := conv_str hr1
    obtain ⟨s2, hs2, hd2⟩ := conv_str hr2
    exact ⟨l2, n, rfl, s1, w4, hs1, s2, w4, hs2, Br.t (same_str hd1 hd2) ⟨by simp, P⟩⟩
theorem write_one (B : Base w0 w d r σ ρ) (O : Ok N σ ρ) (u : Int) (name : ByteArray) (at_ : Int) {l : SV} {bs : List UInt8} (hl : RdSl w l bs) (hlo : ∀ b ∈ blkOf l, b < w.heap.size /\ b ∉ d.own) :
    Calls Tryz.prog 25 #[d.ptr, .int .i64 u, .string name, .int .i64 at_, .slice l.a l.len l.cap] w fun e w1 => e = iE (writeC u name at_ bs σ) /\ Fr (· ∈ d.own) w w1 /\ ∃ d', Base w0 w1 d' r (writeS u name at_ bs σ) ρ /\ d'.S = d.S /\ ∀ b ∈ d'.own, b ∈ d.own ∨ w.heap.size <= b := by
  refine Calls.mono (write_c B.a O.good.small u name at_ hl hlo) ?_
  rintro e w1 ⟨rfl, L⟩
  exact ⟨rfl, L.fr, d, B.op L, L.ptr, L.own⟩
theorem write_two {u : Int} {name : ByteArray} {at_ : Int} {bs : List UInt8} (B : Base w0 w d' r (writeS u name at_ bs σ) ρ) (O : Ok N σ ρ) (hN : N <= 400) (hS : d'.S = d.S) {l : SV} (hl : RdSl w l bs) (hlo : ∀ b ∈ blkOf l, b < w.heap.size /\ r.o b = none) :
    Calls Tryz.prog 29 #[r.ptr, .int .i64 u, .string name, .int .i64 at_, .slice l.a l.len l.cap] w fun e w1 => e = iE (writeC u name at_ bs σ) /\ Pst w0 N w1 d r ρ := by
  refine Calls.mono (rWrite_c B.b O.rgood u name at_ hl hlo) ?_
  rintro e w1 ⟨rfl, r', L⟩
  exact ⟨by rw [O.writeC]; rfl, d', r', _, _, B.rop L, O.write hN u name at_ bs, hS, L.ptr, fun h => rWriteS_sorted h u name at_ bs⟩
end Go.Proofs.YtnigfiljenfgjaaGreat

/- The disk: an act that is played at both systems tells the same, all acts. -/
set_option maxRecDepth 100000
set_option linter.unusedVariables false
set_option linter.unusedSimpArgs false
namespace Go.Proofs.YtnigfiljenfgjaaGreat
open Go.Sh Go.RowKit
variable {w0 : Kp} {w w1 : World} {d d' : Lay} {r r' : RLay} {σ σ' : Sys} {ρ ρ' : RSys} {N : Nat}
set_option maxHeartbeats 4000000 in
theorem played_c (B : Base w0 w d r σ ρ) (O : Ok N σ ρ) (hN : N <= 400) (n0 n1 n2 n3 : Int) (name by_ : ByteArray) (hby : by_.size <= 100000) :
    Calls Tryz.prog 11 #[d.ptr, r.ptr, .agg #[.int .i64 n0, .int .i64 n1, .int .i64 n2, .int .i64 n3, .string name, .string by_]] w fun e w' => e = .returned (.bool true) /\ Pst w0 N w' d r ρ := by
  refine F11_calls _ _ n0 n1 n2 n3 name by_ w _ ?_
  refine alE_intro fun w1 hw1 => ?_
  have hp1 : Pu w w1 := by rw [hw1]; exact Pu.alloc w _
  have hb1 : w1.heap[w.heap.size]? = some (.cells #[.int .i64 n0, .int .i64 n1, .int .i64 n2, .int .i64 n3, .string name, .string by_] 31) := by rw [hw1]; exact alloc_new w _
  have B1 := B.pure hp1
  have hown : w.heap.size ∉ d.own := fun hx => by have := B.a.lt _ hx; omega
  obtain ⟨S, hS⟩ : ∃ S : World -> Prop, S = fun wx => wx.heap[w.heap.size]? = some (.cells #[.int .i64 n0, .int .i64 n1, .int .i64 n2, .int .i64 n3, .string name, .string by_] 31) := ⟨_, rfl⟩
  have hc1 : ∀ wx, S wx -> wx.cell? ((⟨w.heap.size, 0, none⟩ : Addr).add 1) = some (.int .i64 n1) := fun wx hx => by rw [hS] at hx; exact cellAt hx rfl
  have hc2 : ∀ wx, S wx -> wx.cell? ((⟨w.heap.size, 0, none⟩ : Addr).add 2) = some (.int .i64 n2) := fun wx hx => by rw [hS] at hx; exact cellAt hx rfl
  have hc3 : ∀ wx, S wx -> wx.cell? ((⟨w.heap.size, 0, none⟩ : Addr).add 3) = some (.int .i64 n3) := fun wx hx => by rw [hS] at hx; exact cellAt hx rfl
  have hc4 : ∀ wx, S wx -> wx.cell? ((⟨w.heap.size, 0, none⟩ : Addr).add 4) = some (.string name) := fun wx hx => by rw [hS] at hx; exact cellAt hx rfl
  have hc5 : ∀ wx, S wx -> wx.cell? ((⟨w.heap.size, 0, none⟩ : Addr).add 5) = some (.string by_) := fun wx hx => by rw [hS] at hx; exact cellAt hx rfl
  have hc0 : ∀ wx, S wx -> wx.cell? ((⟨w.heap.size, 0, none⟩ : Addr).add 0) = some (.int .i64 n0) := fun wx hx => by rw [hS] at hx; exact cellAt hx rfl
  have hS1 : S w1 := by rw [hS]; exact hb1
  have hSp : ∀ {wa wb : World}, S wa -> Pu wa wb -> S wb := fun {wa wb} ha hp => by rw [hS] at ha ⊢; exact hp.blk ha
  have hSf : ∀ {wa wb : World}, S wa -> Fr (· ∈ d.own) wa wb -> S wb := fun {wa wb} ha hf => by rw [hS] at ha ⊢; exact hf.blk ha hown
  refine ⟨n0, by rw [cell_blk hb1]; rfl, rfl, by decide, rfl, by decide, ?_⟩
  refine Br.of (fun _ => ?_) (fun _ => Br.of (fun _ => ?_) (fun _ => Br.of (fun _ => ?_) (fun _ => Br.of (fun _ => ?_) (fun _ => Br.of (fun _ => ?_) (fun _ => Br.of (fun _ => ?_) (fun _ => Br.of (fun _ => ?_) (fun _ => Br.of (fun _ => ?_) (fun _ => ?_))))))))
  · -- reading
    refine ⟨n1, hc1 _ hS1, name, hc4 _ hS1, n2, hc2 _ hS1, n3, hc3 _ hS1, ?_⟩
    refine Calls.mono (two_read B1 O hN n1 name n2 n3) ?_
    rintro e w3 ⟨l, n, bs, rfl, hf, hcall⟩
    have hS3 := hSf hS1 hf
    refine ⟨l, n, rfl, n1, hc1 _ hS3, name, hc4 _ hS3, n2, hc2 _ hS3, n3, hc3 _ hS3, Calls.mono hcall ?_⟩
    rintro e w4 ⟨l2, rfl, hr1, hr2, P⟩
    obtain ⟨s1, hs1, hd1⟩ := conv_str hr1
    obtain ⟨s2, hs2, hd2⟩ := conv_str hr2
    exact ⟨l2, n, rfl, s1, w4, hs1, s2, w4, hs2, Br.t (same_str hd1 hd2) ⟨by simp, P⟩⟩
  · -- writing
    refine dwE_intro fun w2 hp2 _ => ?_
    have B2 := B1.pure hp2
    have hS2 := hSp hS1 hp2
    have hsz : by_.size <= 140737488355328 := by omega
    refine ⟨S, hS2, n1, hc1, name, hc4, n2, hc2, by_, hc5, n1, hc1, name, hc4, n2, hc2, by_, hc5, ?_⟩
    have newout : ∀ {wa wb : World} {l : SV}, Base w0 wa d r σ ρ -> l.a = some ⟨wa.heap.size, 0, none⟩ -> wb.heap.size = wa.heap.size + 1 -> ∀ b ∈ blkOf l, b < wb.heap.size /\ b ∉ d.own /\ r.o b = none := fun {wa wb l} Ba hla hz b hb => by
      have hb : b = wa.heap.size := by simpa [blkOf, hla] using hb
      subst hb
      refine ⟨by omega, fun hx => by have := Ba.a.lt _ hx; omega, ?_⟩
      cases ho : r.o wa.heap.size with
      | none => rfl
      | some k => have := Ba.b.lt wa.heap.size (by rw [ho]; simp); omega
    have fin : ∀ (a b : Int), a = b -> (a == b) = true := fun a b h => by rw [h]; simp
    -- both slices are made, then the calls
    have both : ∀ {wx : World} {l83 l94 : SV}, Base w0 wx d r σ ρ -> S wx -> RdSl wx l83 by_.data.toList -> RdSl wx l94 by_.data.toList -> (∀ b ∈ blkOf l83, b < wx.heap.size /\ b ∉ d.own /\ r.o b = none) -> (∀ b ∈ blkOf l94, b < wx.heap.size /\ b ∉ d.own /\ r.o b = none) ->
        Calls Tryz.prog 25 #[.pointer (some ⟨d.S, 0, none⟩), .int .i64 n1, .string name, .int .i64 n2, .slice l83.a l83.len l83.cap] wx fun e w10 => ∃ n84 : Int, e = .returned (.int .i64 n84) /\ S w10 /\
        Calls Tryz.prog 29 #[.pointer (some ⟨r.S, 0, none⟩), .int .i64 n1, .string name, .int .i64 n2, .slice l94.a l94.len l94.cap] w10 fun e w12 => ∃ n95 : Int, e = .returned (.int .i64 n95) /\ runD Tryz.prog [] w12 fun w13 => (Ending.returned (.bool (n84 == n95)) = Ending.returned (.bool true) /\ Pst w0 N w13 d r ρ) := fun {wx l83 l94} Bx hSx h83 h94 o83 o94 => by
      refine Calls.mono (write_one Bx O n1 name n2 h83 (rdsl_out Bx o83).1) ?_
      rintro e w10 ⟨rfl, hf, d', B', hdS, hdo⟩
      refine ⟨_, rfl, hSf hSx hf, ?_⟩
      have h94' : RdSl w10 l94 by_.data.toList := rdsl_fr h94 hf fun b hb hx => (o94 b hb).2.1 hx
      have hz := hf.size
      refine Calls.mono (write_two B' O hN hdS h94' fun b hb => ⟨by have := (o94 b hb).1; omega, (o94 b hb).2.2⟩) ?_
      rintro e w12 ⟨rfl, P⟩
      exact ⟨_, rfl, by rw [fin _ _ rfl], P⟩
    refine ⟨?_, ?_⟩
    · obtain ⟨l83, w9, hr9, hp9, h83, ha83, hz9⟩ := conv_new (P := Tryz.prog) u9 u29 u5 by_ hsz w2
      have B9 := B2.pure hp9
      have hS9 := hSp hS2 hp9
      have o83 := newout (wb := w9) B2 ha83 hz9
      refine ⟨l83, w9, hr9, hS9, ?_, ?_⟩
      · refine Calls.mono (write_one B9 O n1 name n2 h83 (rdsl_out B9 o83).1) ?_
        rintro e w10 ⟨rfl, hf, d', B', hdS, hdo⟩
        have hS10 := hSf hS9 hf
        refine ⟨_, rfl, hS10, ?_⟩
        obtain ⟨l94, w11, hr11, hp11, h94, ha94, hz11⟩ := conv_new (P := Tryz.prog) u9 u29 u5 by_ hsz w10
        refine ⟨l94, w11, hr11, hSp hS10 hp11, ?_⟩
        refine Calls.mono (write_two (B'.pure hp11) O hN hdS h94 fun b hb => ?_) ?_
        · have hb : b = w10.heap.size := by simpa [blkOf, ha94] using hb
          subst hb
          refine ⟨by omega, ?_⟩
          cases ho : r.o w10.heap.size with
          | none => rfl
          | some k => have := B'.b.lt w10.heap.size (by rw [ho]; simp); omega
        · rintro e w12 ⟨rfl, P⟩
          exact ⟨_, rfl, by rw [fin _ _ rfl], P⟩
      · obtain ⟨l94, w14, hr14, hp14, h94, ha94, hz14⟩ := conv_new (P := Tryz.prog) u9 u29 u5 by_ hsz w9
        have hS14 := hSp hS9 hp14
        exact ⟨l94, w14, hr14, hS14, both (B9.pure hp14) hS14 (h83.pu hp14) h94 (fun b hb => ⟨by have := (o83 b hb).1; omega, (o83 b hb).2⟩) (newout (wb := w14) B9 ha94 hz14)⟩
    · obtain ⟨l94, w18, hr18, hp18, h94, ha94, hz18⟩ := conv_new (P := Tryz.prog) u9 u29 u5 by_ hsz w2
      have B18 := B2.pure hp18
      have hS18 := hSp hS2 hp18
      have o94 := newout (wb := w18) B2 ha94 hz18
      obtain ⟨l83, w19, hr19, hp19, h83, ha83, hz19⟩ := conv_new (P := Tryz.prog) u9 u29 u5 by_ hsz w18
      have hS19 := hSp hS18 hp19
      exact ⟨l94, w18, hr18, hS18, l83, w19, hr19, hS19, both (B18.pure hp19) hS19 h83 (h94.pu hp19) (newout (wb := w19) B18 ha83 hz19) (fun b hb => ⟨by have := (o94 b hb).1; omega, (o94 b hb).2⟩)⟩
  · -- locking
    refine dwE_intro fun w2 hp2 _ => ?_
    have hS2 := hSp hS1 hp2
    refine ⟨S, hS2, n1, hc1, name, hc4, n2, hc2, n3, hc3, n1, hc1, name, hc4, n2, hc2, n3, hc3, ?_⟩
    refine Calls.mono (two_lock (B1.pure hp2) O hN n1 name n2 n3) ?_
    rintro e w3 ⟨n, rfl, hf, hcall⟩
    refine ⟨n, rfl, hSf hS2 hf, Calls.mono hcall ?_⟩
    rintro e w4 ⟨rfl, P⟩
    exact ⟨n, rfl, by simp, P⟩
  · -- unlocking
    refine dwE_intro fun w2 hp2 _ => ?_
    have hS2 := hSp hS1 hp2
    refine ⟨S, hS2, n1, hc1, name, hc4, n2, hc2, n3, hc3, n1, hc1, name, hc4, n2, hc2, n3, hc3, ?_⟩
    refine Calls.mono (two_unlock (B1.pure hp2) O hN n1 name n2 n3) ?_
    rintro e w3 ⟨n, rfl, hf, hcall⟩
    refine ⟨n, rfl, hSf hS2 hf, Calls.mono hcall ?_⟩
    rintro e w4 ⟨rfl, P⟩
    exact ⟨n, rfl, by simp, P⟩
  · -- flushing
    refine ⟨n1, hc1 _ hS1, name, hc4 _ hS1, ?_⟩
    refine Calls.mono (two_flush B1 O n1 name) ?_
    rintro e w3 ⟨a, b, rfl, hf, hcall⟩
    have hS3 := hSf hS1 hf
    refine ⟨a, b, rfl, n1, hc1 _ hS3, name, hc4 _ hS3, Calls.mono hcall ?_⟩
    rintro e w4 ⟨rfl, P⟩
    exact ⟨a, b, rfl, Br.t (by simp) ⟨by simp, P⟩⟩
  · -- forgetting
    refine ⟨n1, hc1 _ hS1, name, hc4 _ hS1, ?_⟩
    refine Calls.mono (two_forget B1 O n1 name) ?_
    rintro e w3 ⟨a, b, rfl, hf, hcall⟩
    have hS3 := hSf hS1 hf
    refine ⟨a, b, rfl, n1, hc1 _ hS3, name, hc4 _ hS3, Calls.mono hcall ?_⟩
    rintro e w4 ⟨rfl, P⟩
    exact ⟨a, b, rfl, Br.t (by simp) ⟨by simp, P⟩⟩
  · -- falling
    refine ⟨n1, hc1 _ hS1, ?_⟩
    refine Calls.mono (two_fall B1 O hN n1) ?_
    rintro e w3 ⟨a, b, rfl, hf, hcall⟩
    have hS3 := hSf hS1 hf
    refine ⟨a, b, rfl, n1, hc1 _ hS3, Calls.mono hcall ?_⟩
    rintro e w4 ⟨rfl, P⟩
    exact ⟨a, b, rfl, Br.t (by simp) ⟨by simp, P⟩⟩
  · -- what is dirty
    refine ⟨n1, hc1 _ hS1, name, hc4 _ hS1, ?_⟩
    refine Calls.mono (two_dirty B1 O n1 name) ?_
    rintro e w3 ⟨l, c, zs, rfl, hf, hcall⟩
    have hS3 := hSf hS1 hf
    refine ⟨l, c, rfl, n1, hc1 _ hS3, name, hc4 _ hS3, Calls.mono hcall ?_⟩
    rintro e w4 ⟨l2, rfl, hr1, hr2, d', r', σ', ρ', B', O', hd, hr, hs⟩
    refine ⟨l2, c, rfl, Calls.mono (sameInts_c hr1 hr2) ?_⟩
    rintro e w5 ⟨rfl, hp5⟩
    exact ⟨true, rfl, Br.t rfl ⟨by simp, d', r', σ', ρ', B'.pure hp5, O', hd, hr, hs⟩⟩
  · -- files
    refine ⟨n0, hc0 _ hS1, n1, hc1 _ hS1, n2, hc2 _ hS1, n3, hc3 _ hS1, name, hc4 _ hS1, by_, hc5 _ hS1, ?_⟩
    refine Calls.mono (files_c B1 O hN _ n0 n1 n2 n3 name by_) ?_
    rintro e w3 ⟨rfl, P⟩
    exact ⟨true, rfl, rfl, P⟩
end Go.Proofs.YtnigfiljenfgjaaGreat

/- The disk: scripts that are handed in; the law. No condition. -/
set_option maxRecDepth 100000
set_option linter.unusedVariables false
set_option linter.unusedSimpArgs false
namespace Go.Proofs.YtnigfiljenfgjaaGreat
open Go.Sh Go.RowKit
structure Act where
  kind : Int
  u : Int
  at_ : Int
  n : Int
  name : ByteArray
  data : ByteArray
def intOk (n : Int) : Prop := -9223372036854775808 <= n /\ n <= 9223372036854775807
def Act.ok (a : Act) : Prop := intOk a.kind /\ intOk a.u /\ intOk a.at_ /\ intOk a.n
def Act.vals (a : Act) : List Value := [.int .i64 a.kind, .int .i64 a.u, .int .i64 a.at_, .int .i64 a.n, .string a.name, .string a.data]
instance : Enc Act where
  sz := 6
  rd _ vs a := vs = a.vals /\ a.ok
  len h := by rw [h.1]; rfl
  pu _ h := h
instance : Lim Act := ⟨fun a => Lim.ok a.name /\ Lim.ok a.data⟩
theorem actAt {w : World} {s : SV} {l : List Act} (h : RdSl w s l) {i : Nat} {x : Act} (hx : l[i]? = some x) : ∃ a, s.a = some a /\ i < s.len /\ x.ok /\ w.cell? ((a.add (i * 6)).add 0) = some (.int .i64 x.kind) /\ w.cell? ((a.add (i * 6)).add 1) = some (.int .i64 x.u) /\ w.cell? ((a.add (i * 6)).add 2) = some (.int .i64 x.at_) /\
    w.cell? ((a.add (i * 6)).add 3) = some (.int .i64 x.n) /\ w.cell? ((a.add (i * 6)).add 4) = some (.string x.name) /\ w.cell? ((a.add (i * 6)).add 5) = some (.string x.data) := by
  obtain ⟨a, ha, vs, h1, h2⟩ := h.get i x hx
  obtain ⟨rfl, hok⟩ : vs = x.vals /\ x.ok := h1
  have hi : i < l.length := (List.getElem?_eq_some_iff.1 hx).1
  have h2 : CellsAt w (a.add (i * 6)) x.vals := h2
  exact ⟨a, ha, by rw [h.len]; exact hi, hok, h2 0 _ rfl, h2 1 _ rfl, h2 2 _ rfl, h2 3 _ rfl, h2 4 _ rfl, h2 5 _ rfl⟩
open Go.ChangeShapes Go.WideShapes Go.ChangeAt in
theorem opens_act : Opens Tryz.prog 31 Act := fun H enc w base sp held fuel cs x h hr => by
  obtain ⟨hl, hF⟩ := open_fields (P := Tryz.prog) (t := 31) (ts := [(3, 0), (3, 1), (3, 2), (3, 3), (9, 4), (9, 5)]) (by kernel_rfl) (by rfl) (fun p hp => by
    simp only [List.mem_cons, List.not_mem_nil, or_false] at hp
    rcases hp with rfl | rfl | rfl | rfl | rfl | rfl <;> kernel_rfl) (by kernel_rfl) h
  obtain ⟨n0, v0, d0, c0, t0, w0⟩ := hF 0 _ rfl
  obtain ⟨n1, v1, d1, c1, t1, w1⟩ := hF 1 _ rfl
  obtain ⟨n2, v2, d2, c2, t2, w2⟩ := hF 2 _ rfl
  obtain ⟨n3, v3, d3, c3, t3, w3⟩ := hF 3 _ rfl
  obtain ⟨n4, v4, d4, c4, t4, w4⟩ := hF 4 _ rfl
  obtain ⟨n5, v5, d5, c5, t5, w5⟩ := hF 5 _ rfl
  obtain ⟨x0, r0, l0⟩ := field_as (opens_int (by kernel_rfl)) t0 fun m hm => hr m (w0 m hm)
  obtain ⟨x1, r1, l1⟩ := field_as (opens_int (by kernel_rfl)) t1 fun m hm => hr m (w1 m hm)
  obtain ⟨x2, r2, l2⟩ := field_as (opens_int (by kernel_rfl)) t2 fun m hm => hr m (w2 m hm)
  obtain ⟨x3, r3, l3⟩ := field_as (opens_int (by kernel_rfl)) t3 fun m hm => hr m (w3 m hm)
  obtain ⟨x4, r4, l4⟩ := field_as (opens_str (by kernel_rfl)) t4 fun m hm => hr m (w4 m hm)
  obtain ⟨x5, r5, l5⟩ := field_as (opens_str (by kernel_rfl)) t5 fun m hm => hr m (w5 m hm)
  obtain ⟨r0, b0⟩ := r0
  obtain ⟨r1, b1⟩ := r1
  obtain ⟨r2, b2⟩ := r2
  obtain ⟨r3, b3⟩ := r3
  have r4 : [v4] = [.string x4] := r4
  have r5 : [v5] = [.string x5] := r5
  simp only [List.cons.injEq, and_true] at r0 r1 r2 r3 r4 r5
  subst r0 r1 r2 r3 r4 r5
  refine ⟨⟨x0, x1, x2, x3, x4, x5⟩, ⟨?_, b0, b1, b2, b3⟩, ⟨l4, l5⟩⟩
  have hl : cs.length = 6 := hl
  apply List.ext_getElem?
  intro i
  match i with
  | 0 => exact c0
  | 1 => exact c1
  | 2 => exact c2
  | 3 => exact c3
  | 4 => exact c4
  | 5 => exact c5
  | k + 6 => rw [List.getElem?_eq_none (by omega)]; rfl
def totA (l : List Act) : Nat := (l.map fun a => a.name.size + a.data.size).sum
theorem totA_snoc (l : List Act) (a : Act) : totA (l ++ [a]) = totA l + (a.name.size + a.data.size) := by simp [totA]
theorem totA_mem {l : List Act} {a : Act} (h : a ∈ l) : a.data.size <= totA l := by
  induction l with
  | nil => cases h
  | cons b l ih =>
    simp only [totA, List.map_cons, List.sum_cons] at *
    rcases List.mem_cons.1 h with rfl | h
    · omega
    · have := ih h; omega
theorem totA_le : ∀ (l : List Act), Lim.ok l -> totA l <= l.length * 281474976710656
  | [], _ => by simp [totA]
  | a :: l, h => by
    have h1 := totA_le l fun x hx => h x (List.mem_cons_of_mem _ hx)
    have h2 : Lim.ok a := h a (List.mem_cons_self ..)
    have h3 : a.name.size <= 140737488355328 := h2.1
    have h4 : a.data.size <= 140737488355328 := h2.2
    simp only [totA, List.map_cons, List.sum_cons, List.length_cons] at *
    omega
theorem over_c (w : World) (s : SV) (l : List Act) (h : RdSl w s l) (hlim : Lim.ok l) : Calls Tryz.prog 7 #[.slice s.a s.len s.cap] w fun e w' => ∃ b : Bool, e = .returned (.bool b) /\ Pu w w' /\ (b = false -> l.length <= 200 /\ ∀ x ∈ l, x.data.size <= 100000) := by
  refine F7_calls s w _ ?_
  have hlen := h.len
  have hl2 := h.lim
  refine loopUp l.length (fun k t w' => t.2 = (k : Int) /\ Pu w w' /\ (l.length <= 200 -> t.1 = ((totA (l.take k) : Nat) : Int))) ⟨rfl, Pu.refl _, fun _ => by simp [totA]⟩ ?_
  rintro k J ⟨n3, t⟩ w2 hk ⟨ht, hp2, hsum⟩ hJ
  obtain rfl : t = (k : Int) := ht
  dsimp only at hsum ⊢
  refine Br.of (fun d1 => ?_) (fun d1 => ?_)
  · have hkn : k < l.length := by have := dtrue d1; omega
    refine dwE_intro fun w3 hp3 _ => ?_
    obtain ⟨x, hx⟩ := at_k hkn
    obtain ⟨a, ha, hi, hok, c0, c1, c2, c3, c4, c5⟩ := actAt ((h.pu hp2).pu hp3) hx
    refine ⟨a, ha, by omega, by omega, x.name, by rw [Int.toNat_natCast]; exact c4, a, ha, by omega, by omega, x.data, by rw [Int.toNat_natCast]; exact c5, ?_⟩
    rw [wrap_in (n := (k : Int) + 1) (by omega) (by omega)]
    have htk : l.take (k + 1) = l.take k ++ [x] := by rw [List.take_add_one, hx]; rfl
    refine hJ _ _ hkn ⟨rfl, hp2.trans hp3, fun h200 => ?_⟩
    have hx2 : Lim.ok x := hlim x (List.mem_of_getElem? hx)
    have h3 : x.name.size <= 140737488355328 := hx2.1
    have h4 : x.data.size <= 140737488355328 := hx2.2
    have h5 := totA_le (l.take k) fun y hy => hlim y (List.mem_of_mem_take hy)
    rw [List.length_take, Nat.min_eq_left (by omega)] at h5
    show IntKind.i64.wrap (n3 + IntKind.i64.wrap (((x.name.size : Nat) : Int) + ((x.data.size : Nat) : Int))) = _
    rw [hsum h200, wrap_in (n := ((x.name.size : Nat) : Int) + ((x.data.size : Nat) : Int)) (by omega) (by omega), wrap_in (by omega) (by omega), htk, totA_snoc]
    omega
  · have hkn : k = l.length := by have := dfalse d1; omega
    subst hkn
    rw [List.take_length] at hsum
    refine Br.of (fun d2 => ⟨true, rfl, hp2, fun h => by cases h⟩) (fun d2 => ⟨_, rfl, hp2, fun hb => ?_⟩)
    have h200 : l.length <= 200 := by have := dfalse hb; omega
    have h1 := dfalse d2
    rw [hsum h200] at h1
    exact ⟨h200, fun x hx => by have := totA_mem hx; omega⟩
theorem newLay_own (n : Nat) : ∀ x ∈ (newLay n).own, n <= x := fun x hx => by
  simp [newLay, Lay.own, blkOf] at hx
  omega
end Go.Proofs.YtnigfiljenfgjaaGreat

/- The disk: a system is copied. No condition but those stated. -/
set_option maxRecDepth 100000
set_option linter.unusedVariables false
set_option linter.unusedSimpArgs false
namespace Go.Proofs.YtnigfiljenfgjaaGreat
open Go.Sh Go.RowKit
structure SysEq (σ τ : Sys) : Prop where
  fg : ∀ name, AL.get τ.files name = AL.get σ.files name
  fn : τ.files.length = σ.files.length
  nd : (τ.files.map Prod.fst).Nodup
  ca : ∀ u, u < 4 -> τ.caches u = σ.caches u
  lk : τ.locks = σ.locks
set_option maxHeartbeats 2000000 in
theorem copy_c {w : World} {d : Lay} {σ : Sys} (h : SysAt w d 0 σ) (hsm : Small σ) (hlk : σ.locks.length <= 1000000) :
    Calls Tryz.prog 20 #[d.ptr] w fun e w' => ∃ dc τ, e = .returned dc.ptr /\ Left w w' d d σ /\ SysAt w' dc 0 τ /\ SysEq σ τ /\ ∀ b ∈ dc.own, w.heap.size <= b := by
  refine F20_calls _ w _ ⟨false, w, eqS_ptr_nil u23 _ _ _ w, Br.f rfl ?_⟩
  show Calls Tryz.prog 46 #[.pointer (some ⟨d.S, 0, none⟩)] w _
  refine Calls.mono (muLock (by rw [h.cellS]; rfl) (frozen_blk h.st 0)) ?_
  rintro e w1 ⟨rfl, hw1⟩
  have h1 : SysAt w1 d 1 σ := by rw [hw1]; exact h.setMu 1
  have hf1 : Fr (· = d.S) w w1 := by rw [hw1]; exact Fr.setCell w ⟨d.S, 0, none⟩ _
  have hz1 := hf1.size
  have hlt := h.lt
  refine ⟨rfl, ?_⟩
  show Calls Tryz.prog 9 #[] w1 _
  refine Calls.mono (new_c w1) ?_
  rintro e w2 ⟨rfl, hN, hp2⟩
  have h2 := h1.pu hp2
  have hno := newLay_own w1.heap.size
  obtain ⟨dn, hdn⟩ : ∃ dn, dn = newLay w1.heap.size := ⟨_, rfl⟩
  rw [← hdn] at hN hno
  rw [← hdn]
  obtain ⟨w3, hr3, hi3, hp3, hs3⟩ := h2.mp.range (t := 55) u40
  refine ⟨_, rfl, some d.M, h2.cellM, _, w3, hr3, ?_⟩
  have hfl : d.fs.length = σ.files.length := h.fl.length
  have hM : d.M < w2.heap.size := h2.lt _ (mem_M d)
  have hz2 := hp2.size
  refine loopDown d.fs.length (fun m _ w' => ∃ (todo : List (ByteArray × SV)) (dc : Lay) (fb : List (ByteArray × List UInt8)), todo.length = m /\ IterAt w' ekS evS w2.heap.size d.M d.fs todo /\ SysAt w' d 1 σ /\ SysAt w' dc 0 ⟨fb, fun _ => [], []⟩ /\ dc.S = dn.S /\
      (∀ b ∈ dc.own, w1.heap.size <= b /\ b ≠ w2.heap.size) /\ (∀ name, AL.get fb name = if (AL.get todo name).isSome then none else AL.get σ.files name) /\ fb.length + todo.length = σ.files.length /\ (fb.map Prod.fst).Nodup /\ Seen d.fs todo (fun _ => True) /\ Pu w1 w')
    ⟨d.fs, dn, [], rfl, hi3, h2.pu hp3, hN.pu hp3, rfl, fun b hb => ⟨hno b hb, fun e => by have := hN.lt b hb; omega⟩, fun name => ?_, by simp [hfl], by simp, Seen.start _ _, hp2.trans hp3⟩ ?_
  · rcases h.fl.get name with ⟨a1, a2⟩ | ⟨s, b, a1, a2, _⟩
    · rw [a1, a2]; rfl
    · rw [a1]; rfl
  rintro m J _ w4 ⟨todo, dc, fb, hm, hit, hS, hC, hptr, hown, hfg, hfn, hfnd, hseen, hp4⟩ hJ
  have hz4 := hp4.size
  have hrlt := hit.ltr
  rcases hit.next (P := Tryz.prog) 0 with ⟨hnil, hr⟩ | ⟨p, hpm, w5, hr, hf5, hs5, hit5, hen⟩
  · refine .inl ⟨w4, hr, ?_⟩
    subst hnil
    have hfg : ∀ name, AL.get fb name = AL.get σ.files name := fun name => by rw [hfg name]; rfl
    have hfn : fb.length = σ.files.length := by simpa using hfn
    -- the caches
    refine loopUp 4 (fun k t w' => t = (k : Int) /\ ∃ dc' τ, SysAt w' d 1 σ /\ SysAt w' dc' 0 τ /\ dc'.S = dn.S /\ (∀ b ∈ dc'.own, w1.heap.size <= b) /\ τ.files = fb /\ τ.locks = [] /\ (∀ u, u < k -> τ.caches u = σ.caches u) /\ Pu w1 w') ⟨rfl, dc, _, hS, hC, hptr, fun b hb => (hown b hb).1, rfl, rfl, fun u hu => absurd hu (by omega), hp4⟩ ?_
    rintro k J2 t w6 hk ⟨rfl, dk, τ, hS6, hC6, hptr6, hown6, ht1, ht2, ht3, hp6⟩ hJ2
    have hz6 := hp6.size
    rw [← hptr6]
    refine Br.of (fun d1 => ?_) (fun d1 => ?_)
    · have hk4 : k < 4 := by have := dtrue d1; omega
      refine dwE_intro fun w7 hp7 _ => ?_
      have hS7 := hS6.pu hp7
      have hC7 := hC6.pu hp7
      refine ⟨by omega, by omega, some (d.c k), hS7.cellC hk4, ?_⟩
      refine Calls.mono (cloneM_c (hS7.ca k hk4)) ?_
      rintro e w8 ⟨rfl, hm8, hp8, hs8⟩
      have hC8 := hC7.pu hp8
      refine ⟨some w7.heap.size, rfl, by omega, by omega, ?_⟩
      rw [add_def, add_def]
      refine st1_intro hC8.st (by show 0 + 3 + (k : Int).toNat * 1 < 8; omega) fun w9 hw9 hb9 => ?_
      have hf9 : Fr (· = dk.S) w8 w9 := by rw [hw9]; exact Fr.cell w8 _ _ _
      have hdS : dk.S ∈ dk.own := mem_S dk
      have hdl := hC7.lt _ hdS
      have hS9 : SysAt w9 d 1 σ := (hS7.pu hp8).fr hf9 fun b hb e => by
        have h3 := hlt b hb
        have h4 := hown6 _ hdS
        have e : b = dk.S := e
        omega
      have hC9 := hC7.newC (w' := w9) hk4 (hm8.fr hf9 (by show ¬ _ = _; omega)) ((Fr.pu hp8 : Fr (· = dk.S) w7 w8).trans hf9 fun i hi _ => hi) (by rw [hb9]; simp [Nat.add_comm])
      rw [wrap_in (by omega) (by omega)]
      refine hJ2 _ _ hk4 ⟨rfl, dk.newC k w7.heap.size, _, hS9, hC9, hptr6, fun b hb => ?_, ht1, ht2, fun u hu => ?_, ((hp6.trans hp7).trans hp8).andNew hf9 fun i hi => by have := hown6 _ hdS; have hi : i = dk.S := hi; omega⟩
      · rw [newC_own hk4] at hb
        rcases List.mem_or_eq_of_mem_set hb with h3 | h3
        · exact hown6 b h3
        · have := hp7.size; omega
      · by_cases e : u = k
        · subst e; simp [Sys.setCache]
        · simp only [Sys.setCache, if_neg e]; exact ht3 u (by omega)
    · have hk4 : k = 4 := by have := dfalse d1; omega
      subst hk4
      refine ⟨d.ls, hS6.cellL, ?_⟩
      refine Calls.mono (cloneL_c hS6.lk hlk) ?_
      rintro e w7 ⟨t, rfl, hrow, hp7, hnb⟩
      have hS7 := hS6.pu hp7
      have hC7 := hC6.pu hp7
      refine ⟨t, rfl, ?_⟩
      rw [ptrE_some, add_def]
      refine st1_intro hC7.st (by show 0 + 7 < 8; omega) fun w8 hw8 hb8 => ?_
      have hf8 : Fr (· = dk.S) w7 w8 := by rw [hw8]; exact Fr.cell w7 _ _ _
      have hdS : dk.S ∈ dk.own := mem_S dk
      have hdl := hC6.lt _ hdS
      have hS8 : SysAt w8 d 1 σ := hS7.fr hf8 fun b hb e => by
        have h3 := hlt b hb
        have h4 := hown6 _ hdS
        have e : b = dk.S := e
        omega
      have hC8 := hC7.setLocks (w' := w8) (ls' := t) (locks' := σ.locks) (hrow.fr hf8 fun b hb e => by have := hnb b hb; have e : b = dk.S := e; omega) (hf8.mono fun i hi _ => .inr hi) (by rw [hb8]; rfl) (fun b hb => .inr fun hx => by have := hnb b hb; have := hC6.lt b hx; omega)
      have hp18 : Pu w1 w8 := (hp6.trans hp7).andNew hf8 fun i hi => by have := hown6 _ hdS; have hi : i = dk.S := hi; omega
      refine leave_c hS8 fun w9 hS9 hf9 hs9 => ?_
      have hC9 : SysAt w9 { dk with ls := t } 0 { τ with locks := σ.locks } := hC8.fr hf9 fun b hb e => by
        have e : b = d.S := e
        have h3 := hlt _ (mem_S d)
        have hb : b ∈ ({ dk with ls := t } : Lay).own := hb
        simp only [Lay.own, List.mem_cons, List.mem_append] at hb
        have : w1.heap.size <= b := by
          rcases hb with hb | hb | hb | hb | hb | hb | hb | hb
          · exact hb ▸ hown6 _ hdS
          · exact hb ▸ hown6 _ (mem_M dk)
          · exact hb ▸ hown6 _ (dk.mem_c (by omega))
          · exact hb ▸ hown6 _ (dk.mem_c (by omega))
          · exact hb ▸ hown6 _ (dk.mem_c (by omega))
          · exact hb ▸ hown6 _ (dk.mem_c (by omega))
          · have := hnb b hb; omega
          · exact hown6 b (by simp only [Lay.own, List.mem_cons, List.mem_append]; simp [hb])
        omega
      refine ⟨{ dk with ls := t }, _, rfl, ⟨hS9, ?_, fun b hb => .inl hb, rfl⟩, hC9, ⟨fun name => by rw [← hfg name, ← ht1], by show τ.files.length = _; rw [ht1]; exact hfn, by show (τ.files.map Prod.fst).Nodup; rw [ht1]; exact hfnd, ht3, rfl⟩, fun b hb => ?_⟩
      · refine ((hf1.trans (Fr.pu hp18 : Fr (· = d.S) w1 w8) fun i hi _ => hi).trans hf9 fun i hi _ => hi).mono fun i hi _ => ?_
        rw [show i = d.S from hi]; exact mem_S d
      · simp only [Lay.own, List.mem_cons, List.mem_append] at hb
        have : w1.heap.size <= b := by
          rcases hb with hb | hb | hb | hb | hb | hb | hb | hb
          · exact hb ▸ hown6 _ hdS
          · exact hb ▸ hown6 _ (mem_M dk)
          · exact hb ▸ hown6 _ (dk.mem_c (by omega))
          · exact hb ▸ hown6 _ (dk.mem_c (by omega))
          · exact hb ▸ hown6 _ (dk.mem_c (by omega))
          · exact hb ▸ hown6 _ (dk.mem_c (by omega))
          · have := hnb b hb; omega
          · exact hown6 b (by simp only [Lay.own, List.mem_cons, List.mem_append]; simp [hb])
        omega
  · refine .inr ⟨ekS p.1, evS p.2, w5, hr, ekS p.1, evS p.2, w5, hen, ?_⟩
    simp only [ekS, evS, dStr_mk, dSl_mk]
    have hS5 : SysAt w5 d 1 σ := hS.fr hf5 fun b hb e => by have := hlt b hb; have e : b = w2.heap.size := e; omega
    have hC5 := hC.fr hf5 fun b hb e => (hown b hb).2 e
    refine dwE_intro fun w6 hp6 _ => ?_
    have hS6 := hS5.pu hp6
    have hC6 := hC5.pu hp6
    have hit6 : IterAt w6 ekS evS w2.heap.size d.M d.fs (AL.del todo p.1) := hit5.fr (Fr.pu hp6 : Fr (fun _ => False) w5 w6) (fun h => h) (fun h => h)
    refine ⟨fun wx => wx.heap[dc.S]? = w6.heap[dc.S]?, rfl, ?_⟩
    rw [← hptr]
    refine ⟨some dc.M, fun wx hx => by rw [add_def, cell_blk (hx.trans hC6.st)]; rfl, ?_⟩
    have hnd : (d.fs.map Prod.fst).Nodup := h2.mp.nodup
    have hin : (AL.get todo p.1).isSome := by
      rw [AL.get_of_mem hit.nodup (k := p.1) (v := p.2) hpm]; rfl
    have hget : AL.get d.fs p.1 = some p.2 := AL.get_of_mem hnd (k := p.1) (v := p.2) (hseen.sub p hpm)
    obtain ⟨s, x, g1, g2, g3, g4⟩ := (hS6.fl.get p.1).resolve_left fun h => by rw [hget] at h; cases h.1
    rw [hget] at g1; cases g1
    refine Calls.mono (clone_c g3 (hsm _ _ g2)) ?_
    rintro e w7 ⟨t, rfl, hrow, hp7, hnb⟩
    have hS7 := hS6.pu hp7
    have hC7 := hC6.pu hp7
    have hz6 := hp6.size
    refine ⟨t, rfl, hp7.block _ (hC6.lt _ (mem_S dc)), ?_⟩
    obtain ⟨w8, hr8, hm8, hf8, hs8⟩ := hC7.mp.upd keysS u40 p.1 t
    have hdM : dc.M ∈ dc.own := mem_M dc
    have hMl := hC6.lt _ hdM
    have hMn := (hown _ hdM)
    have htn : (blkOf t).Nodup := by unfold blkOf; split <;> simp
    have hC8 := hC7.setFile (name := p.1) (s' := t) (b' := x) hm8 hf8 hrow (fun b hb hx => by have := hnb b hb; have := hC6.lt b hx; omega) htn
    have hS8 : SysAt w8 d 1 σ := hS7.fr hf8 fun b hb e => by have := hlt b hb; have e : b = dc.M := e; omega
    have hp18 : Pu w1 w8 := (((hp4.andNew hf5 fun i hi => by have hi : i = w2.heap.size := hi; omega).trans hp6).trans hp7).andNew hf8 fun i hi => by have hi : i = dc.M := hi; omega
    have hit8 : IterAt w8 ekS evS w2.heap.size d.M d.fs (AL.del todo p.1) := (hit6.fr (Fr.pu hp7 : Fr (fun _ => False) w6 w7) (fun h => h) (fun h => h)).fr hf8 (fun e => hMn.2 (show _ = _ from e).symm) (fun e => by have := hMn.1; have e : d.M = dc.M := e; have := hlt _ (mem_M d); omega)
    have hnone : AL.get fb p.1 = none := by rw [hfg, if_pos hin]
    have hlen := AL.length_del hpm hit.nodup
    refine ⟨w8, hr8, hJ _ _ _ (by omega) ⟨AL.del todo p.1, _, AL.put fb p.1 x, rfl, hit8, hS8, hC8, hptr, fun b hb => ?_, fun name => ?_, ?_, AL.nodup_put hfnd _ _, hseen.next hnd hpm trivial, hp18⟩⟩
    · rcases Lay.own_put b hb with h3 | h3
      · exact hown b h3
      · have := hnb b h3
        constructor <;> omega
    · rw [AL.get_put, AL.get_del hit.nodup, hfg]
      by_cases e : p.1 = name
      · rw [if_pos e, if_pos e, ← e, g2]; rfl
      · rw [if_neg e, if_neg e]
    · rw [AL.length_put_new hnone]; omega
end Go.Proofs.YtnigfiljenfgjaaGreat

/- The disk: two systems held against each other: the program's. No condition but those stated. -/
set_option maxRecDepth 100000
set_option linter.unusedVariables false
set_option linter.unusedSimpArgs false
namespace Go.Proofs.YtnigfiljenfgjaaGreat
open Go.Sh Go.RowKit
def RelO {α β : Type} (E : α -> β -> Prop) : Option α -> Option β -> Prop
  | some a, some b => E a b
  | none, none => True
  | _, _ => False
theorem eqM_iff {κ α β : Type} [DecidableEq κ] {E : α -> β -> Prop} : ∀ {l : List (κ × α)} {l' : List (κ × β)}, (l.map Prod.fst).Nodup -> (l'.map Prod.fst).Nodup -> (EqM E l l' ↔ ∀ k, RelO E (AL.get l k) (AL.get l' k))
  | [], l', hn, hn' => by
    constructor
    · rintro ⟨h, _⟩ k
      rw [List.eq_nil_of_length_eq_zero h.symm]; trivial
    · intro h
      cases l' with
      | nil => exact ⟨rfl, fun q hq => by cases hq⟩
      | cons p l' =>
        have := h p.1
        obtain ⟨a, b⟩ := p
        simp [AL.get, RelO] at this
  | (k0, v0) :: t, l', hn, hn' => by
    simp only [List.map_cons, List.nodup_cons] at hn
    have hgt : ∀ k, AL.get ((k0, v0) :: t) k = if k0 = k then some v0 else AL.get t k := fun k => rfl
    have main : ∀ v', AL.get l' k0 = some v' -> E v0 v' -> ((EqM E ((k0, v0) :: t) l' ↔ EqM E t (AL.del l' k0)) /\ ((∀ k, RelO E (AL.get ((k0, v0) :: t) k) (AL.get l' k)) ↔ ∀ k, RelO E (AL.get t k) (AL.get (AL.del l' k0) k))) := fun v' hg hE => by
      have hlen := AL.length_del (AL.get_mem hg) hn'
      simp only at hlen
      have hgd : ∀ k, AL.get (AL.del l' k0) k = if k0 = k then none else AL.get l' k := fun k => AL.get_del hn' k0 k
      have hnt : AL.get t k0 = none := AL.get_none.2 hn.1
      refine ⟨⟨fun h => ⟨by have := h.1; simp at this; omega, fun q hq => ?_⟩, fun h => ⟨by have := h.1; simp; omega, fun q hq => ?_⟩⟩, ⟨fun h k => ?_, fun h k => ?_⟩⟩
      · obtain ⟨v, h1, h2⟩ := h.2 q (List.mem_cons_of_mem _ hq)
        have hne : k0 ≠ q.1 := fun e => hn.1 (e ▸ List.mem_map_of_mem hq)
        exact ⟨v, by rw [hgd, if_neg hne]; exact h1, h2⟩
      · rcases List.mem_cons.1 hq with rfl | hq
        · exact ⟨v', hg, hE⟩
        · obtain ⟨v, h1, h2⟩ := h.2 q hq
          rw [hgd] at h1
          split at h1
          · cases h1
          · exact ⟨v, h1, h2⟩
      · have := h k
        rw [hgt] at this
        rw [hgd]
        by_cases e : k0 = k
        · rw [if_pos e, ← e, hnt]; trivial
        · rw [if_neg e] at this ⊢; exact this
      · have := h k
        rw [hgd] at this
        rw [hgt]
        by_cases e : k0 = k
        · rw [if_pos e, ← e, hg]; exact hE
        · rw [if_neg e] at this ⊢; exact this
    cases hg : AL.get l' k0 with
    | none =>
      constructor
      · intro h
        obtain ⟨v, h1, _⟩ := h.2 (k0, v0) (by simp)
        rw [hg] at h1; cases h1
      · intro h
        have := h k0
        rw [hgt, if_pos rfl, hg] at this
        exact this.elim
    | some v' =>
      by_cases hE : E v0 v'
      · obtain ⟨m1, m2⟩ := main v' hg hE
        rw [m1, m2]
        exact eqM_iff hn.2 (AL.nodup_del hn' _)
      · constructor
        · intro h
          obtain ⟨v, h1, h2⟩ := h.2 (k0, v0) (by simp)
          rw [hg] at h1; cases h1
          exact absurd h2 hE
        · intro h
          have := h k0
          rw [hgt, if_pos rfl, hg] at this
          exact absurd this hE
theorem relO_eq {α : Type} {a b : Option α} : RelO (fun x y : α => x = y) a b ↔ a = b := by
  cases a <;> cases b <;> simp [RelO]
def LkEq (n1 n2 : List ByteArray) (l1 l2 : List Lock) : Prop := ∃ q, SrtQ q /\ q.Perm (l1.map (rowQ n1)) /\ q.Perm (l2.map (rowQ n2))
def SameS (σ τ : Sys) : Prop := (∀ u, u < 4 -> ∀ p, RelO PgEq (AL.get (σ.caches u) p) (AL.get (τ.caches u) p)) /\ (∀ name, AL.get σ.files name = AL.get τ.files name) /\ LkEq (srt (σ.files.map Prod.fst)) (srt (τ.files.map Prod.fst)) σ.locks τ.locks
theorem info67 : (Tryz.prog.info? 67).map (fun j => decide (j.size = 0)) = some false := by kernel_rfl
theorem eqS_two {w : World} {d c : Lay} {σ τ : Sys} {m n : Int} (hA : SysAt w d m σ) (hB : SysAt w c n τ) (hne : d.S ≠ c.S) (x y : Operand) : (eqS .eql 25 x y (.pointer (some ⟨d.S, 0, none⟩)) (.pointer (some ⟨c.S, 0, none⟩))).run Tryz.prog w = .ok (.bool false) w := by
  obtain ⟨j, hj, hsz⟩ := Option.map_eq_some_iff.1 info67
  have h := run_eql_ptr_other (P := Tryz.prog) (a := ⟨d.S, 0, none⟩) (b := ⟨c.S, 0, none⟩) w u23 hj (of_decide_eq_false hsz) (fun e => hne (congrArg Addr.block e)) hA.st hB.st
  unfold eqS
  have hg : (eqGuard .eql 25 x y (.pointer (some ⟨d.S, 0, none⟩)) (.pointer (some ⟨c.S, 0, none⟩))).run Tryz.prog w = .ok () w := rfl
  simp only [Sem.run_bind, hg, Result.andThen_ok, h]
set_option maxHeartbeats 2000000 in
theorem same_c {w : World} {d c : Lay} {σ τ : Sys} (hA : SysAt w d 0 σ) (hB : SysAt w c 0 τ) (hdis : ∀ b ∈ d.own, b ∉ c.own) (hs1 : Small σ) (hs2 : Small τ) (hl1 : σ.locks.length <= 1000) (hl2 : τ.locks.length <= 1000) (hf1 : σ.files.length <= 1000) (hf2 : τ.files.length <= 1000)
    (hn1 : (σ.files.map Prod.fst).Nodup) (hn2 : (τ.files.map Prod.fst).Nodup) (hc1 : ∀ u, u < 4 -> (σ.caches u).length <= 1000000) (hc2 : ∀ u, u < 4 -> (τ.caches u).length <= 1000000) :
    Calls Tryz.prog 19 #[d.ptr, c.ptr] w fun e w' => ∃ b : Bool, e = .returned (.bool b) /\ (b = true ↔ SameS σ τ) /\ SysAt w' d 0 σ /\ SysAt w' c 0 τ /\ Fr (fun b => b ∈ d.own ∨ b ∈ c.own) w w' := by
  have hne : d.S ≠ c.S := fun e => hdis _ (mem_S d) (e ▸ mem_S c)
  have hdis' : ∀ b ∈ c.own, b ∉ d.own := fun b hb hd => hdis b hd hb
  have hltA := hA.lt
  have hltB := hB.lt
  refine F19_calls _ _ w _ ⟨false, w, eqS_ptr_nil u23 _ _ _ w, Br.f rfl ⟨false, w, eqS_ptr_nil u23 _ _ _ w, Br.f rfl ⟨false, w, eqS_two hA hB hne _ _, Br.f rfl ?_⟩⟩⟩
  refine Calls.mono (copy_c hA hs1 (by omega)) ?_
  rintro e w1 ⟨dx, σx, rfl, L1, X1, E1, nx⟩
  have hz1 := L1.fr.size
  have B1 : SysAt w1 c 0 τ := hB.fr L1.fr hdis'
  refine ⟨_, rfl, Calls.mono (copy_c B1 hs2 (by omega)) ?_⟩
  rintro e w2 ⟨dy, τy, rfl, L2, Y2, E2, ny⟩
  have hz2 := L2.fr.size
  have A2 : SysAt w2 d 0 σ := L1.sys.fr L2.fr fun b hb => hdis b hb
  have X2 : SysAt w2 dx 0 σx := X1.fr L2.fr fun b hb hx => by have := nx b hb; have := hltB b hx; omega
  have F2 : Fr (fun b => b ∈ d.own ∨ b ∈ c.own) w w2 := (L1.fr.mono fun i hi _ => .inl hi).trans L2.fr fun i hi _ => .inr hi
  have fin : ∀ {w' : World} {b : Bool}, Pu w2 w' -> (b = true ↔ SameS σ τ) -> ∃ c' : Bool, Ending.returned (.bool b) = .returned (.bool c') /\ (c' = true ↔ SameS σ τ) /\ SysAt w' d 0 σ /\ SysAt w' c 0 τ /\ Fr (fun b => b ∈ d.own ∨ b ∈ c.own) w w' := fun {w' b} hp hb => ⟨b, rfl, hb, A2.pu hp, L2.sys.pu hp, F2.trans (Fr.pu hp : Fr (fun b => b ∈ d.own ∨ b ∈ c.own) w2 w') fun i hi _ => hi⟩
  refine ⟨_, rfl, ?_⟩
  refine loopUp 4 (fun k t w' => t = (k : Int) /\ Pu w2 w' /\ ∀ u, u < k -> ∀ p, RelO PgEq (AL.get (σ.caches u) p) (AL.get (τ.caches u) p)) ⟨rfl, Pu.refl _, fun u hu => absurd hu (by omega)⟩ ?_
  rintro k J _ w3 hk ⟨rfl, hp3, hall⟩ hJ
  refine Br.of (fun d1 => ?_) (fun d1 => ?_)
  · have hk4 : k < 4 := by have := dtrue d1; omega
    refine dwE_intro fun w4 hp4 _ => ?_
    have X4 := X2.pu (hp3.trans hp4)
    have Y4 := Y2.pu (hp3.trans hp4)
    refine ⟨by omega, by omega, some (dx.c k), X4.cellC hk4, by omega, by omega, some (dy.c k), Y4.cellC hk4, ?_⟩
    refine Calls.mono (mapsEqual_c (X4.ca k hk4) (Y4.ca k hk4) (by rw [E1.ca k hk4]; exact hc1 k hk4) (by rw [E2.ca k hk4]; exact hc2 k hk4)) ?_
    rintro e w5 ⟨b, rfl, hb, hp5⟩
    have hb2 : b = true ↔ ∀ p, RelO PgEq (AL.get (σ.caches k) p) (AL.get (τ.caches k) p) := by
      rw [hb, eqM_iff (X4.ca k hk4).nodup (Y4.ca k hk4).nodup, E1.ca k hk4, E2.ca k hk4]
    refine ⟨b, rfl, Br.of (fun d2 => ?_) (fun d2 => ?_)⟩
    · have d2 : b = false := by simpa using d2
      refine fin ((hp3.trans hp4).trans hp5) ⟨fun h => (by cases h), fun h => ?_⟩
      have := hb2.2 (h.1 k hk4)
      rw [d2] at this; cases this
    · have d2 : b = true := by simpa using d2
      rw [wrap_in (by omega) (by omega)]
      refine hJ _ _ hk4 ⟨rfl, (hp3.trans hp4).trans hp5, fun u hu p => ?_⟩
      by_cases e : u = k
      · subst e; exact hb2.1 d2 p
      · exact hall u (by omega) p
  · have hk4 : k = 4 := by have := dfalse d1; omega
    subst hk4
    refine dwE_intro fun w4 hp4 _ => ?_
    have X4 := X2.pu (hp3.trans hp4)
    have Y4 := Y2.pu (hp3.trans hp4)
    have hxl := X4.fl.length
    have hyl := Y4.fl.length
    refine ⟨some dx.M, X4.cellM, some dy.M, Y4.cellM, ?_⟩
    refine Calls.mono (mapsEqualF_c X4.mp Y4.mp X4.fl Y4.fl (by rw [hxl, E1.fn]; omega) (by rw [hyl, E2.fn]; omega) (fun q hq => by
      have := AL.get_of_mem E1.nd (k := q.1) (v := q.2) hq
      rw [E1.fg] at this
      exact hs1 _ _ this)) ?_
    rintro e w5 ⟨b, rfl, hb, hp5⟩
    have hb2 : b = true ↔ ∀ name, AL.get σ.files name = AL.get τ.files name := by
      rw [hb, eqM_iff E1.nd E2.nd]
      constructor
      · intro h name
        have := relO_eq.1 (h name)
        rw [E1.fg, E2.fg] at this; exact this
      · intro h name
        rw [relO_eq, E1.fg, E2.fg]; exact h name
    have hp25 := (hp3.trans hp4).trans hp5
    refine ⟨b, rfl, Br.of (fun d2 => ?_) (fun d2 => ?_)⟩
    · have A5 := A2.pu hp25
      have B5 := L2.sys.pu hp25
      refine Calls.mono (locks_c A5 hf1 hl1) ?_
      rintro e w6 ⟨l, q, rfl, L6, hrow, hsq, hpq, hnb⟩
      have B6 : SysAt w6 c 0 τ := B5.fr L6.fr hdis'
      have hz5 := hp25.size
      refine ⟨l, rfl, Calls.mono (locks_c B6 hf2 hl2) ?_⟩
      rintro e w7 ⟨l', q', rfl, L7, hrow', hsq', hpq', hnb'⟩
      have hrow7 := hrow.fr L7.fr fun b hb hx => by have := hnb b hb; have := hltB b hx; omega
      have hql : q.length <= 1000000 := by rw [hpq.length_eq, List.length_map]; omega
      refine ⟨l', rfl, Calls.mono (equalQ_c hrow7 hrow' hql) ?_⟩
      rintro e w8 ⟨rfl, hp8⟩
      refine ⟨_, rfl, decide (q = q'), rfl, ?_, (L6.sys.fr L7.fr fun b hb => hdis b hb).pu hp8, L7.sys.pu hp8, ?_⟩
      · rw [decide_eq_true_iff]
        constructor
        · intro h
          subst h
          exact ⟨fun u hu p => hall u hu p, hb2.1 d2, q, hsq, hpq, hpq'⟩
        · rintro ⟨_, _, q0, a1, a2, a3⟩
          rw [srtQ_uniq hsq a1 (hpq.trans a2.symm), srtQ_uniq hsq' a1 (hpq'.trans a3.symm)]
      · exact (((F2.trans (Fr.pu hp25 : Fr (fun b => b ∈ d.own ∨ b ∈ c.own) w2 w5) fun i hi _ => hi).trans L6.fr fun i hi _ => .inl hi).trans L7.fr fun i hi _ => .inr hi).trans (Fr.pu hp8 : Fr (fun b => b ∈ d.own ∨ b ∈ c.own) w7 w8) fun i hi _ => hi
    · refine fin hp25 ⟨fun h => (by cases h), fun h => ?_⟩
      have := hb2.2 h.2.1
      rw [d2] at this; cases this
end Go.Proofs.YtnigfiljenfgjaaGreat

/- The disk's reference: a system is copied. No condition but those stated. -/
set_option maxRecDepth 100000
set_option linter.unusedVariables false
set_option linter.unusedSimpArgs false
namespace Go.Proofs.YtnigfiljenfgjaaGreat
open Go.Sh Go.RowKit
variable {w w' : World} {r : RLay} {ρ : RSys}
theorem fcells_other {fb : ByteArray -> SV} {name : ByteArray} {s : SV} : ∀ {l : List (ByteArray × List UInt8)}, (∀ f ∈ l, f.1 ≠ name) -> l.flatMap (fcells (putS fb name s)) = l.flatMap (fcells fb)
  | [], _ => rfl
  | f :: l, h => by
    rw [List.flatMap_cons, List.flatMap_cons, fcells_other fun g hg => h g (by simp [hg]), fcells_same (h f (by simp))]
structure REq (ρ τ : RSys) : Prop where
  fl : τ.files = ρ.files
  ca : ∀ u, u < 4 -> ∀ name, τ.cOf u name = ρ.cOf u name
  lk : τ.held = ρ.held
set_option maxHeartbeats 2000000 in
theorem rCopy_c (h : RSysAt w r ρ) (hG : RGood ρ) (hfc : ρ.files.length <= 1000) (hlk : ρ.held.length <= 100000) (hnc : ∀ u, u < 4 -> ∀ name, AL.get ρ.files name = none -> ρ.cOf u name = []) :
    Calls Tryz.prog 22 #[r.ptr] w fun e w' => ∃ (rc : RLay) (τ : RSys), e = .returned rc.ptr /\ RSysAt w' rc τ /\ REq ρ τ /\ Pu w w' /\ ∀ b, rc.o b ≠ none -> w.heap.size <= b := by
  refine F22_calls _ w _ (Calls.mono (rNew_c w) ?_)
  rintro e w1 ⟨rn, rfl, hN, hp1, hnb⟩
  have hz1 := hp1.size
  refine ⟨_, rfl, ?_⟩
  refine loopUp ρ.files.length (fun k t w' => t = (k : Int) /\ ∃ (rc : RLay) (τ : RSys), RSysAt w' rc τ /\ rc.S = rn.S /\ (∀ b, rc.o b ≠ none -> w.heap.size <= b) /\ τ.files = ρ.files.take k /\ τ.held = [] /\ (∀ u, u < 4 -> ∀ name, τ.cOf u name = if (AL.get (ρ.files.take k) name).isSome then ρ.cOf u name else []) /\ Pu w w')
    ⟨rfl, rn, RSys.new, hN, rfl, hnb, rfl, rfl, fun u hu name => rfl, hp1⟩ ?_
  rintro k J _ w2 hk ⟨rfl, rc, τ, hC, hptr, hown, t1, t2, t3, hp2⟩ hJ
  have h2 := h.pu hp2
  have hz2 := hp2.size
  have hfl := h2.fl.len (fcells_len r.fb) (by omega)
  rw [← hptr]
  refine ⟨r.fs, h2.cell0, Br.of (fun d1 => ?_) (fun d1 => ?_)⟩
  · have hkn : k < ρ.files.length := by have := dtrue d1; omega
    obtain ⟨⟨name, b⟩, hf⟩ := at_k hkn
    obtain ⟨a, ha, hi, c0⟩ := h2.fl.elem (fcells_len r.fb) hf (o := 0) (v := .string name) rfl
    obtain ⟨a', ha', _, c1, hrow, hbl⟩ := h2.file hf
    rw [ha] at ha'; cases ha'
    have hgb : AL.get ρ.files name = some b := AL.get_of_mem h.fnd (List.mem_of_getElem? hf)
    have hsz := hG.fsz name b hgb
    refine ⟨r.fs, h2.cell0, a, ha, by omega, by omega, name, by rw [Int.toNat_natCast]; exact c0, r.fb name, by rw [Int.toNat_natCast]; exact c1, ?_⟩
    refine alE_intro fun w3 hw3 => ?_
    have hp3 : Pu w2 w3 := by rw [hw3]; exact Pu.alloc w2 _
    have hb3 : w3.heap[w2.heap.size]? = some (.cells #[.string (⟨#[]⟩ : ByteArray), .slice none 0 0] 80) := by rw [hw3]; exact alloc_new w2 _
    refine stA_fill hb3 (by kernel_rfl) rfl rfl fun w4 hb4 hf4 hs4 => ?_
    have hp24 : Pu w2 w4 := hp3.andNew hf4 fun i hi => by omega
    refine dwE_intro fun w5 hp5 _ => ?_
    have hp25 := hp24.trans hp5
    have h5 := h2.pu hp25
    have hC5 := hC.pu hp25
    have hb5 := hp5.blk hb4
    have hz5 := hp25.size
    have hz3 : w2.heap.size < w5.heap.size := blk_lt hb5
    have hrow5 := hrow.pu hp25
    refine ⟨fun wx => wx.heap[rc.S]? = w5.heap[rc.S]? /\ wx.heap[w2.heap.size]? = w5.heap[w2.heap.size]?, ⟨rfl, rfl⟩, ?_⟩
    have hSo : rc.o rc.S = some .S := hC.oS
    have hSlt := hC5.lt rc.S (by rw [hSo]; simp)
    refine ⟨rc.fs, fun wx hx => by rw [cell_blk (hx.1.trans hC5.st)]; rfl, name, fun wx hx => by rw [cell_blk (hx.2.trans hb5)]; rfl, r.fb name, fun wx hx => by rw [add_def, cell_blk (hx.2.trans hb5)]; rfl, ?_⟩
    obtain ⟨sn, w6, hra, hrow6, hf6, hblk6, _⟩ := row_append_any (P := Tryz.prog) (ty := 36) u29 info5 rfl (by omega) (RowAt.nil w5 5 1) (A := (r.fb name).a) (m := (r.fb name).len) (c := (r.fb name).cap) (news := b.map u8V) (by rw [List.length_map, hbl]; omega) (fun j x hx => by
      obtain ⟨a', ha', hc', _⟩ := hrow5.cell hx
      exact ⟨a', ha', hc'⟩) (fun x hx => by obtain ⟨y, _, rfl⟩ := List.mem_map.1 hx; rfl) (by rw [hbl]; show (0 + b.length) * (1 + 1) <= _; omega)
    rw [List.nil_append] at hrow6
    have hp6 : Pu w5 w6 := hf6.toPu fun i hi => by simp [blkOf] at hi
    have hsn : ∀ y ∈ blkOf sn, w5.heap.size <= y := fun y hy => by
      rcases hblk6 y hy with h | h
      · simp [blkOf] at h
      · exact h
    have hC6 := hC5.pu hp6
    refine ⟨sn, w6, hra, ⟨hp6.block _ hSlt, hp6.block _ hz3⟩, ?_⟩
    refine alE_intro fun w7 hw7 => ?_
    have hp7 : Pu w6 w7 := by rw [hw7]; exact Pu.alloc w6 _
    have hb7 : w7.heap[w6.heap.size]? = some (.cells #[.string name, .slice sn.a sn.len sn.cap] 80) := by rw [hw7]; exact alloc_new w6 _
    have hC7 := hC6.pu hp7
    have hz6 := hp6.size
    have hz7 := hp7.size
    refine ⟨⟨(hp7.block _ (by omega)).trans (hp6.block _ hSlt), (hp7.block _ (by omega)).trans (hp6.block _ hz3)⟩, ?_⟩
    have hcl := hC7.fl.len (fcells_len rc.fb) (by omega)
    have htl : τ.files.length <= 1000 := by rw [t1, List.length_take]; omega
    obtain ⟨s', w8, hra8, hrow8, hf8, hblk8, _⟩ := row_pushF hC7.fl (by omega) hb7
    refine ⟨s', w8, hra8, ?_⟩
    have hSn : rc.S ∉ blkOf rc.fs := fun hx => by have := hC.ofs _ hx; rw [hSo] at this; cases this
    have hst8 := hf8.blk hC7.st hSn
    rw [ptrE_some]
    refine st1_intro hst8 (by show 0 < 6; omega) fun w9 hw9 hb9 => ?_
    have hf9 : Fr (· = rc.S) w8 w9 := by rw [hw9]; exact Fr.cell w8 _ _ _
    have htk : ρ.files.take (k + 1) = ρ.files.take k ++ [(name, b)] := by rw [List.take_add_one, hf]; rfl
    have hnew : ∀ f ∈ ρ.files.take k, f.1 ≠ name := fun f hfm e => by
      have hnd := h.fnd
      rw [← List.take_append_drop (k + 1) ρ.files, htk, List.append_assoc, List.map_append] at hnd
      have := (List.nodup_append.1 hnd).2.2 f.1 (List.mem_map_of_mem hfm) name (by simp)
      exact this e
    have hs'n : ∀ y ∈ blkOf s', rc.o y = some .fs ∨ w7.heap.size <= y := fun y hy => by
      rcases hblk8 y hy with h3 | h3
      · exact .inl (hC.ofs y h3)
      · exact .inr h3
    have hsn7 : ∀ y ∈ blkOf sn, y < w6.heap.size := fun y hy => hrow6.lt y hy
    have L9 := RLeft.putFs (w := w5) (w' := w9) (B := fun y => w5.heap.size <= y ∨ y ∈ blkOf rc.fs ∨ y = rc.S) hC5 (s := s') (sn := sn) (name := name) (l := τ.files ++ [(name, b)]) (by simpa using hb9) (by
        rw [List.flatMap_append, List.flatMap_singleton, fcells_other (by rw [t1]; exact hnew)]
        have e1 : fcells (putS rc.fb name sn) (name, b) = [.string name, .slice sn.a sn.len sn.cap] := by simp [fcells, putS]
        rw [e1]
        refine hrow8.fr hf9 fun y hy hye => ?_
        have hye : y = rc.S := hye
        rcases hs'n y hy with h3 | h3
        · rw [hye, hSo] at h3; cases h3
        · omega) (by
        rw [t1, List.map_append]
        refine List.nodup_append.2 ⟨h.fnd.sublist ((List.take_sublist k ρ.files).map _), by simp, fun x hx y hy e => ?_⟩
        simp only [List.map_cons, List.map_nil, List.mem_singleton] at hy
        obtain ⟨f, hf1, hf2⟩ := List.mem_map.1 hx
        exact hnew f hf1 (by rw [hf2, e, hy])) (fun f hf1 hn => by
        rcases List.mem_append.1 hf1 with h3 | h3
        · exact h3
        · simp only [List.mem_singleton] at h3; rw [h3] at hn; exact absurd rfl hn) (fun f hf1 hn => by
        rcases List.mem_append.1 hf1 with h3 | h3
        · rw [t1] at h3; exact absurd hn (hnew f h3)
        · simp only [List.mem_singleton] at h3
          rw [h3]
          exact ((hrow6.pu hp7).fr hf8 fun y hy hx => by have := hsn y hy; have := hC5.lt y (by rw [hC5.ofs y hx]; simp); omega).fr hf9 fun y hy hx => by have := hsn y hy; have hx : y = rc.S := hx; omega)
        ((((Fr.pu (hp6.trans hp7) : Fr (fun y => w5.heap.size <= y ∨ y ∈ blkOf rc.fs ∨ y = rc.S) w5 w7).trans hf8 fun y hy _ => .inr (.inl hy)).trans hf9 fun y hy _ => .inr (.inr hy))) (fun y hlt hy => by
        rcases hy with hy | hy | hy
        · omega
        · exact .inr (hC5.ofs y hy)
        · exact .inl (by rw [hy]; exact hSo)) (fun y hy => (hs'n y hy).imp id fun h3 => by omega) (fun y hy => by
        have h3 := hsn y hy
        have h4 := hsn7 y hy
        refine ⟨h3, fun hx => ?_, by have := hf8.size; have := hf9.size; omega⟩
        rcases hs'n y hx with h5 | h5
        · have := hC5.lt y (by rw [h5]; simp); omega
        · omega)
    have hp9 : Pu w w9 := (hp2.trans hp25).andNew L9.fr hown
    obtain ⟨r9, hr9⟩ : ∃ r9, r9 = rc.putFs s' name sn w5.heap.size := ⟨_, rfl⟩
    rw [← hr9] at L9
    have hptr9 : r9.S = rc.S := L9.ptr
    have hown9 : ∀ b, r9.o b ≠ none -> w.heap.size <= b := fun y hy => (L9.own y hy).elim (hown y) fun h3 => by omega
    have hno : rc.o w2.heap.size = none := by
      cases ho : rc.o w2.heap.size with
      | none => rfl
      | some κ => have := hC.lt w2.heap.size (by rw [ho]; simp); omega
    have hno9 : r9.o w2.heap.size = none := by
      cases ho : r9.o w2.heap.size with
      | none => rfl
      | some κ =>
        rcases L9.own w2.heap.size (by rw [ho]; simp) with h3 | h3
        · exact absurd hno h3
        · omega
    have hb9' := L9.fr.blk hb5 (by show ¬ rc.o w2.heap.size ≠ none; simp [hno])
    -- the stations
    refine loopUp 4 (fun j t w' => t = (j : Int) /\ ∃ (rd : RLay) (υ : RSys), RSysAt w' rd υ /\ rd.S = rc.S /\ (∀ b, rd.o b ≠ none -> w.heap.size <= b) /\ rd.o w2.heap.size = none /\ w'.heap[w2.heap.size]? = some (.cells #[.string name, .slice (r.fb name).a (r.fb name).len (r.fb name).cap] 80) /\ υ.files = ρ.files.take (k + 1) /\ υ.held = [] /\
        (∀ u, u < 4 -> ∀ x, υ.cOf u x = if (AL.get (ρ.files.take k) x).isSome ∨ (x = name /\ u < j) then ρ.cOf u x else []) /\ Pu w w')
      ⟨rfl, r9, _, L9.sys, hptr9, hown9, hno9, hb9', by show τ.files ++ _ = _; rw [t1, htk], t2, fun u hu x => by
        show τ.cOf u x = _
        rw [t3 u hu x]
        simp, hp9⟩ ?_
    rintro j J2 _ w10 hj ⟨rfl, rd, υ, hD, hptrd, hownd, hnod, hbd, u1, u2, u3, hp10⟩ hJ2
    have h10 := h.pu hp10
    refine Br.of (fun d2 => ?_) (fun d2 => ?_)
    · have hj4 : j < 4 := by have := dtrue d2; omega
      refine dwE_intro fun w11 hp11 _ => ?_
      have h11 := h10.pu hp11
      have hD11 := hD.pu hp11
      have hb11 := hp11.blk hbd
      obtain ⟨s, hl, hrw, _, _⟩ := h11.cache hj4 name
      have hlen := hrw.len B3.len (by omega)
      have hcin := hG.cin j hj4 name b hgb
      refine ⟨by omega, by omega, some (r.c j), h11.cellC hj4, name, by rw [cell_blk hb11]; rfl, s, hl, Br.of (fun d3 => ?_) (fun d3 => ?_)⟩
      · refine dwE_intro fun w12 hp12 _ => ?_
        have hD12 := hD11.pu hp12
        have hb12 := hp12.blk hb11
        have hrw12 := hrw.pu hp12
        refine ⟨fun wx => wx.heap[rd.S]? = w12.heap[rd.S]? /\ wx.heap[w2.heap.size]? = w12.heap[w2.heap.size]?, ⟨rfl, rfl⟩, ?_⟩
        rw [← hptrd]
        refine ⟨by omega, by omega, some (rd.c j), fun wx hx => ?_, name, fun wx hx => by rw [cell_blk (hx.2.trans hb12)]; rfl, ?_⟩
        · rw [add_def, add_def, cell_blk (hx.1.trans hD12.st)]
          rcases (by omega : j = 0 ∨ j = 1 ∨ j = 2 ∨ j = 3) with rfl | rfl | rfl | rfl <;> rfl
        obtain ⟨q, w13, hra13, hrow13, hf13, hblk13, _⟩ := row_append_any (P := Tryz.prog) (ty := 114) u114 info116 rfl (by omega) (RowAt.nil w12 116 3) (A := s.a) (m := s.len) (c := s.cap) (news := (ρ.cOf j name).flatMap B3.cells) (by rw [flatMap_len B3.len, hlen]) (fun i x hx => by
          obtain ⟨a', ha', hc', _⟩ := hrw12.cell hx
          exact ⟨a', ha', hc'⟩) (fun x hx => by
            obtain ⟨y, _, hy⟩ := List.mem_flatMap.1 hx
            simp [B3.cells, u8V] at hy
            rcases hy with rfl | rfl | rfl <;> rfl) (by rw [hlen]; show (0 + (ρ.cOf j name).length) * (3 + 1) <= _; omega)
        rw [List.nil_append] at hrow13
        have hp13 : Pu w12 w13 := hf13.toPu fun i hi => by simp [blkOf] at hi
        have hqn : ∀ y ∈ blkOf q, w12.heap.size <= y := fun y hy => by
          rcases hblk13 y hy with h3 | h3
          · simp [blkOf] at h3
          · exact h3
        have hdl := hD12.lt rd.S (by rw [hD12.oS]; simp)
        refine ⟨q, w13, hra13, ⟨hp13.block _ hdl, hp13.block _ (blk_lt hb12)⟩, ?_⟩
        have hD13 := hD12.pu hp13
        obtain ⟨w14, hr14, hm14, hf14, hs14⟩ := (hD13.mp j hj4).upd keysS u69 name q
        have hcl := hD13.om j hj4
        have L14 := RLeft.putC (w := w12) (w' := w14) (B := fun y => w12.heap.size <= y ∨ y = rd.c j) hD12 hj4 (name := name) (s := q) (l := ρ.cOf j name) hm14 (hrow13.fr hf14 fun y hy e => by
            have := hqn y hy
            have e : y = rd.c j := e
            have := hD12.lt (rd.c j) (by rw [hcl]; simp)
            omega) ((Fr.pu hp13 : Fr (fun y => w12.heap.size <= y ∨ y = rd.c j) w12 w13).trans hf14 fun y hy _ => .inr hy) (fun y hlt hy => .inl (by
            rcases hy with hy | hy
            · omega
            · rw [hy]; exact hcl)) (fun y hy => .inr (hqn y hy))
        have hz10 := hp10.size
        have hz11 := hp11.size
        have hz12 := hp12.size
        refine ⟨w14, hr14, ?_⟩
        rw [wrap_in (by omega) (by omega)]
        refine hJ2 _ _ hj4 ⟨rfl, _, _, L14.sys, L14.ptr.trans hptrd, fun y hy => (L14.own y hy).elim (hownd y) fun h3 => by omega, ?_, L14.fr.blk hb12 (by show ¬ rd.o w2.heap.size ≠ none; simp [hnod]), u1, u2, fun v hv x => ?_, ((hp10.trans hp11).trans hp12).andNew L14.fr hownd⟩
        · have := blk_lt hb12
          show (rd.putC j name q w12.heap.size).o w2.heap.size = none
          simp only [RLay.putC]
          rw [if_neg (by omega)]; exact hnod
        · rw [cOf_setC, u3 v hv x]
          by_cases e : v = j /\ x = name
          · rw [if_pos e, if_pos (.inr ⟨e.2, by omega⟩), e.1, e.2]
          · rw [if_neg e]
            by_cases c : (AL.get (ρ.files.take k) x).isSome ∨ (x = name /\ v < j)
            · rw [if_pos c, if_pos (c.imp id fun h3 => ⟨h3.1, by omega⟩)]
            · rw [if_neg c, if_neg]
              rintro (h3 | ⟨h3, h4⟩)
              · exact c (.inl h3)
              · exact c (.inr ⟨h3, by
                  have : v ≠ j := fun e2 => e ⟨e2, h3⟩
                  omega⟩)
      · have d3 := dfalse d3
        have hnil : ρ.cOf j name = [] := List.eq_nil_of_length_eq_zero (by omega)
        rw [wrap_in (by omega) (by omega)]
        refine hJ2 _ _ hj4 ⟨rfl, rd, υ, hD11, hptrd, hownd, hnod, hb11, u1, u2, fun v hv x => ?_, hp10.trans hp11⟩
        rw [u3 v hv x]
        by_cases c : (AL.get (ρ.files.take k) x).isSome ∨ (x = name /\ v < j)
        · rw [if_pos c, if_pos (c.imp id fun h3 => ⟨h3.1, by omega⟩)]
        · rw [if_neg c]
          by_cases c2 : (AL.get (ρ.files.take k) x).isSome ∨ (x = name /\ v < j + 1)
          · rw [if_pos c2]
            rcases c2 with h3 | ⟨h3, h4⟩
            · exact absurd (.inl h3) c
            · have : v = j := by
                by_cases h5 : v < j
                · exact absurd (.inr ⟨h3, h5⟩) c
                · omega
              rw [this, h3, hnil]
          · rw [if_neg c2]
    · have hj4 : j = 4 := by have := dfalse d2; omega
      subst hj4
      show J (IntKind.i64.wrap ((k : Int) + 1)) w10
      rw [wrap_in (by omega) (by omega)]
      refine hJ _ _ hkn ⟨rfl, rd, υ, hD, hptrd.trans hptr, hownd, u1, u2, fun u hu x => ?_, hp10⟩
      rw [u3 u hu x, htk]
      have hgx : AL.get (ρ.files.take k ++ [(name, b)]) x = if (AL.get (ρ.files.take k) x).isSome then AL.get (ρ.files.take k) x else if name = x then some b else none := by
        generalize ρ.files.take k = l
        induction l with
        | nil => rfl
        | cons p l ih =>
          obtain ⟨y, z⟩ := p
          simp only [List.cons_append, AL.get]
          by_cases e : y = x
          · simp [e]
          · simp only [if_neg e]; exact ih
      by_cases c : (AL.get (ρ.files.take k) x).isSome
      · rw [if_pos (.inl c), hgx, if_pos c, if_pos c]
      · rw [hgx, if_neg c]
        by_cases e : name = x
        · rw [if_pos (.inr ⟨e.symm, hu⟩), if_pos e]; rfl
        · rw [if_neg e, if_neg]
          · rfl
          · rintro (h3 | ⟨h3, _⟩)
            · exact c h3
            · exact e h3.symm
  · have hkn : k = ρ.files.length := by have := dfalse d1; omega
    subst hkn
    rw [List.take_length] at t1 t3
    have hlk2 := h2.lk.len Lock.len (by omega)
    refine ⟨r.ls, h2.cell5, ?_⟩
    obtain ⟨q, w3, hra, hrow3, hf3, hblk3, _⟩ := row_append_any (P := Tryz.prog) (ty := 71) u71 info127 rfl (by omega) (RowAt.nil w2 127 4) (A := r.ls.a) (m := r.ls.len) (c := r.ls.cap) (news := ρ.held.flatMap Lock.cells) (by rw [flatMap_len Lock.len, hlk2]) (fun i x hx => by
      obtain ⟨a', ha', hc', _⟩ := h2.lk.cell hx
      exact ⟨a', ha', hc'⟩) (fun x hx => one_cells _ x hx) (by rw [hlk2]; show (0 + ρ.held.length) * (40 + 1) <= _; omega)
    rw [List.nil_append] at hrow3
    have hp3 : Pu w2 w3 := hf3.toPu fun i hi => by simp [blkOf] at hi
    have hqn : ∀ y ∈ blkOf q, w2.heap.size <= y := fun y hy => by
      rcases hblk3 y hy with h3 | h3
      · simp [blkOf] at h3
      · exact h3
    have hC3 := hC.pu hp3
    refine ⟨q, w3, hra, ?_⟩
    rw [ptrE_some, add_def]
    refine st1_intro hC3.st (by show 0 + 5 < 6; omega) fun w4 hw4 hb4 => ?_
    have hf4 : Fr (· = rc.S) w3 w4 := by rw [hw4]; exact Fr.cell w3 _ _ _
    have hdl := hC.lt rc.S (by rw [hC.oS]; simp)
    have L4 := RLeft.putL (w := w2) (w' := w4) (B := fun y => w2.heap.size <= y ∨ y = rc.S) hC (s := q) (l := ρ.held) (by simpa using hb4) (hrow3.fr hf4 fun y hy e => by have := hqn y hy; have e : y = rc.S := e; omega)
      ((Fr.pu hp3 : Fr (fun y => w2.heap.size <= y ∨ y = rc.S) w2 w3).trans hf4 fun y hy _ => .inr hy) (fun y hlt hy => .inl (by
        rcases hy with hy | hy
        · omega
        · rw [hy]; exact hC.oS)) (fun y hy => .inr (hqn y hy))
    have e9 : (⟨rc.S, 0, none⟩ : Addr) = ⟨(rc.putL q w2.heap.size).S, 0, none⟩ := rfl
    refine ⟨rc.putL q w2.heap.size, _, rfl, L4.sys, ⟨t1, fun u hu name => ?_, rfl⟩, hp2.andNew L4.fr hown, fun y hy => (L4.own y hy).elim (hown y) fun h3 => by omega⟩
    show τ.cOf u name = _
    rw [t3 u hu name]
    cases hg : AL.get ρ.files name with
    | none => rw [hnc u hu name hg]; rfl
    | some b => rfl
end Go.Proofs.YtnigfiljenfgjaaGreat
