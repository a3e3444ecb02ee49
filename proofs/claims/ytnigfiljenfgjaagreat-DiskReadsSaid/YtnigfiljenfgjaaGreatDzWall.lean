import Derived.Test.YtnigfiljenfgjaaGreatDzVall
import Derived.Test.YtnigfiljenfgjaaGreatDzFlaw
import Derived.Test.YtnigfiljenfgjaaGreatDzMid
import Derived.Test.YtnigfiljenfgjaaGreatShTwenty
/- The disk: the program's system and the reference's beside each other. -/
set_option maxRecDepth 100000
set_option linter.unusedVariables false
set_option linter.unusedSimpArgs false
namespace Go.Proofs.YtnigfiljenfgjaaGreat
open Go.Sh Go.RowKit

structure Base (w0 w : World) (d : Lay) (r : RLay) (σ : Sys) (ρ : RSys) : Prop where
  a : SysAt w d 0 σ
  b : RSysAt w r ρ
  dis : ∀ x ∈ d.own, r.o x = none
  pu : Pu w0 w
  newA : ∀ x ∈ d.own, w0.heap.size <= x
  newB : ∀ x, r.o x ≠ none -> w0.heap.size <= x
section
variable {w0 w w1 : World} {d d' : Lay} {r r' : RLay} {σ σ' : Sys} {ρ ρ' : RSys} {N : Nat}
theorem Base.op (B : Base w0 w d r σ ρ) (L : Left w w1 d d' σ') : Base w0 w1 d' r σ' ρ := by
  obtain ⟨p1, p2⟩ := L.next B.pu B.newA
  refine ⟨L.sys, B.b.fr L.fr fun x hx hd => hx (B.dis x hd), fun x hx => ?_, p1, p2, B.newB⟩
  rcases L.own x hx with h | h
  · exact B.dis x h
  · cases ho : r.o x with
    | none => rfl
    | some k => have := B.b.lt x (by rw [ho]; simp); omega
theorem Base.rop (B : Base w0 w d r σ ρ) (L : RLeft w w1 r r' ρ') : Base w0 w1 d r' σ ρ' := by
  have hz := B.pu.size
  refine ⟨B.a.fr L.fr fun x hx hn => hn (B.dis x hx), L.sys, fun x hx => ?_, ((Fr.pu B.pu : Fr (fun b => r.o b ≠ none) w0 w).trans L.fr fun b hb _ => hb).toPu fun b hb => B.newB b hb, B.newA, fun x hx => ?_⟩
  · cases ho : r'.o x with
    | none => rfl
    | some k =>
      rcases L.own x (by rw [ho]; simp) with h | h
      · exact absurd (B.dis x hx) h
      · have := B.a.lt x hx; omega
  · rcases L.own x hx with h | h
    · exact B.newB x h
    · omega
theorem Base.pure (B : Base w0 w d r σ ρ) (hp : Pu w w1) : Base w0 w1 d r σ ρ := ⟨B.a.pu hp, B.b.pu hp, B.dis, B.pu.trans hp, B.newA, B.newB⟩
theorem Base.cn (B : Base w0 w d r σ ρ) : ∀ u, u < 4 -> ((σ.caches u).map Prod.fst).Nodup := fun u hu => (B.a.ca u hu).nodup
theorem Base.rcn (B : Base w0 w d r σ ρ) : ∀ u, u < 4 -> ((ρ.caches u).map Prod.fst).Nodup := fun u hu => B.b.cnd hu
theorem Ok.lo (O : Ok N σ ρ) (hN : N <= 400) : LocksOk σ := ⟨fun l hl => (O.locks l (by rw [← O.sim.lk]; exact hl)).1, by rw [O.sim.lk]; have := O.held; omega⟩
def Pst (w0 : World) (N : Nat) (w : World) (d : Lay) (r : RLay) : Prop := ∃ d' r' σ' ρ', Base w0 w d' r' σ' ρ' /\ Ok (N + 1) σ' ρ' /\ d'.S = d.S /\ r'.S = r.S

theorem conv_new {src dst e : TypeId} {P : Program} (h1 : P.underlying src = some .string) (h2 : P.underlying dst = some (.slice e)) (h3 : P.underlying e = some (.int .u8)) (s : ByteArray) (hs : s.size <= 140737488355328) (w : World) :
    ∃ l : SV, ∃ w' : World, (convert src dst (.string s)).run P w = .ok (.slice l.a l.len l.cap) w' /\ Pu w w' /\ RdSl w' l s.data.toList /\ l.a = some ⟨w.heap.size, 0, none⟩ /\ w'.heap.size = w.heap.size + 1 := by
  obtain ⟨c, hc, hcr⟩ : ∃ c, s.size <= c /\ (choose (.appendCap s.size 0 e)).run P w = .ok c w.drew := by
    refine ⟨(Question.appendCap s.size 0 e).cut (w.tape w.drawn (.appendCap s.size 0 e)), by simp [Question.cut], ?_⟩
    rw [run_choose]; simp [Question.forced]
  obtain ⟨arr, harr⟩ : ∃ arr : Array Value, arr = (s.data.map fun b => Value.int .u8 b.toNat) ++ Array.replicate (c - s.size) (.int .u8 0) := ⟨_, rfl⟩
  have hsz : arr.size = c := by rw [harr]; simp; show s.size + _ = _; omega
  refine ⟨⟨some ⟨w.heap.size, 0, none⟩, s.size, c⟩, (w.drew.alloc (.cells arr e)).freeze ⟨w.heap.size, c, none⟩ 1, ?_, ?_, ⟨rfl, hc, hs, ?_⟩, rfl, ?_⟩
  · unfold convert
    simp only [Sem.run_bind, run_under h1, run_under h2, Result.andThen_ok, run_under h3]
    unfold Conv.stringToBytes
    simp only [Sem.run_bind, hcr, Result.andThen_ok, ← harr, newRow, run_newObj, Sem.run_pure]
    have hsh : World.shape? (w.drew.alloc (.cells arr e)) w.heap.size = some (e, c) := by
      unfold World.shape?
      rw [show (w.drew.alloc (.cells arr e)).heap[w.heap.size]? = _ from alloc_new w.drew _]
      simp [hsz]
    unfold markStringish
    simp only [Sem.run_bind, run_shape, World.alloc_eq, Result.andThen_ok]
    rw [show w.drew.heap.size = w.heap.size from rfl, hsh]
    simp
  · refine ⟨by unfold World.freeze; simp; rfl, by unfold World.freeze; simp, by unfold World.freeze; simp; rfl, ?_, fun k hk => ?_⟩
    · unfold World.freeze; simp
    · unfold World.freeze
      simp only [Nat.one_ne_zero, if_false, Array.getElem?_modify]
      rw [if_neg (by omega)]
      exact Below.heap_alloc w.drew _ k hk
  · obtain ⟨l, w', hr, hp, hrd⟩ := conv_bytes (P := P) h1 h2 h3 s hs w
    have hrun : (convert src dst (.string s)).run P w = .ok (.slice (some ⟨w.heap.size, 0, none⟩) s.size c) ((w.drew.alloc (.cells arr e)).freeze ⟨w.heap.size, c, none⟩ 1) := by
      unfold convert
      simp only [Sem.run_bind, run_under h1, run_under h2, Result.andThen_ok, run_under h3]
      unfold Conv.stringToBytes
      simp only [Sem.run_bind, hcr, Result.andThen_ok, ← harr, newRow, run_newObj, Sem.run_pure]
      have hsh : World.shape? (w.drew.alloc (.cells arr e)) w.heap.size = some (e, c) := by
        unfold World.shape?
        rw [show (w.drew.alloc (.cells arr e)).heap[w.heap.size]? = _ from alloc_new w.drew _]
        simp [hsz]
      unfold markStringish
      simp only [Sem.run_bind, run_shape, World.alloc_eq, Result.andThen_ok]
      rw [show w.drew.heap.size = w.heap.size from rfl, hsh]
      simp
    rw [hrun] at hr
    obtain ⟨e1, e2⟩ := Result.ok.inj hr
    simp only [Value.slice.injEq] at e1
    have hl : l = ⟨some ⟨w.heap.size, 0, none⟩, s.size, c⟩ := by
      obtain ⟨la, ll, lc⟩ := l
      obtain ⟨i1, i2, i3⟩ := e1
      simp only at i1 i2 i3
      rw [← i1, ← i2, ← i3]
    rw [← e2, hl] at hrd
    exact hrd.get
  · unfold World.freeze
    simp only [Nat.one_ne_zero, if_false, Array.size_modify]
    exact Array.size_push ..
end
end Go.Proofs.YtnigfiljenfgjaaGreat

/- The disk: each act, at both systems. -/
set_option maxRecDepth 100000
set_option linter.unusedVariables false
set_option linter.unusedSimpArgs false
namespace Go.Proofs.YtnigfiljenfgjaaGreat
open Go.Sh Go.RowKit
variable {w0 w w1 : World} {d d' : Lay} {r r' : RLay} {σ σ' : Sys} {ρ ρ' : RSys} {N : Nat}

def iE (n : Int) : Ending := .returned (.int .i64 n)
def iiE (a b : Int) : Ending := .returned (.tuple #[.int .i64 a, .int .i64 b])
theorem two_make (B : Base w0 w d r σ ρ) (O : Ok N σ ρ) (name : ByteArray) : Calls Tryz.prog 16 #[d.ptr, .string name] w fun e w1 => ∃ n : Int, e = iE n /\ Fr (· ∈ d.own) w w1 /\ Calls Tryz.prog 86 #[r.ptr, .string name] w1 fun e w2 => e = iE n /\ Pst w0 N w2 d r := by
  refine Calls.mono (make_c B.a name) ?_
  rintro e w1 ⟨rfl, d', L⟩
  obtain ⟨hc, O'⟩ := O.make B.b.fnd name
  have B1 := B.op L
  refine ⟨_, rfl, L.fr, Calls.mono (rMake_c B1.b name) ?_⟩
  rintro e w2 ⟨rfl, r', L2⟩
  exact ⟨by rw [hc]; rfl, d', r', _, _, B1.rop L2, O'.more, L.ptr, L2.ptr⟩
theorem two_drop (B : Base w0 w d r σ ρ) (O : Ok N σ ρ) (hN : N <= 400) (name : ByteArray) : Calls Tryz.prog 87 #[d.ptr, .string name] w fun e w1 => ∃ n : Int, e = iE n /\ Fr (· ∈ d.own) w w1 /\ Calls Tryz.prog 88 #[r.ptr, .string name] w1 fun e w2 => e = iE n /\ Pst w0 N w2 d r := by
  refine Calls.mono (drop_c B.a (O.lo hN) name) ?_
  rintro e w1 ⟨rfl, d', L⟩
  obtain ⟨hc, O'⟩ := O.drop B.b.fnd B.rcn name
  have B1 := B.op L
  have h1 := O.held
  have h2 := O.files
  refine ⟨_, rfl, L.fr, Calls.mono (rDrop_c B1.b O.rgood (by omega) (by omega) name) ?_⟩
  rintro e w2 ⟨rfl, r', L2⟩
  exact ⟨by rw [hc]; rfl, d', r', _, _, B1.rop L2, O'.more, L.ptr, L2.ptr⟩
theorem two_resize (B : Base w0 w d r σ ρ) (O : Ok N σ ρ) (name : ByteArray) (n : Int) : Calls Tryz.prog 24 #[d.ptr, .string name, .int .i64 n] w fun e w1 => ∃ m : Int, e = iE m /\ Fr (· ∈ d.own) w w1 /\ Calls Tryz.prog 89 #[r.ptr, .string name, .int .i64 n] w1 fun e w2 => e = iE m /\ Pst w0 N w2 d r := by
  refine Calls.mono (resize_c B.a O.good.small O.good.near name n) ?_
  rintro e w1 ⟨rfl, d', L⟩
  obtain ⟨hc, O'⟩ := O.resize B.b.fnd B.rcn B.cn name n
  have B1 := B.op L
  have h2 := O.files
  refine ⟨_, rfl, L.fr, Calls.mono (rResize_c B1.b O.rgood (by omega) name n) ?_⟩
  rintro e w2 ⟨rfl, r', L2⟩
  exact ⟨by rw [hc]; rfl, d', r', _, _, B1.rop L2, O'.more, L.ptr, L2.ptr⟩
theorem two_size (B : Base w0 w d r σ ρ) (O : Ok N σ ρ) (name : ByteArray) : Calls Tryz.prog 90 #[d.ptr, .string name] w fun e w1 => ∃ a b : Int, e = iiE a b /\ Fr (· ∈ d.own) w w1 /\ Calls Tryz.prog 12 #[r.ptr, .string name] w1 fun e w2 => e = iiE a b /\ Pst w0 N w2 d r := by
  refine Calls.mono (size_c B.a name) ?_
  rintro e w1 ⟨rfl, L⟩
  have B1 := B.op L
  refine ⟨_, _, rfl, L.fr, Calls.mono (rSize_c B1.b name) ?_⟩
  rintro e w2 ⟨rfl, hp⟩
  refine ⟨?_, d, r, _, _, B1.pure hp, O.more, rfl, rfl⟩
  rw [sizeN, rSize, O.sim.ask, O.sim.file]
  rfl
theorem two_disk (B : Base w0 w d r σ ρ) (O : Ok N σ ρ) (name : ByteArray) : Calls Tryz.prog 15 #[d.ptr, .string name] w fun e w1 => ∃ (l : SV) (n : Int) (bs : List UInt8), e = .returned (.tuple #[.slice l.a l.len l.cap, .int .i64 n]) /\ Fr (· ∈ d.own) w w1 /\ Calls Tryz.prog 91 #[r.ptr, .string name] w1 fun e w2 => ∃ l2 : SV, e = .returned (.tuple #[.slice l2.a l2.len l2.cap, .int .i64 n]) /\ RowAt w2 5 1 l (bs.map u8V) /\ RowAt w2 5 1 l2 (bs.map u8V) /\ Pst w0 N w2 d r := by
  refine Calls.mono (disk_c B.a O.good.small name) ?_
  rintro e w1 h
  obtain ⟨l, rfl, L, hrow, hnew⟩ := h
  have B1 := B.op L
  refine ⟨l, _, if diskC name σ = 0 then fileOf σ name else [], rfl, L.fr, Calls.mono (rDisk_c B1.b O.rgood name) ?_⟩
  rintro e w2 ⟨l2, rfl, hrow2, _, hp⟩
  refine ⟨l2, ?_, hrow.pu hp, ?_, d, r, _, _, B1.pure hp, O.more, rfl, rfl⟩
  · rw [diskC, O.sim.ask]
  · rw [rDiskB] at hrow2
    rw [diskC, O.sim.ask, O.sim.file]
    exact hrow2
theorem two_read (B : Base w0 w d r σ ρ) (O : Ok N σ ρ) (hN : N <= 400) (u : Int) (name : ByteArray) (at_ n : Int) : Calls Tryz.prog 13 #[d.ptr, .int .i64 u, .string name, .int .i64 at_, .int .i64 n] w fun e w1 => ∃ (l : SV) (c : Int) (bs : List UInt8), e = .returned (.tuple #[.slice l.a l.len l.cap, .int .i64 c]) /\ Fr (· ∈ d.own) w w1 /\
    Calls Tryz.prog 28 #[r.ptr, .int .i64 u, .string name, .int .i64 at_, .int .i64 n] w1 fun e w2 => ∃ l2 : SV, e = .returned (.tuple #[.slice l2.a l2.len l2.cap, .int .i64 c]) /\ RowAt w2 5 1 l (bs.map u8V) /\ RowAt w2 5 1 l2 (bs.map u8V) /\ Pst w0 N w2 d r := by
  refine Calls.mono (read_c B.a O.good.small u name at_ n) ?_
  rintro e w1 ⟨l, rfl, L, hrow, hnew⟩
  have B1 := B.op L
  obtain ⟨O', hbs⟩ := O.read hN u name at_ n
  refine ⟨l, _, (readR u name at_ n σ).2, rfl, L.fr, Calls.mono (rRead_c B1.b O.rgood u name at_ n) ?_⟩
  rintro e w2 ⟨l2, r', rfl, L2, hrow2, _⟩
  refine ⟨l2, by rw [O.readC], hrow.fr L2.fr fun b hb hn => ?_, by rw [hbs]; exact hrow2, d, r', _, _, B1.rop L2, O', rfl, L2.ptr⟩
  have := hnew b hb
  have := B.b.lt b hn
  omega
theorem two_lock (B : Base w0 w d r σ ρ) (O : Ok N σ ρ) (hN : N <= 400) (u : Int) (name : ByteArray) (at_ n : Int) : Calls Tryz.prog 27 #[d.ptr, .int .i64 u, .string name, .int .i64 at_, .int .i64 n] w fun e w1 => ∃ c : Int, e = iE c /\ Fr (· ∈ d.own) w w1 /\
    Calls Tryz.prog 30 #[r.ptr, .int .i64 u, .string name, .int .i64 at_, .int .i64 n] w1 fun e w2 => e = iE c /\ Pst w0 N w2 d r := by
  refine Calls.mono (lock_c B.a O.good (O.lo hN) u name at_ n) ?_
  rintro e w1 ⟨rfl, hcase⟩
  have hC := O.lockC u name at_ n
  have hl := O.held
  rw [hC] at hcase
  rcases hcase with ⟨h0, L⟩ | ⟨h0, d', ps, hps, L⟩
  · have B1 := B.op L
    refine ⟨_, rfl, L.fr, Calls.mono (rLock_c B1.b O.rgood (fun l hl => (O.locks l hl).1) (by omega) u name at_ n) ?_⟩
    rintro e w2 ⟨rfl, r', L2⟩
    rw [rLockS, if_neg h0] at L2
    exact ⟨by rw [hC]; rfl, d, r', _, _, B1.rop L2, O.more, rfl, L2.ptr⟩
  · have B1 := B.op L
    refine ⟨_, rfl, L.fr, Calls.mono (rLock_c B1.b O.rgood (fun l hl => (O.locks l hl).1) (by omega) u name at_ n) ?_⟩
    rintro e w2 ⟨rfl, r', L2⟩
    rw [rLockS, if_pos h0] at L2
    obtain ⟨⟨v, a, m, b, hu, hv, hb, ha, hm, hm1⟩, OL⟩ := O.locked h0
    subst hu; subst ha; subst hm
    have hb' : AL.get ({ ρ with held := ρ.held ++ [⟨(v : Int), name, (a : Int), (m : Int)⟩] } : RSys).files name = some b := hb
    have O2 := OL.refresh hv (B.cn v hv) hb' (a := a) (m := m) hm1 (ps := ps) (by rw [Int.toNat_natCast] at hps; exact hps)
    rw [hb] at L2
    exact ⟨by rw [hC]; rfl, d', r', _, _, B1.rop L2, O2, L.ptr, L2.ptr⟩
theorem two_unlock (B : Base w0 w d r σ ρ) (O : Ok N σ ρ) (hN : N <= 400) (u : Int) (name : ByteArray) (at_ n : Int) : Calls Tryz.prog 31 #[d.ptr, .int .i64 u, .string name, .int .i64 at_, .int .i64 n] w fun e w1 => ∃ c : Int, e = iE c /\ Fr (· ∈ d.own) w w1 /\
    Calls Tryz.prog 32 #[r.ptr, .int .i64 u, .string name, .int .i64 at_, .int .i64 n] w1 fun e w2 => e = iE c /\ Pst w0 N w2 d r := by
  refine Calls.mono (unlock_any B.a O.good (O.lo hN) u name at_ n) ?_
  rintro e w1 ⟨rfl, hcase⟩
  have hC : unlockC u name at_ n σ = rUnlockC u name at_ n ρ := by rw [unlockC, rUnlockC, O.sim.both, O.sim.lk]
  have hl := O.held
  rw [hC] at hcase
  rcases hcase with ⟨h0, L⟩ | ⟨h0, d', ps, hps, L⟩
  · have B1 := B.op L
    refine ⟨_, rfl, L.fr, Calls.mono (rUnlock_c B1.b O.rgood O.locks (by omega) u name at_ n) ?_⟩
    rintro e w2 ⟨rfl, r', L2⟩
    rw [rUnlockS, if_neg h0] at L2
    exact ⟨by rw [hC]; rfl, d, r', _, _, B1.rop L2, O.more, rfl, L2.ptr⟩
  · have B1 := B.op L
    refine ⟨_, rfl, L.fr, Calls.mono (rUnlock_c B1.b O.rgood O.locks (by omega) u name at_ n) ?_⟩
    rintro e w2 ⟨rfl, r', L2⟩
    rw [rUnlockS, if_pos h0] at L2
    have h1 : rBoth u name ρ = 0 := by
      unfold rUnlockC at h0
      by_cases h1 : rBoth u name ρ = 0
      · exact h1
      · rw [if_neg h1] at h0; exact absurd h0 h1
    rw [rUnlockC, if_pos h1] at h0
    have hmem : (⟨u, name, at_, n⟩ : Lock) ∈ ρ.held := by
      by_cases hm : (⟨u, name, at_, n⟩ : Lock) ∈ ρ.held
      · exact hm
      · rw [if_neg hm] at h0; cases h0
    obtain ⟨⟨v, hu, hv⟩, b, hb⟩ := rBoth_zero h1
    obtain ⟨⟨o1, o2, o3, o4⟩, o5⟩ := O.locks _ hmem
    simp only at o1 o2 o3 o4 o5
    obtain ⟨a, rfl⟩ := Int.eq_ofNat_of_zero_le o1
    obtain ⟨m, rfl⟩ := Int.eq_ofNat_of_zero_le o3
    subst hu
    have O2 := O.unlock hv (B.cn v hv) hb (a := a) (m := m) (by omega) (ps := ps) (by simpa using hps) ⟨(v : Int), name, (a : Int), (m : Int)⟩
    exact ⟨by rw [hC]; rfl, d', r', _, _, B1.rop L2, O2.more, L.ptr, L2.ptr⟩
theorem two_flush (B : Base w0 w d r σ ρ) (O : Ok N σ ρ) (u : Int) (name : ByteArray) : Calls Tryz.prog 26 #[d.ptr, .int .i64 u, .string name] w fun e w1 => ∃ a b : Int, e = iiE a b /\ Fr (· ∈ d.own) w w1 /\ Calls Tryz.prog 33 #[r.ptr, .int .i64 u, .string name] w1 fun e w2 => e = iiE a b /\ Pst w0 N w2 d r := by
  refine Calls.mono (flush_c B.a O.good u name) ?_
  rintro e w1 ⟨n, rfl, hcase⟩
  have hC := O.sim.both u name
  rw [hC] at hcase ⊢
  rcases hcase with ⟨h0, rfl, L⟩ | ⟨h0, ps, hps, rfl, L⟩
  · have B1 := B.op L
    refine ⟨_, _, rfl, L.fr, Calls.mono (rFlush_c B1.b O.rgood u name) ?_⟩
    rintro e w2 ⟨rfl, L2⟩
    rw [rFlushS, if_neg h0] at L2
    refine ⟨?_, d, r, _, _, B1.rop L2, O.more, rfl, rfl⟩
    rw [rFlushN, rDirty, if_neg h0]; rfl
  · have B1 := B.op L
    refine ⟨_, _, rfl, L.fr, Calls.mono (rFlush_c B1.b O.rgood u name) ?_⟩
    rintro e w2 ⟨rfl, L2⟩
    rw [rFlushS, if_pos h0, rDirty, if_pos h0] at L2
    obtain ⟨⟨v, hu, hv⟩, b, hb⟩ := rBoth_zero h0
    subst hu
    rw [Int.toNat_natCast] at L2 hps L ⊢
    obtain ⟨O2, hc⟩ := O.flush hv (B.cn v hv) hb hps
    rw [Int.toNat_natCast] at B1
    refine ⟨?_, d, r, _, _, B1.rop L2, O2.more, rfl, rfl⟩
    rw [hc, rFlushN, rDirty, if_pos h0]; rfl
theorem two_forget (B : Base w0 w d r σ ρ) (O : Ok N σ ρ) (u : Int) (name : ByteArray) : Calls Tryz.prog 34 #[d.ptr, .int .i64 u, .string name] w fun e w1 => ∃ a b : Int, e = iiE a b /\ Fr (· ∈ d.own) w w1 /\ Calls Tryz.prog 35 #[r.ptr, .int .i64 u, .string name] w1 fun e w2 => e = iiE a b /\ Pst w0 N w2 d r := by
  refine Calls.mono (forget_c B.a O.good u name) ?_
  intro e w1 hcase
  have hC := O.sim.both u name
  rw [hC] at hcase
  rcases hcase with ⟨h0, rfl, L⟩ | ⟨h0, rfl, L⟩
  · have B1 := B.op L
    refine ⟨_, _, rfl, L.fr, Calls.mono (rForget_c B1.b O.rgood u name) ?_⟩
    rintro e w2 ⟨rfl, L2⟩
    rw [rForgetS, if_neg h0] at L2
    refine ⟨?_, d, r, _, _, B1.rop L2, O.more, rfl, rfl⟩
    rw [rForgetN, if_neg h0]; rfl
  · have B1 := B.op L
    refine ⟨_, _, rfl, L.fr, Calls.mono (rForget_c B1.b O.rgood u name) ?_⟩
    rintro e w2 ⟨rfl, L2⟩
    rw [rForgetS, if_pos h0] at L2
    obtain ⟨⟨v, hu, hv⟩, b, hb⟩ := rBoth_zero h0
    subst hu
    rw [Int.toNat_natCast] at L2 L ⊢
    obtain ⟨O2, hc⟩ := O.forget hv (B.cn v hv) hb
    rw [Int.toNat_natCast] at B1
    refine ⟨?_, d, r, _, _, B1.rop L2, O2.more, rfl, rfl⟩
    rw [hc, rForgetN, if_pos h0, h0, Int.toNat_natCast]; rfl
theorem two_fall (B : Base w0 w d r σ ρ) (O : Ok N σ ρ) (hN : N <= 400) (u : Int) : Calls Tryz.prog 14 #[d.ptr, .int .i64 u] w fun e w1 => ∃ a b : Int, e = iiE a b /\ Fr (· ∈ d.own) w w1 /\ Calls Tryz.prog 36 #[r.ptr, .int .i64 u] w1 fun e w2 => e = iiE a b /\ Pst w0 N w2 d r := by
  refine Calls.mono (fall_c B.a O.good (O.lo hN) u) ?_
  rintro e w1 ⟨rfl, d', L⟩
  have B1 := B.op L
  obtain ⟨hc, O2⟩ := O.fall B.b.fnd B.cn u
  have h1 := O.held
  have h2 := O.files
  refine ⟨_, _, rfl, L.fr, Calls.mono (rFall_c B1.b O.rgood (by omega) (by omega) u) ?_⟩
  rintro e w2 ⟨rfl, r', L2⟩
  exact ⟨by rw [hc]; rfl, d', r', _, _, B1.rop L2, O2.more, L.ptr, L2.ptr⟩
theorem two_dirty (B : Base w0 w d r σ ρ) (O : Ok N σ ρ) (u : Int) (name : ByteArray) : Calls Tryz.prog 37 #[d.ptr, .int .i64 u, .string name] w fun e w1 => ∃ (l : SV) (c : Int) (zs : List Nat), e = .returned (.tuple #[.slice l.a l.len l.cap, .int .i64 c]) /\ Fr (· ∈ d.own) w w1 /\
    Calls Tryz.prog 38 #[r.ptr, .int .i64 u, .string name] w1 fun e w2 => ∃ l2 : SV, e = .returned (.tuple #[.slice l2.a l2.len l2.cap, .int .i64 c]) /\ RowAt w2 3 1 l (zs.map natV) /\ RowAt w2 3 1 l2 (zs.map natV) /\ Pst w0 N w2 d r := by
  refine Calls.mono (dirty_c B.a O.good u name) ?_
  rintro e w1 ⟨l, zs, rfl, L, hrow, hnew, hcase⟩
  have B1 := B.op L
  have hC := O.sim.both u name
  rw [hC] at hcase ⊢
  refine ⟨l, _, rDirty u name ρ, rfl, L.fr, Calls.mono (rDirty_c B1.b O.rgood u name) ?_⟩
  rintro e w2 ⟨l2, rfl, hrow2, _, hp⟩
  refine ⟨l2, rfl, ?_, hrow2, d, r, _, _, B1.pure hp, O.more, rfl, rfl⟩
  have hz : zs.map iV = (rDirty u name ρ).map natV := by
    rcases hcase with ⟨h0, rfl⟩ | ⟨h0, hs, ps, hps, hzp⟩
    · rw [rDirty, if_neg h0]; rfl
    · obtain ⟨⟨v, hu, hv⟩, b, hb⟩ := rBoth_zero h0
      subst hu
      rw [Int.toNat_natCast] at hps hzp
      rw [rDirty, if_pos h0, Int.toNat_natCast]
      exact O.dirty hv (B.cn v hv) hb hps hzp hs
  rw [← hz]
  exact hrow.pu hp
end Go.Proofs.YtnigfiljenfgjaaGreat

/- The disk: an act that is played at both systems tells the same. -/
set_option maxRecDepth 100000
set_option linter.unusedVariables false
set_option linter.unusedSimpArgs false
namespace Go.Proofs.YtnigfiljenfgjaaGreat
open Go.Sh Go.RowKit
variable {w0 w w1 : World} {d d' : Lay} {r r' : RLay} {σ σ' : Sys} {ρ ρ' : RSys} {N : Nat}

theorem rdsl_out (B : Base w0 w d r σ ρ) {l : SV} (hl : ∀ b ∈ blkOf l, b < w.heap.size /\ b ∉ d.own /\ r.o b = none) : (∀ b ∈ blkOf l, b < w.heap.size /\ b ∉ d.own) /\ ∀ b ∈ blkOf l, b < w.heap.size /\ r.o b = none := ⟨fun b hb => ⟨(hl b hb).1, (hl b hb).2.1⟩, fun b hb => ⟨(hl b hb).1, (hl b hb).2.2⟩⟩
theorem eq_of_data {s t : ByteArray} (h : s.data.toList = t.data.toList) : s = t := by
  obtain ⟨a⟩ := s; obtain ⟨b⟩ := t
  congr 1
  exact Array.ext' h
theorem same_str {s t : ByteArray} {bs : List UInt8} (h1 : s.data.toList = bs) (h2 : t.data.toList = bs) : (s.toList == t.toList) = true := by
  rw [toList_beq, decide_eq_true (eq_of_data (h1.trans h2.symm))]
theorem cellAt {wx : World} {b : Nat} {arr : Array Value} {t : TypeId} (h : wx.heap[b]? = some (.cells arr t)) {j : Nat} {v : Value} (hv : arr[j]? = some v) : wx.cell? ((⟨b, 0, none⟩ : Addr).add j) = some v := by rw [add_def, cell_blk h, Nat.zero_add]; exact hv

set_option maxHeartbeats 2000000 in
theorem files_c (B : Base w0 w d r σ ρ) (O : Ok N σ ρ) (hN : N <= 400) (k n0 n1 n2 n3 : Int) (name by_ : ByteArray) :
    Calls Tryz.prog 40 #[d.ptr, r.ptr, .int .i64 k, .agg #[.int .i64 n0, .int .i64 n1, .int .i64 n2, .int .i64 n3, .string name, .string by_]] w fun e w' => e = .returned (.bool true) /\ Pst w0 N w' d r := by
  refine F40_calls _ _ k n0 n1 n2 n3 name by_ w _ ?_
  refine alE_intro fun w1 hw1 => ?_
  have hp1 : Pu w w1 := by rw [hw1]; exact Pu.alloc w _
  have hb1 : w1.heap[w.heap.size]? = some (.cells #[.int .i64 n0, .int .i64 n1, .int .i64 n2, .int .i64 n3, .string name, .string by_] 31) := by rw [hw1]; exact alloc_new w _
  have B1 := B.pure hp1
  have hown : w.heap.size ∉ d.own := fun hx => by have := B.a.lt _ hx; omega
  obtain ⟨S, hS⟩ : ∃ S : World -> Prop, S = fun wx => wx.heap[w.heap.size]? = some (.cells #[.int .i64 n0, .int .i64 n1, .int .i64 n2, .int .i64 n3, .string name, .string by_] 31) := ⟨_, rfl⟩
  have hc4 : ∀ wx, S wx -> wx.cell? ((⟨w.heap.size, 0, none⟩ : Addr).add 4) = some (.string name) := fun wx hx => by rw [hS] at hx; exact cellAt hx rfl
  have hc2 : ∀ wx, S wx -> wx.cell? ((⟨w.heap.size, 0, none⟩ : Addr).add 2) = some (.int .i64 n2) := fun wx hx => by rw [hS] at hx; exact cellAt hx rfl
  have hS1 : S w1 := by rw [hS]; exact hb1
  have hSp : ∀ {wa wb : World}, S wa -> Pu wa wb -> S wb := fun {wa wb} ha hp => by rw [hS] at ha ⊢; exact hp.blk ha
  have hSf : ∀ {wa wb : World}, S wa -> Fr (· ∈ d.own) wa wb -> S wb := fun {wa wb} ha hf => by rw [hS] at ha ⊢; exact hf.blk ha hown
  refine Br.of (fun _ => ?_) (fun _ => Br.of (fun _ => ?_) (fun _ => Br.of (fun _ => ?_) (fun _ => Br.of (fun _ => ?_) (fun _ => ?_))))
  · refine dwE_intro fun w2 hp2 _ => ?_
    refine ⟨S, hSp hS1 hp2, name, hc4, name, hc4, ?_⟩
    refine Calls.mono (two_make (B1.pure hp2) O name) ?_
    rintro e w3 ⟨n, rfl, hf, hcall⟩
    refine ⟨n, rfl, hSf (hSp hS1 hp2) hf, Calls.mono hcall ?_⟩
    rintro e w4 ⟨rfl, P⟩
    exact ⟨n, rfl, by simp, P⟩
  · refine dwE_intro fun w2 hp2 _ => ?_
    refine ⟨S, hSp hS1 hp2, name, hc4, name, hc4, ?_⟩
    refine Calls.mono (two_drop (B1.pure hp2) O hN name) ?_
    rintro e w3 ⟨n, rfl, hf, hcall⟩
    refine ⟨n, rfl, hSf (hSp hS1 hp2) hf, Calls.mono hcall ?_⟩
    rintro e w4 ⟨rfl, P⟩
    exact ⟨n, rfl, by simp, P⟩
  · refine dwE_intro fun w2 hp2 _ => ?_
    refine ⟨S, hSp hS1 hp2, name, hc4, n2, hc2, name, hc4, n2, hc2, ?_⟩
    refine Calls.mono (two_resize (B1.pure hp2) O name n2) ?_
    rintro e w3 ⟨n, rfl, hf, hcall⟩
    refine ⟨n, rfl, hSf (hSp hS1 hp2) hf, Calls.mono hcall ?_⟩
    rintro e w4 ⟨rfl, P⟩
    exact ⟨n, rfl, by simp, P⟩
  · refine ⟨name, hc4 _ hS1, ?_⟩
    refine Calls.mono (two_size B1 O name) ?_
    rintro e w3 ⟨a, b, rfl, hf, hcall⟩
    refine ⟨a, b, rfl, name, hc4 _ (hSf hS1 hf), Calls.mono hcall ?_⟩
    rintro e w4 ⟨rfl, P⟩
    exact ⟨a, b, rfl, Br.t (by simp) ⟨by simp, P⟩⟩
  · refine ⟨name, hc4 _ hS1, ?_⟩
    refine Calls.mono (two_disk B1 O name) ?_
    rintro e w3 ⟨l, n, bs, rfl, hf, hcall⟩
    refine ⟨l, n, rfl, name, hc4 _ (hSf hS1 hf), Calls.mono hcall ?_⟩
    rintro e w4 ⟨l2, rfl, hr1, hr2, P⟩
    obtain ⟨s1, hs1, hd1⟩ := conv_str hr1
    obtain ⟨s2, hs2, hd2⟩ := conv_str hr2
    exact ⟨l2, n, rfl, s1, w4, hs1, s2, w4, hs2, Br.t (same_str hd1 hd2) ⟨by simp, P⟩⟩
theorem write_one (B : Base w0 w d r σ ρ) (O : Ok N σ ρ) (u : Int) (name : ByteArray) (at_ : Int) {l : SV} {bs : List UInt8} (hl : RdSl w l bs) (hlo : ∀ b ∈ blkOf l, b < w.heap.size /\ b ∉ d.own) :
    Calls Tryz.prog 25 #[d.ptr, .int .i64 u, .string name, .int .i64 at_, .slice l.a l.len l.cap] w fun e w1 => e = iE (writeC u name at_ bs σ) /\ Fr (· ∈ d.own) w w1 /\ ∃ d', Base w0 w1 d' r (writeS u name at_ bs σ) ρ /\ d'.S = d.S /\ ∀ b ∈ d'.own, b ∈ d.own ∨ w.heap.size <= b := by
  refine Calls.mono (write_c B.a O.good.small u name at_ hl hlo) ?_
  rintro e w1 ⟨rfl, L⟩
  exact ⟨rfl, L.fr, d, B.op L, L.ptr, L.own⟩
theorem write_two {u : Int} {name : ByteArray} {at_ : Int} {bs : List UInt8} (B : Base w0 w d' r (writeS u name at_ bs σ) ρ) (O : Ok N σ ρ) (hN : N <= 400) (hS : d'.S = d.S) {l : SV} (hl : RdSl w l bs) (hlo : ∀ b ∈ blkOf l, b < w.heap.size /\ r.o b = none) :
    Calls Tryz.prog 29 #[r.ptr, .int .i64 u, .string name, .int .i64 at_, .slice l.a l.len l.cap] w fun e w1 => e = iE (writeC u name at_ bs σ) /\ Pst w0 N w1 d r := by
  refine Calls.mono (rWrite_c B.b O.rgood u name at_ hl hlo) ?_
  rintro e w1 ⟨rfl, r', L⟩
  exact ⟨by rw [O.writeC]; rfl, d', r', _, _, B.rop L, O.write hN u name at_ bs, hS, L.ptr⟩
end Go.Proofs.YtnigfiljenfgjaaGreat

/- The disk: an act that is played at both systems tells the same, all acts. -/
set_option maxRecDepth 100000
set_option linter.unusedVariables false
set_option linter.unusedSimpArgs false
namespace Go.Proofs.YtnigfiljenfgjaaGreat
open Go.Sh Go.RowKit
variable {w0 w w1 : World} {d d' : Lay} {r r' : RLay} {σ σ' : Sys} {ρ ρ' : RSys} {N : Nat}

set_option maxHeartbeats 4000000 in
theorem played_c (B : Base w0 w d r σ ρ) (O : Ok N σ ρ) (hN : N <= 400) (n0 n1 n2 n3 : Int) (name by_ : ByteArray) (hby : by_.size <= 100000) :
    Calls Tryz.prog 11 #[d.ptr, r.ptr, .agg #[.int .i64 n0, .int .i64 n1, .int .i64 n2, .int .i64 n3, .string name, .string by_]] w fun e w' => e = .returned (.bool true) /\ Pst w0 N w' d r := by
  refine F11_calls _ _ n0 n1 n2 n3 name by_ w _ ?_
  refine alE_intro fun w1 hw1 => ?_
  have hp1 : Pu w w1 := by rw [hw1]; exact Pu.alloc w _
  have hb1 : w1.heap[w.heap.size]? = some (.cells #[.int .i64 n0, .int .i64 n1, .int .i64 n2, .int .i64 n3, .string name, .string by_] 31) := by rw [hw1]; exact alloc_new w _
  have B1 := B.pure hp1
  have hown : w.heap.size ∉ d.own := fun hx => by have := B.a.lt _ hx; omega
  obtain ⟨S, hS⟩ : ∃ S : World -> Prop, S = fun wx => wx.heap[w.heap.size]? = some (.cells #[.int .i64 n0, .int .i64 n1, .int .i64 n2, .int .i64 n3, .string name, .string by_] 31) := ⟨_, rfl⟩
  have hc1 : ∀ wx, S wx -> wx.cell? ((⟨w.heap.size, 0, none⟩ : Addr).add 1) = some (.int .i64 n1) := fun wx hx => by rw [hS] at hx; exact cellAt hx rfl
  have hc2 : ∀ wx, S wx -> wx.cell? ((⟨w.heap.size, 0, none⟩ : Addr).add 2) = some (.int .i64 n2) := fun wx hx => by rw [hS] at hx; exact cellAt hx rfl
  have hc3 : ∀ wx, S wx -> wx.cell? ((⟨w.heap.size, 0, none⟩ : Addr).add 3) = some (.int .i64 n3) := fun wx hx => by rw [hS] at hx; exact cellAt hx rfl
  have hc4 : ∀ wx, S wx -> wx.cell? ((⟨w.heap.size, 0, none⟩ : Addr).add 4) = some (.string name) := fun wx hx => by rw [hS] at hx; exact cellAt hx rfl
  have hc5 : ∀ wx, S wx -> wx.cell? ((⟨w.heap.size, 0, none⟩ : Addr).add 5) = some (.string by_) := fun wx hx => by rw [hS] at hx; exact cellAt hx rfl
  have hc0 : ∀ wx, S wx -> wx.cell? ((⟨w.heap.size, 0, none⟩ : Addr).add 0) = some (.int .i64 n0) := fun wx hx => by rw [hS] at hx; exact cellAt hx rfl
  have hS1 : S w1 := by rw [hS]; exact hb1
  have hSp : ∀ {wa wb : World}, S wa -> Pu wa wb -> S wb := fun {wa wb} ha hp => by rw [hS] at ha ⊢; exact hp.blk ha
  have hSf : ∀ {wa wb : World}, S wa -> Fr (· ∈ d.own) wa wb -> S wb := fun {wa wb} ha hf => by rw [hS] at ha ⊢; exact hf.blk ha hown
  refine ⟨n0, by rw [cell_blk hb1]; rfl, rfl, by decide, rfl, by decide, ?_⟩
  refine Br.of (fun _ => ?_) (fun _ => Br.of (fun _ => ?_) (fun _ => Br.of (fun _ => ?_) (fun _ => Br.of (fun _ => ?_) (fun _ => Br.of (fun _ => ?_) (fun _ => Br.of (fun _ => ?_) (fun _ => Br.of (fun _ => ?_) (fun _ => Br.of (fun _ => ?_) (fun _ => ?_))))))))
  · -- reading
    refine ⟨n1, hc1 _ hS1, name, hc4 _ hS1, n2, hc2 _ hS1, n3, hc3 _ hS1, ?_⟩
    refine Calls.mono (two_read B1 O hN n1 name n2 n3) ?_
    rintro e w3 ⟨l, n, bs, rfl, hf, hcall⟩
    have hS3 := hSf hS1 hf
    refine ⟨l, n, rfl, n1, hc1 _ hS3, name, hc4 _ hS3, n2, hc2 _ hS3, n3, hc3 _ hS3, Calls.mono hcall ?_⟩
    rintro e w4 ⟨l2, rfl, hr1, hr2, P⟩
    obtain ⟨s1, hs1, hd1⟩ := conv_str hr1
    obtain ⟨s2, hs2, hd2⟩ := conv_str hr2
    exact ⟨l2, n, rfl, s1, w4, hs1, s2, w4, hs2, Br.t (same_str hd1 hd2) ⟨by simp, P⟩⟩
  · -- writing
    refine dwE_intro fun w2 hp2 _ => ?_
    have B2 := B1.pure hp2
    have hS2 := hSp hS1 hp2
    have hsz : by_.size <= 140737488355328 := by omega
    refine ⟨S, hS2, n1, hc1, name, hc4, n2, hc2, by_, hc5, n1, hc1, name, hc4, n2, hc2, by_, hc5, ?_⟩
    have newout : ∀ {wa wb : World} {l : SV}, Base w0 wa d r σ ρ -> l.a = some ⟨wa.heap.size, 0, none⟩ -> wb.heap.size = wa.heap.size + 1 -> ∀ b ∈ blkOf l, b < wb.heap.size /\ b ∉ d.own /\ r.o b = none := fun {wa wb l} Ba hla hz b hb => by
      have hb : b = wa.heap.size := by simpa [blkOf, hla] using hb
      subst hb
      refine ⟨by omega, fun hx => by have := Ba.a.lt _ hx; omega, ?_⟩
      cases ho : r.o wa.heap.size with
      | none => rfl
      | some k => have := Ba.b.lt wa.heap.size (by rw [ho]; simp); omega
    have fin : ∀ (a b : Int), a = b -> (a == b) = true := fun a b h => by rw [h]; simp
    -- both slices are made, then the calls
    have both : ∀ {wx : World} {l83 l94 : SV}, Base w0 wx d r σ ρ -> S wx -> RdSl wx l83 by_.data.toList -> RdSl wx l94 by_.data.toList -> (∀ b ∈ blkOf l83, b < wx.heap.size /\ b ∉ d.own /\ r.o b = none) -> (∀ b ∈ blkOf l94, b < wx.heap.size /\ b ∉ d.own /\ r.o b = none) ->
        Calls Tryz.prog 25 #[.pointer (some ⟨d.S, 0, none⟩), .int .i64 n1, .string name, .int .i64 n2, .slice l83.a l83.len l83.cap] wx fun e w10 => ∃ n84 : Int, e = .returned (.int .i64 n84) /\ S w10 /\
        Calls Tryz.prog 29 #[.pointer (some ⟨r.S, 0, none⟩), .int .i64 n1, .string name, .int .i64 n2, .slice l94.a l94.len l94.cap] w10 fun e w12 => ∃ n95 : Int, e = .returned (.int .i64 n95) /\ runD Tryz.prog [] w12 fun w13 => (Ending.returned (.bool (n84 == n95)) = Ending.returned (.bool true) /\ Pst w0 N w13 d r) := fun {wx l83 l94} Bx hSx h83 h94 o83 o94 => by
      refine Calls.mono (write_one Bx O n1 name n2 h83 (rdsl_out Bx o83).1) ?_
      rintro e w10 ⟨rfl, hf, d', B', hdS, hdo⟩
      refine ⟨_, rfl, hSf hSx hf, ?_⟩
      have h94' : RdSl w10 l94 by_.data.toList := rdsl_fr h94 hf fun b hb hx => (o94 b hb).2.1 hx
      have hz := hf.size
      refine Calls.mono (write_two B' O hN hdS h94' fun b hb => ⟨by have := (o94 b hb).1; omega, (o94 b hb).2.2⟩) ?_
      rintro e w12 ⟨rfl, P⟩
      exact ⟨_, rfl, by rw [fin _ _ rfl], P⟩
    refine ⟨?_, ?_⟩
    · obtain ⟨l83, w9, hr9, hp9, h83, ha83, hz9⟩ := conv_new (P := Tryz.prog) u9 u29 u5 by_ hsz w2
      have B9 := B2.pure hp9
      have hS9 := hSp hS2 hp9
      have o83 := newout (wb := w9) B2 ha83 hz9
      refine ⟨l83, w9, hr9, hS9, ?_, ?_⟩
      · refine Calls.mono (write_one B9 O n1 name n2 h83 (rdsl_out B9 o83).1) ?_
        rintro e w10 ⟨rfl, hf, d', B', hdS, hdo⟩
        have hS10 := hSf hS9 hf
        refine ⟨_, rfl, hS10, ?_⟩
        obtain ⟨l94, w11, hr11, hp11, h94, ha94, hz11⟩ := conv_new (P := Tryz.prog) u9 u29 u5 by_ hsz w10
        refine ⟨l94, w11, hr11, hSp hS10 hp11, ?_⟩
        refine Calls.mono (write_two (B'.pure hp11) O hN hdS h94 fun b hb => ?_) ?_
        · have hb : b = w10.heap.size := by simpa [blkOf, ha94] using hb
          subst hb
          refine ⟨by omega, ?_⟩
          cases ho : r.o w10.heap.size with
          | none => rfl
          | some k => have := B'.b.lt w10.heap.size (by rw [ho]; simp); omega
        · rintro e w12 ⟨rfl, P⟩
          exact ⟨_, rfl, by rw [fin _ _ rfl], P⟩
      · obtain ⟨l94, w14, hr14, hp14, h94, ha94, hz14⟩ := conv_new (P := Tryz.prog) u9 u29 u5 by_ hsz w9
        have hS14 := hSp hS9 hp14
        exact ⟨l94, w14, hr14, hS14, both (B9.pure hp14) hS14 (h83.pu hp14) h94 (fun b hb => ⟨by have := (o83 b hb).1; omega, (o83 b hb).2⟩) (newout (wb := w14) B9 ha94 hz14)⟩
    · obtain ⟨l94, w18, hr18, hp18, h94, ha94, hz18⟩ := conv_new (P := Tryz.prog) u9 u29 u5 by_ hsz w2
      have B18 := B2.pure hp18
      have hS18 := hSp hS2 hp18
      have o94 := newout (wb := w18) B2 ha94 hz18
      obtain ⟨l83, w19, hr19, hp19, h83, ha83, hz19⟩ := conv_new (P := Tryz.prog) u9 u29 u5 by_ hsz w18
      have hS19 := hSp hS18 hp19
      exact ⟨l94, w18, hr18, hS18, l83, w19, hr19, hS19, both (B18.pure hp19) hS19 h83 (h94.pu hp19) (newout (wb := w19) B18 ha83 hz19) (fun b hb => ⟨by have := (o94 b hb).1; omega, (o94 b hb).2⟩)⟩
  · -- locking
    refine dwE_intro fun w2 hp2 _ => ?_
    have hS2 := hSp hS1 hp2
    refine ⟨S, hS2, n1, hc1, name, hc4, n2, hc2, n3, hc3, n1, hc1, name, hc4, n2, hc2, n3, hc3, ?_⟩
    refine Calls.mono (two_lock (B1.pure hp2) O hN n1 name n2 n3) ?_
    rintro e w3 ⟨n, rfl, hf, hcall⟩
    refine ⟨n, rfl, hSf hS2 hf, Calls.mono hcall ?_⟩
    rintro e w4 ⟨rfl, P⟩
    exact ⟨n, rfl, by simp, P⟩
  · -- unlocking
    refine dwE_intro fun w2 hp2 _ => ?_
    have hS2 := hSp hS1 hp2
    refine ⟨S, hS2, n1, hc1, name, hc4, n2, hc2, n3, hc3, n1, hc1, name, hc4, n2, hc2, n3, hc3, ?_⟩
    refine Calls.mono (two_unlock (B1.pure hp2) O hN n1 name n2 n3) ?_
    rintro e w3 ⟨n, rfl, hf, hcall⟩
    refine ⟨n, rfl, hSf hS2 hf, Calls.mono hcall ?_⟩
    rintro e w4 ⟨rfl, P⟩
    exact ⟨n, rfl, by simp, P⟩
  · -- flushing
    refine ⟨n1, hc1 _ hS1, name, hc4 _ hS1, ?_⟩
    refine Calls.mono (two_flush B1 O n1 name) ?_
    rintro e w3 ⟨a, b, rfl, hf, hcall⟩
    have hS3 := hSf hS1 hf
    refine ⟨a, b, rfl, n1, hc1 _ hS3, name, hc4 _ hS3, Calls.mono hcall ?_⟩
    rintro e w4 ⟨rfl, P⟩
    exact ⟨a, b, rfl, Br.t (by simp) ⟨by simp, P⟩⟩
  · -- forgetting
    refine ⟨n1, hc1 _ hS1, name, hc4 _ hS1, ?_⟩
    refine Calls.mono (two_forget B1 O n1 name) ?_
    rintro e w3 ⟨a, b, rfl, hf, hcall⟩
    have hS3 := hSf hS1 hf
    refine ⟨a, b, rfl, n1, hc1 _ hS3, name, hc4 _ hS3, Calls.mono hcall ?_⟩
    rintro e w4 ⟨rfl, P⟩
    exact ⟨a, b, rfl, Br.t (by simp) ⟨by simp, P⟩⟩
  · -- falling
    refine ⟨n1, hc1 _ hS1, ?_⟩
    refine Calls.mono (two_fall B1 O hN n1) ?_
    rintro e w3 ⟨a, b, rfl, hf, hcall⟩
    have hS3 := hSf hS1 hf
    refine ⟨a, b, rfl, n1, hc1 _ hS3, Calls.mono hcall ?_⟩
    rintro e w4 ⟨rfl, P⟩
    exact ⟨a, b, rfl, Br.t (by simp) ⟨by simp, P⟩⟩
  · -- what is dirty
    refine ⟨n1, hc1 _ hS1, name, hc4 _ hS1, ?_⟩
    refine Calls.mono (two_dirty B1 O n1 name) ?_
    rintro e w3 ⟨l, c, zs, rfl, hf, hcall⟩
    have hS3 := hSf hS1 hf
    refine ⟨l, c, rfl, n1, hc1 _ hS3, name, hc4 _ hS3, Calls.mono hcall ?_⟩
    rintro e w4 ⟨l2, rfl, hr1, hr2, d', r', σ', ρ', B', O', hd, hr⟩
    refine ⟨l2, c, rfl, Calls.mono (sameInts_c hr1 hr2) ?_⟩
    rintro e w5 ⟨rfl, hp5⟩
    exact ⟨true, rfl, Br.t rfl ⟨by simp, d', r', σ', ρ', B'.pure hp5, O', hd, hr⟩⟩
  · -- files
    refine ⟨n0, hc0 _ hS1, n1, hc1 _ hS1, n2, hc2 _ hS1, n3, hc3 _ hS1, name, hc4 _ hS1, by_, hc5 _ hS1, ?_⟩
    refine Calls.mono (files_c B1 O hN _ n0 n1 n2 n3 name by_) ?_
    rintro e w3 ⟨rfl, P⟩
    exact ⟨true, rfl, rfl, P⟩
end Go.Proofs.YtnigfiljenfgjaaGreat

/- The disk: scripts that are handed in; the law. No condition. -/
set_option maxRecDepth 100000
set_option linter.unusedVariables false
set_option linter.unusedSimpArgs false
namespace Go.Proofs.YtnigfiljenfgjaaGreat
open Go.Sh Go.RowKit

structure Act where
  kind : Int
  u : Int
  at_ : Int
  n : Int
  name : ByteArray
  data : ByteArray
def intOk (n : Int) : Prop := -9223372036854775808 <= n /\ n <= 9223372036854775807
def Act.ok (a : Act) : Prop := intOk a.kind /\ intOk a.u /\ intOk a.at_ /\ intOk a.n
def Act.vals (a : Act) : List Value := [.int .i64 a.kind, .int .i64 a.u, .int .i64 a.at_, .int .i64 a.n, .string a.name, .string a.data]
instance : Enc Act where
  sz := 6
  rd _ vs a := vs = a.vals /\ a.ok
  len h := by rw [h.1]; rfl
  pu _ h := h
instance : Lim Act := ⟨fun a => Lim.ok a.name /\ Lim.ok a.data⟩
theorem actAt {w : World} {s : SV} {l : List Act} (h : RdSl w s l) {i : Nat} {x : Act} (hx : l[i]? = some x) : ∃ a, s.a = some a /\ i < s.len /\ x.ok /\ w.cell? ((a.add (i * 6)).add 0) = some (.int .i64 x.kind) /\ w.cell? ((a.add (i * 6)).add 1) = some (.int .i64 x.u) /\ w.cell? ((a.add (i * 6)).add 2) = some (.int .i64 x.at_) /\
    w.cell? ((a.add (i * 6)).add 3) = some (.int .i64 x.n) /\ w.cell? ((a.add (i * 6)).add 4) = some (.string x.name) /\ w.cell? ((a.add (i * 6)).add 5) = some (.string x.data) := by
  obtain ⟨a, ha, vs, h1, h2⟩ := h.get i x hx
  obtain ⟨rfl, hok⟩ : vs = x.vals /\ x.ok := h1
  have hi : i < l.length := (List.getElem?_eq_some_iff.1 hx).1
  have h2 : CellsAt w (a.add (i * 6)) x.vals := h2
  exact ⟨a, ha, by rw [h.len]; exact hi, hok, h2 0 _ rfl, h2 1 _ rfl, h2 2 _ rfl, h2 3 _ rfl, h2 4 _ rfl, h2 5 _ rfl⟩
open Go.ChangeShapes Go.WideShapes Go.ChangeAt in
theorem opens_act : Opens Tryz.prog 31 Act := fun H enc w base sp held fuel cs x h hr => by
  obtain ⟨hl, hF⟩ := open_fields (P := Tryz.prog) (t := 31) (ts := [(3, 0), (3, 1), (3, 2), (3, 3), (9, 4), (9, 5)]) (by kernel_rfl) (by rfl) (fun p hp => by
    simp only [List.mem_cons, List.not_mem_nil, or_false] at hp
    rcases hp with rfl | rfl | rfl | rfl | rfl | rfl <;> kernel_rfl) (by kernel_rfl) h
  obtain ⟨n0, v0, d0, c0, t0, w0⟩ := hF 0 _ rfl
  obtain ⟨n1, v1, d1, c1, t1, w1⟩ := hF 1 _ rfl
  obtain ⟨n2, v2, d2, c2, t2, w2⟩ := hF 2 _ rfl
  obtain ⟨n3, v3, d3, c3, t3, w3⟩ := hF 3 _ rfl
  obtain ⟨n4, v4, d4, c4, t4, w4⟩ := hF 4 _ rfl
  obtain ⟨n5, v5, d5, c5, t5, w5⟩ := hF 5 _ rfl
  obtain ⟨x0, r0, l0⟩ := field_as (opens_int (by kernel_rfl)) t0 fun m hm => hr m (w0 m hm)
  obtain ⟨x1, r1, l1⟩ := field_as (opens_int (by kernel_rfl)) t1 fun m hm => hr m (w1 m hm)
  obtain ⟨x2, r2, l2⟩ := field_as (opens_int (by kernel_rfl)) t2 fun m hm => hr m (w2 m hm)
  obtain ⟨x3, r3, l3⟩ := field_as (opens_int (by kernel_rfl)) t3 fun m hm => hr m (w3 m hm)
  obtain ⟨x4, r4, l4⟩ := field_as (opens_str (by kernel_rfl)) t4 fun m hm => hr m (w4 m hm)
  obtain ⟨x5, r5, l5⟩ := field_as (opens_str (by kernel_rfl)) t5 fun m hm => hr m (w5 m hm)
  obtain ⟨r0, b0⟩ := r0
  obtain ⟨r1, b1⟩ := r1
  obtain ⟨r2, b2⟩ := r2
  obtain ⟨r3, b3⟩ := r3
  have r4 : [v4] = [.string x4] := r4
  have r5 : [v5] = [.string x5] := r5
  simp only [List.cons.injEq, and_true] at r0 r1 r2 r3 r4 r5
  subst r0 r1 r2 r3 r4 r5
  refine ⟨⟨x0, x1, x2, x3, x4, x5⟩, ⟨?_, b0, b1, b2, b3⟩, ⟨l4, l5⟩⟩
  have hl : cs.length = 6 := hl
  apply List.ext_getElem?
  intro i
  match i with
  | 0 => exact c0
  | 1 => exact c1
  | 2 => exact c2
  | 3 => exact c3
  | 4 => exact c4
  | 5 => exact c5
  | k + 6 => rw [List.getElem?_eq_none (by omega)]; rfl

def totA (l : List Act) : Nat := (l.map fun a => a.name.size + a.data.size).sum
theorem totA_snoc (l : List Act) (a : Act) : totA (l ++ [a]) = totA l + (a.name.size + a.data.size) := by simp [totA]
theorem totA_mem {l : List Act} {a : Act} (h : a ∈ l) : a.data.size <= totA l := by
  induction l with
  | nil => cases h
  | cons b l ih =>
    simp only [totA, List.map_cons, List.sum_cons] at *
    rcases List.mem_cons.1 h with rfl | h
    · omega
    · have := ih h; omega
theorem totA_le : ∀ (l : List Act), Lim.ok l -> totA l <= l.length * 281474976710656
  | [], _ => by simp [totA]
  | a :: l, h => by
    have h1 := totA_le l fun x hx => h x (List.mem_cons_of_mem _ hx)
    have h2 : Lim.ok a := h a (List.mem_cons_self ..)
    have h3 : a.name.size <= 140737488355328 := h2.1
    have h4 : a.data.size <= 140737488355328 := h2.2
    simp only [totA, List.map_cons, List.sum_cons, List.length_cons] at *
    omega
theorem over_c (w : World) (s : SV) (l : List Act) (h : RdSl w s l) (hlim : Lim.ok l) : Calls Tryz.prog 7 #[.slice s.a s.len s.cap] w fun e w' => ∃ b : Bool, e = .returned (.bool b) /\ Pu w w' /\ (b = false -> l.length <= 200 /\ ∀ x ∈ l, x.data.size <= 100000) := by
  refine F7_calls s w _ ?_
  have hlen := h.len
  have hl2 := h.lim
  refine loopUp l.length (fun k t w' => t.2 = (k : Int) /\ Pu w w' /\ (l.length <= 200 -> t.1 = ((totA (l.take k) : Nat) : Int))) ⟨rfl, Pu.refl _, fun _ => by simp [totA]⟩ ?_
  rintro k J ⟨n3, t⟩ w2 hk ⟨ht, hp2, hsum⟩ hJ
  obtain rfl : t = (k : Int) := ht
  dsimp only at hsum ⊢
  refine Br.of (fun d1 => ?_) (fun d1 => ?_)
  · have hkn : k < l.length := by have := dtrue d1; omega
    refine dwE_intro fun w3 hp3 _ => ?_
    obtain ⟨x, hx⟩ := at_k hkn
    obtain ⟨a, ha, hi, hok, c0, c1, c2, c3, c4, c5⟩ := actAt ((h.pu hp2).pu hp3) hx
    refine ⟨a, ha, by omega, by omega, x.name, by rw [Int.toNat_natCast]; exact c4, a, ha, by omega, by omega, x.data, by rw [Int.toNat_natCast]; exact c5, ?_⟩
    rw [wrap_in (n := (k : Int) + 1) (by omega) (by omega)]
    have htk : l.take (k + 1) = l.take k ++ [x] := by rw [List.take_add_one, hx]; rfl
    refine hJ _ _ hkn ⟨rfl, hp2.trans hp3, fun h200 => ?_⟩
    have hx2 : Lim.ok x := hlim x (List.mem_of_getElem? hx)
    have h3 : x.name.size <= 140737488355328 := hx2.1
    have h4 : x.data.size <= 140737488355328 := hx2.2
    have h5 := totA_le (l.take k) fun y hy => hlim y (List.mem_of_mem_take hy)
    rw [List.length_take, Nat.min_eq_left (by omega)] at h5
    show IntKind.i64.wrap (n3 + IntKind.i64.wrap (((x.name.size : Nat) : Int) + ((x.data.size : Nat) : Int))) = _
    rw [hsum h200, wrap_in (n := ((x.name.size : Nat) : Int) + ((x.data.size : Nat) : Int)) (by omega) (by omega), wrap_in (by omega) (by omega), htk, totA_snoc]
    omega
  · have hkn : k = l.length := by have := dfalse d1; omega
    subst hkn
    rw [List.take_length] at hsum
    refine Br.of (fun d2 => ⟨true, rfl, hp2, fun h => by cases h⟩) (fun d2 => ⟨_, rfl, hp2, fun hb => ?_⟩)
    have h200 : l.length <= 200 := by have := dfalse hb; omega
    have h1 := dfalse d2
    rw [hsum h200] at h1
    exact ⟨h200, fun x hx => by have := totA_mem hx; omega⟩

theorem min_run (ts : Array TypeId) (r : TypeId) (k : IntKind) (a b : Int) (w : World) : (Builtin.min_ ts r #[.int k a, .int k b]).run Tryz.prog w = .ok (.int k (min a b)) w := by
  rw [run_min_int2]; congr 2; omega
theorem newLay_own (n : Nat) : ∀ x ∈ (newLay n).own, n <= x := fun x hx => by
  simp [newLay, Lay.own, blkOf] at hx
  omega
set_option maxHeartbeats 1000000 in
theorem diskReads_c (w : World) (s : SV) (l : List Act) (h : RdSl w s l) (hlim : Lim.ok l) (x : ByteArray) (hx : Lim.ok x) : Calls Tryz.prog 3 #[.slice s.a s.len s.cap, .string x] w fun e w' => e = .returned (.bool true) /\ Pu w w' := by
  refine F3_calls s x w _ ?_
  refine Calls.mono (over_c w s l h hlim) ?_
  rintro e w1 ⟨b, rfl, hp1, hb⟩
  have fin : ∀ w2, Pu w w2 -> Calls Tryz.prog 8 #[] w2 fun e w11 => ∃ b18 : Bool, e = .returned (.bool b18) /\ runD Tryz.prog [] w11 fun w12 => (Ending.returned (.bool b18) = Ending.returned (.bool true) /\ Pu w w12) := fun w2 hp2 => by
    refine Calls.mono (known_c w2) ?_
    rintro e w3 ⟨rfl, hp3⟩
    exact ⟨true, rfl, rfl, hp2.trans hp3⟩
  refine ⟨b, rfl, Br.of (fun d1 => fin w1 hp1) (fun d1 => Br.of (fun d2 => fin w1 hp1) (fun d2 => ?_))⟩
  obtain ⟨h200, hdat⟩ := hb d1
  refine Calls.mono (new_c w1) ?_
  rintro e w2 ⟨rfl, hA, hp2⟩
  refine ⟨some ⟨(newLay w1.heap.size).S, 0, none⟩, rfl, ?_⟩
  refine Calls.mono (rNew_c w2) ?_
  rintro e w3 ⟨r, rfl, hB, hp3, hnB⟩
  refine ⟨some ⟨r.S, 0, none⟩, rfl, false, w3, eqS_ptr_nil u23 _ _ _ w3, ?_⟩
  refine Br.f rfl ?_
  have hz1 := hp1.size
  have hz2 := hp2.size
  generalize hd : newLay w1.heap.size = d at hA
  have hown : ∀ y ∈ d.own, w1.heap.size <= y := by rw [← hd]; exact newLay_own _
  have B0 : Base w w3 d r Sys.new RSys.new := ⟨hA.pu hp3, hB, fun y hy => by
    cases ho : r.o y with
    | none => rfl
    | some k => have := hnB y (by rw [ho]; simp); have := hA.lt y hy; omega, (hp1.trans hp2).trans hp3, fun y hy => by have := hown y hy; omega, fun y hy => by have := hnB y hy; omega⟩
  have hlen := h.len
  refine loopUp l.length (fun k t w' => t = (k : Int) /\ ∃ d' r' σ ρ, Base w w' d' r' σ ρ /\ Ok k σ ρ /\ d'.S = d.S /\ r'.S = r.S) ⟨rfl, d, r, _, _, B0, Ok.new, rfl, rfl⟩ ?_
  rintro k J t w4 hk ⟨rfl, d', r', σ, ρ, B, O, hdS, hrS⟩ hJ
  refine Br.of (fun d3 => ?_) (fun d3 => ?_)
  · have hkn : k < l.length := by have := dtrue d3; omega
    obtain ⟨y, hy⟩ := at_k hkn
    obtain ⟨a, ha, hi, hok, c0, c1, c2, c3, c4, c5⟩ := actAt (h.pu B.pu) hy
    refine ⟨a, ha, by omega, by omega, y.kind, by rw [Int.toNat_natCast]; exact c0, y.u, by rw [Int.toNat_natCast]; exact c1, y.at_, by rw [Int.toNat_natCast]; exact c2, y.n, by rw [Int.toNat_natCast]; exact c3, y.name, by rw [Int.toNat_natCast]; exact c4, y.data, by rw [Int.toNat_natCast]; exact c5, ?_⟩
    have hc := played_c B O (by omega) y.kind y.u y.at_ y.n y.name y.data (hdat y (List.mem_of_getElem? hy))
    rw [Lay.ptr, RLay.ptr, hdS, hrS] at hc
    refine Calls.mono hc ?_
    rintro e w5 ⟨rfl, d2, r2, σ2, ρ2, B2, O2, e1, e2⟩
    refine ⟨true, rfl, Br.f rfl ?_⟩
    rw [wrap_in (by omega) (by omega)]
    exact hJ _ _ hkn ⟨rfl, d2, r2, σ2, ρ2, B2, O2, e1.trans hdS, e2.trans hrS⟩
  · have hkn : k = l.length := by have := dfalse d3; omega
    subst hkn
    have hc := rSize_c B.b x
    rw [RLay.ptr, hrS] at hc
    refine Calls.mono hc ?_
    rintro e w5 ⟨rfl, hp5⟩
    refine ⟨_, _, rfl, ?_⟩
    generalize ((rSize x ρ : Nat) : Int) = n8
    refine loopUp 4 (fun j t w' => t = (j : Int) /\ ∃ d' r' σ ρ, Base w w' d' r' σ ρ /\ Ok (l.length + j) σ ρ /\ d'.S = d.S /\ r'.S = r.S) ⟨rfl, d', r', σ, ρ, B.pure hp5, O, hdS, hrS⟩ ?_
    rintro j J2 t w6 hj ⟨rfl, d6, r6, σ6, ρ6, B6, O6, hdS6, hrS6⟩ hJ2
    refine Br.of (fun d4 => ?_) (fun d4 => ?_)
    · have hj4 : j < 4 := by have := dtrue d4; omega
      refine ⟨_, w6, min_run _ _ _ _ _ _, ?_⟩
      have hc := played_c B6 O6 (by omega) 5 (j : Int) 0 (min n8 4000) x ⟨#[]⟩ (by decide)
      rw [Lay.ptr, RLay.ptr, hdS6, hrS6] at hc
      refine Calls.mono hc ?_
      rintro e w7 ⟨rfl, d2, r2, σ2, ρ2, B2, O2, e1, e2⟩
      refine ⟨true, rfl, Br.f rfl ?_⟩
      rw [wrap_in (by omega) (by omega)]
      exact hJ2 _ _ hj4 ⟨rfl, d2, r2, σ2, ρ2, B2, O2, e1.trans hdS6, e2.trans hrS6⟩
    · exact fin w6 B6.pu
end Go.Proofs.YtnigfiljenfgjaaGreat
