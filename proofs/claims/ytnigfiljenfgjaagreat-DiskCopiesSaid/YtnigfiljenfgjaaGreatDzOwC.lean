import Derived.Test.YtnigfiljenfgjaaGreatDzOwB
import Derived.Laws.BytesString
import Derived.Test.YtnigfiljenfgjaaGreatShSixteen
import Derived.Test.YtnigfiljenfgjaaGreatDzPrA
import Derived.Test.YtnigfiljenfgjaaGreatShTwentyOne
import Derived.Test.YtnigfiljenfgjaaGreatShEighteen
/- The disk: what stays right of a system; small computations. -/
set_option maxRecDepth 100000
set_option linter.unusedVariables false
set_option linter.unusedSimpArgs false
set_option linter.unusedSectionVars false
namespace Go.Proofs.YtnigfiljenfgjaaGreat
open Go.Sh Go.RowKit
theorem conv_str {w : World} {l : SV} {bs : List UInt8} (h : RowAt w 5 1 l (bs.map u8V)) : ∃ s : ByteArray, (convert 36 9 (.slice l.a l.len l.cap)).run Tryz.prog w = .ok (.string s) w /\ s.data.toList = bs := by
  have hl := u8V_map_len bs h
  rw [run_convert_bytes_string w 36 9 5 l.a l.len l.cap u29 u5 u9]
  have key : ∀ (xs : List UInt8) (acc : ByteArray), ((xs.map fun x : UInt8 => ((x.toNat : Nat) : Int)).foldl (fun r n => r.push (UInt8.ofNat n.toNat)) acc).data.toList = acc.data.toList ++ xs := by
    intro xs
    induction xs with
    | nil => intro acc; simp
    | cons x xs ih =>
      intro acc
      simp only [List.map_cons, List.foldl_cons, ih]
      have hx : UInt8.ofNat ((x.toNat : Int)).toNat = x := by simp
      rw [hx]
      have : (acc.push x).data.toList = acc.data.toList ++ [x] := by simp [ByteArray.push]
      rw [this]; simp
  cases ha : l.a with
  | none =>
    have hln : l = ⟨none, 0, 0⟩ := by
      obtain ⟨_, h' | ⟨g, _, h', _⟩⟩ := h
      · exact h'
      · rw [ha] at h'; cases h'
    have hbs : bs = [] := List.eq_nil_of_length_eq_zero (by rw [← hl, hln])
    refine ⟨ByteArray.empty, ?_, by rw [hbs]; rfl⟩
    rfl
  | some a =>
    have hload : (loadCells a l.len).run Tryz.prog w = .ok ((bs.map fun x : UInt8 => ((x.toNat : Nat) : Int)).map (Value.int .u8)).toArray w := by
      have := run_loadCells_list (P := Tryz.prog) w a (bs.map u8V) fun j v hv => by
        obtain ⟨a', ha', hc, _⟩ := h.cell hv
        rw [ha] at ha'; cases ha'; exact hc
      rw [List.length_map, ← hl] at this
      rw [this]; simp [u8V, Function.comp_def]
    refine ⟨_, run_bytesToString w a l.len l.cap _ hload, ?_⟩
    rw [key]; rfl
theorem wrF_one (pg : Page) (kk j0 : Nat) (f : List UInt8) (hd : ∀ j, j < 32 -> (pg.di j = true ↔ j = j0)) : ∀ m, m <= 32 -> wrF pg kk f m = (if j0 < m then f.set (kk * 32 + j0) (pg.b j0) else f) /\ wrN pg m = if j0 < m then 1 else 0
  | 0, _ => by simp [wrF, wrN]
  | m + 1, hm => by
    obtain ⟨h1, h2⟩ := wrF_one pg kk j0 f hd m (by omega)
    simp only [wrF, wrN, h1, h2]
    by_cases e : m = j0
    · subst e
      have : pg.di m = true := (hd m (by omega)).2 rfl
      simp [this]
    · have : ¬ pg.di m = true := fun h => e ((hd m (by omega)).1 h)
      have e2 : j0 < m + 1 ↔ j0 < m := by omega
      simp [this, e2]
def Sizes (N : Nat) (σ : Sys) : Prop := ∀ u, u < 4 -> (σ.caches u).length <= N
def PgOk (kk : Nat) (len : Nat) (pg : Page) : Prop := ∀ j, j < 32 -> (pg.kn j = true ∨ pg.di j = true) -> kk * 32 + j < len
theorem PgOk.fetch {kk : Nat} {f : List UInt8} {pg : Page} (h : PgOk kk f.length pg) (m : Nat) : PgOk kk f.length (fetchP f kk m pg) := fun j hj hkd => by
  simp only [fetchP, Bool.or_eq_true, decide_eq_true_eq] at hkd
  rcases hkd with (hk | hk) | hk
  · exact h j hj (.inl hk)
  · exact hk.2
  · exact h j hj (.inr hk)
theorem PgOk.want {kk at_ n : Nat} {f : List UInt8} {pg : Page} (h : PgOk kk f.length pg) (m : Nat) : PgOk kk f.length (wantP at_ n f kk m pg) := fun j hj hkd => by
  simp only [wantP, Bool.or_eq_true, decide_eq_true_eq] at hkd
  rcases hkd with (hk | hk) | hk
  · exact h j hj (.inl hk)
  · exact hk.2.2
  · exact h j hj (.inr hk)
theorem PgOk.zero (kk len : Nat) : PgOk kk len Page.zero := fun j _ h => by simp [Page.zero] at h
theorem Good.pgOk {σ : Sys} (h : Good σ) {u : Nat} (hu : u < 4) {name : ByteArray} {kk : Nat} {f : List UInt8} (hf : AL.get σ.files name = some f) (at_ n : Nat) : PgOk kk f.length (pageR σ u name kk at_ n f) := by
  unfold pageR
  cases hg : AL.get (σ.caches u) (name, (kk : Int)) with
  | none => exact (PgOk.zero kk _).fetch 32
  | some p =>
    obtain ⟨f', hf', hfi⟩ := h.file u hu _ (AL.get_mem hg)
    simp only at hf' hfi
    rw [hf] at hf'; cases hf'
    exact PgOk.want (fun j hj hkd => by have := hfi j hj hkd; simpa using this) 32
theorem Good.setPage {σ : Sys} (h : Good σ) {u : Nat} (hu : u < 4) {name : ByteArray} {kk : Nat} (hkk : kk <= 1000000) {f : List UInt8} (hf : AL.get σ.files name = some f) {pg : Page} (hp : PgOk kk f.length pg) {N : Nat} (hN : Sizes N σ) (hN1 : N + 1 <= 1000000) :
    Good (σ.setCache u (AL.put (σ.caches u) (name, (kk : Int)) pg)) /\ Sizes (N + 1) (σ.setCache u (AL.put (σ.caches u) (name, (kk : Int)) pg)) := by
  have hlen : (AL.put (σ.caches u) (name, (kk : Int)) pg).length <= (σ.caches u).length + 1 := by
    cases hg : AL.get (σ.caches u) (name, (kk : Int)) with
    | none => rw [AL.put_new hg]; simp
    | some p => rw [AL.length_put_old (by rw [hg]; simp)]; omega
  have hS : Sizes (N + 1) (σ.setCache u (AL.put (σ.caches u) (name, (kk : Int)) pg)) := fun v hv => by
    simp only [Sys.setCache]
    split
    · have := hN u hu; omega
    · have := hN v hv; omega
  have hmem : ∀ v, v < 4 -> ∀ q ∈ (σ.setCache u (AL.put (σ.caches u) (name, (kk : Int)) pg)).caches v, q = ((name, (kk : Int)), pg) ∨ q ∈ σ.caches v := fun v hv q hq => by
    simp only [Sys.setCache] at hq
    split at hq
    · rename_i e; subst e; exact AL.mem_put hq
    · exact .inr hq
  refine ⟨⟨h.small, fun v hv q hq => ?_, fun v hv => Nat.le_trans (hS v hv) hN1, fun v hv q hq => ?_⟩, hS⟩
  · rcases hmem v hv q hq with rfl | hq
    · exact ⟨by simp, by simp; omega⟩
    · exact h.near v hv q hq
  · rcases hmem v hv q hq with rfl | hq
    · exact ⟨f, hf, fun i hi hkd => by simpa using hp i hi hkd⟩
    · exact h.file v hv q hq
def StepOk {τ : Type} (step : τ -> Page -> Nat -> Nat -> τ × Page) (at_ n len : Nat) : Prop := ∀ t pg i k kk, at_ + k = kk * 32 + i -> i < 32 -> k < n -> PgOk kk len pg -> PgOk kk len (step t pg i k).2
theorem stepOk_write (bs : List UInt8) {at_ n len : Nat} (h : at_ + n <= len) : StepOk (wstep bs) at_ n len := fun t pg i k kk e hi hk hp j hj hkd => by
  simp only [wstep, upN] at hkd
  by_cases ej : j = i
  · subst ej; omega
  · simp only [ej, if_false] at hkd; exact hp j hj hkd
theorem stepOk_read {at_ n len : Nat} : StepOk rstep at_ n len := fun t pg i k kk e hi hk hp => hp
theorem innerS_ok {τ : Type} {step : τ -> Page -> Nat -> Nat -> τ × Page} {at_ n len : Nat} (hs : StepOk step at_ n len) {t : τ} {pg : Page} {i k kk : Nat} (e : at_ + k = kk * 32 + i) (hp : PgOk kk len pg) : ∀ m, i + m <= 32 -> k + m <= n -> PgOk kk len (innerS step t pg i k m).2
  | 0, _, _ => hp
  | m + 1, h1, h2 => hs _ _ _ _ kk (by omega) (by omega) (by omega) (innerS_ok hs e hp m (by omega) (by omega))
theorem eachS_good {τ : Type} {step : τ -> Page -> Nat -> Nat -> τ × Page} {at_ n : Nat} {f : List UInt8} (hs : StepOk step at_ n f.length) {u : Nat} (hu : u < 4) {name : ByteArray} (hfl : f.length <= 1000000) (hat : at_ + n <= f.length) :
    ∀ (fuel : Nat) (σ : Sys) (t : τ) (k N : Nat), Good σ -> AL.get σ.files name = some f -> Sizes N σ -> N + (if k < n then (at_ + n - 1) / 32 - (at_ + k) / 32 + 1 else 0) <= 1000000 ->
      Good (eachS step u name at_ n f fuel σ t k).1 /\ (eachS step u name at_ n f fuel σ t k).1.files = σ.files /\ (eachS step u name at_ n f fuel σ t k).1.locks = σ.locks /\ Sizes (N + (if k < n then (at_ + n - 1) / 32 - (at_ + k) / 32 + 1 else 0)) (eachS step u name at_ n f fuel σ t k).1
  | 0, σ, t, k, N, hG, hf, hN, hb => ⟨hG, rfl, rfl, fun v hv => Nat.le_trans (hN v hv) (Nat.le_add_right _ _)⟩
  | fuel + 1, σ, t, k, N, hG, hf, hN, hb => by
    unfold eachS
    by_cases hk : k < n
    · simp only [hk, if_true] at hb ⊢
      obtain ⟨m, hm⟩ : ∃ m, m = min (32 - (at_ + k) % 32) (n - k) := ⟨_, rfl⟩
      rw [← hm]
      have hp := innerS_ok hs (t := t) (i := (at_ + k) % 32) (k := k) (kk := (at_ + k) / 32) (by omega) (hG.pgOk hu hf at_ n (kk := (at_ + k) / 32)) m (by omega) (by omega)
      obtain ⟨hG', hN'⟩ := hG.setPage hu (by omega) hf hp hN (by omega)
      have := eachS_good hs hu hfl hat fuel _ (innerS step t (pageR σ u name ((at_ + k) / 32) at_ n f) ((at_ + k) % 32) k m).1 (k + m) (N + 1) hG' hf hN' (by split <;> omega)
      refine ⟨this.1, this.2.1, this.2.2.1, fun v hv => Nat.le_trans (this.2.2.2 v hv) (by split <;> omega)⟩
    · simp only [hk, if_false]
      exact ⟨hG, trivial, trivial, fun v hv => Nat.le_trans (hN v hv) (Nat.le_add_right _ _)⟩
end Go.Proofs.YtnigfiljenfgjaaGreat

/- The disk: the law that is in each statement: a station sees an old byte until it locks it. -/
set_option maxRecDepth 100000
set_option linter.unusedVariables false
set_option linter.unusedSimpArgs false
set_option linter.unusedSectionVars false
namespace Go.Proofs.YtnigfiljenfgjaaGreat
open Go.Sh Go.RowKit
def nF : ByteArray := ⟨#[70]⟩
theorem isNm_F : isNm nF := by decide
theorem enter_F {u : Int} (h0 : 0 <= u) (h4 : u < 4) {σ : Sys} {f : List UInt8} (hf : AL.get σ.files nF = some f) : enterC u nF σ = 0 := by
  unfold enterC
  rw [if_neg (by rintro (h | h | h); omega; omega; exact h isNm_F), hf]; rfl
theorem fileOf_eq {σ : Sys} {name : ByteArray} {f : List UInt8} (hf : AL.get σ.files name = some f) : fileOf σ name = f := by simp [fileOf, hf]
theorem each_one {τ : Type} (step : τ -> Page -> Nat -> Nat -> τ × Page) (u : Nat) (name : ByteArray) (at_ : Nat) (f : List UInt8) (σ : Sys) (t : τ) : eachS step u name at_ 1 f 1 σ t 0 =
    (σ.setCache u (AL.put (σ.caches u) (name, ((at_ / 32 : Nat) : Int)) (step t (pageR σ u name (at_ / 32) at_ 1 f) (at_ % 32) 0).2), (step t (pageR σ u name (at_ / 32) at_ 1 f) (at_ % 32) 0).1) := by
  have hm : min (32 - at_ % 32) (1 - 0) = 1 := by omega
  simp only [eachS, Nat.lt_one_iff, if_true, Nat.add_zero, hm, innerS]
theorem read1 {σ : Sys} {u : Nat} (hu : u < 4) {f : List UInt8} (hf : AL.get σ.files nF = some f) {at_ : Nat} (hat : at_ < f.length) : readC (u : Int) nF (at_ : Int) 1 σ = 0 /\
    readR (u : Int) nF (at_ : Int) 1 σ = (σ.setCache u (AL.put (σ.caches u) (nF, ((at_ / 32 : Nat) : Int)) (pageR σ u nF (at_ / 32) at_ 1 f)), [(pageR σ u nF (at_ / 32) at_ 1 f).b (at_ % 32)]) := by
  have hc : readC (u : Int) nF (at_ : Int) 1 σ = 0 := by
    unfold readC
    rw [enter_F (by omega) (by omega) hf, fileOf_eq hf, if_pos rfl, if_neg (by omega), if_neg (by omega), if_neg (by omega), if_neg (by omega)]
  refine ⟨hc, ?_⟩
  simp only [readR, hc, if_true, fileOf_eq hf, Int.toNat_natCast]
  rw [show (1 : Int).toNat = 1 by rfl, each_one]
  rfl
def wpg (pg : Page) (i : Nat) (x : UInt8) : Page := { b := upN pg.b i x, kn := upN pg.kn i true, di := upN pg.di i true }
theorem write1 {σ : Sys} {u : Nat} (hu : u < 4) {f : List UInt8} (hf : AL.get σ.files nF = some f) {at_ : Nat} (hat : at_ < f.length) (x : UInt8) : writeC (u : Int) nF (at_ : Int) [x] σ = 0 /\
    writeS (u : Int) nF (at_ : Int) [x] σ = σ.setCache u (AL.put (σ.caches u) (nF, ((at_ / 32 : Nat) : Int)) (wpg (pageR σ u nF (at_ / 32) at_ 1 f) (at_ % 32) x)) := by
  have hc : writeC (u : Int) nF (at_ : Int) [x] σ = 0 := by
    unfold writeC
    rw [enter_F (by omega) (by omega) hf, fileOf_eq hf, if_pos rfl, if_neg (by omega), if_neg (by omega), if_neg (by simp; omega)]
  refine ⟨hc, ?_⟩
  simp only [writeS, hc, if_true, fileOf_eq hf, Int.toNat_natCast, List.length_singleton]
  rw [each_one]
  rfl
def base (n : Nat) : Sys := ⟨[(nF, List.replicate n 0)], fun _ => [], []⟩
theorem make_new : makeC nF Sys.new = 0 /\ makeS nF Sys.new = base 0 := by
  have he : enterC 0 nF Sys.new = 4 := by
    unfold enterC
    rw [if_neg (by rintro (h | h | h); omega; omega; exact h isNm_F)]; rfl
  have hc : makeC nF Sys.new = 0 := by unfold makeC; rw [he]; rfl
  exact ⟨hc, by simp only [makeS, hc, if_true]; rfl⟩
theorem base_file (n : Nat) : AL.get (base n).files nF = some (List.replicate n 0) := by simp [base, AL.get]
theorem shorts_base (n m : Nat) : ∀ k, shorts (base n) nF m k = base n
  | 0 => rfl
  | k + 1 => by
    simp only [shorts, shorts_base n m k, shortS]
    have : (base n).caches k = [] := rfl
    rw [this, List.filterMap_nil, ← this, setCache_self]
theorem resize_base {n : Nat} (hn : n <= 65536) : resizeC nF (n : Int) (base 0) = 0 /\ resizeS nF (n : Int) (base 0) = base n := by
  have hc : resizeC nF (n : Int) (base 0) = 0 := by
    unfold resizeC
    rw [enter_F (by omega) (by omega) (base_file 0), if_pos rfl, if_neg (by omega), if_neg (by omega)]
  refine ⟨hc, ?_⟩
  simp only [resizeS, hc, if_true, Int.toNat_natCast, fileOf_eq (base_file 0)]
  have : ({ base 0 with files := AL.put (base 0).files nF (sized (List.replicate 0 0) n) } : Sys) = base n := by
    simp [base, AL.put, sized]
  rw [this]; exact shorts_base n n 4
theorem good_base {n : Nat} (hn : n <= 1000000) : Good (base n) := by
  refine ⟨fun name f hf => ?_, fun u hu q hq => (by cases hq), fun u hu => Nat.zero_le _, fun u hu q hq => (by cases hq)⟩
  simp only [base, AL.get] at hf
  split at hf
  · cases hf; simpa using hn
  · cases hf
theorem sizes_base (n : Nat) : Sizes 0 (base n) := fun u hu => Nat.le_refl _
theorem flush1 {σ : Sys} {u kk : Nat} {pg : Page} (hc : σ.caches u = [((nF, (kk : Int)), pg)]) (hk : kk < 2048) {ps : List Place} (hp : ps.Perm (((σ.caches u).map Prod.fst).filter (inPages nF 0 65536))) :
    wrAll u nF ps (σ, 0) = (writtenS σ u nF kk, wrN pg 32) := by
  have hin : inPages nF 0 65536 (nF, (kk : Int)) = true := by
    show decide (nF = nF /\ (kk : Int) * 32 < 0 + 65536 /\ 0 < ((kk : Int) + 1) * 32) = true
    exact decide_eq_true ⟨rfl, by omega, by omega⟩
  rw [hc] at hp
  simp only [List.map_cons, List.map_nil, List.filter_cons, hin, if_true, List.filter_nil] at hp
  rw [List.perm_singleton.1 hp]
  have hpg : pageOf σ u (nF, (kk : Int)) = pg := by simp [pageOf, hc, AL.get]
  simp [wrAll, hpg]
theorem Left.next {w0 w w' : World} {d d' : Lay} {σ' : Sys} (hL : Left w w' d d' σ') (hp : Pu w0 w) (ho : ∀ b ∈ d.own, w0.heap.size <= b) : Pu w0 w' /\ ∀ b ∈ d'.own, w0.heap.size <= b :=
  ⟨hp.andNew hL.fr ho, fun b hb => (hL.own b hb).elim (ho b) fun h => Nat.le_trans hp.size h⟩
theorem Left.keep {w w' : World} {d d' : Lay} {σ' : Sys} (hL : Left w w' d d' σ') {l : SV} {vs : List Value} (hr : RowAt w 5 1 l vs) (hn : ∀ b ∈ blkOf l, b ∉ d.own) : RowAt w' 5 1 l vs /\ ∀ b ∈ blkOf l, b ∉ d'.own :=
  ⟨hr.fr hL.fr fun b hb => hn b hb, fun b hb ho => (hL.own b ho).elim (hn b hb) fun h => by have := hr.lt b hb; omega⟩
theorem Left.ptrEq {w w' : World} {d d' : Lay} {σ' : Sys} (hL : Left w w' d d' σ') : d.ptr = d'.ptr := by simp [Lay.ptr, hL.ptr]
theorem bytes_lit (s : ByteArray) (l : List UInt8) (h : s.data.toList = l) (t : ByteArray) (ht : t.data.toList = l) : (s.toList == t.toList) = true := by
  rw [toList_beq]
  have : s = t := by
    obtain ⟨⟨a⟩⟩ := s
    obtain ⟨⟨b⟩⟩ := t
    simp only at h ht
    rw [h, ht]
  simp [this]
theorem locksOk_nil {σ : Sys} (h : σ.locks = []) : LocksOk σ := ⟨fun l hl => (by rw [h] at hl; cases hl), by rw [h]; simp⟩
set_option maxHeartbeats 200000 in
theorem known_c (w : World) : Calls Tryz.prog 8 #[] w fun e w' => e = .returned (.bool true) /\ Pu w w' := by
  refine F8_calls w _ ?_
  refine Calls.mono (new_c w) ?_
  rintro e w1 ⟨rfl, h1, hp1⟩
  have ho1 : ∀ b ∈ (newLay w.heap.size).own, w.heap.size <= b := fun b hb => by
    simp [newLay, Lay.own, blkOf] at hb; omega
  generalize newLay w.heap.size = d at h1 ho1 ⊢
  refine ⟨some ⟨d.S, 0, none⟩, rfl, false, w1, eqS_ptr_nil u23 _ _ _ w1, ?_⟩
  obtain ⟨m1, m2⟩ := make_new
  refine Calls.mono (make_c h1 nF) ?_
  rintro e w2 ⟨rfl, d2, hL2⟩
  rw [m2] at hL2
  rw [m1]
  obtain ⟨hp2, ho2⟩ := hL2.next hp1 ho1
  refine ⟨0, rfl, ?_⟩
  obtain ⟨r1, r2⟩ := resize_base (n := 4) (by omega)
  show Calls Tryz.prog 24 #[d.ptr, .string nF, .int .i64 ((4 : Nat) : Int)] w2 _
  rw [hL2.ptrEq]
  refine Calls.mono (resize_c hL2.sys (good_base (by omega)).small (good_base (by omega)).near nF ((4 : Nat) : Int)) ?_
  rintro e w3 ⟨rfl, d3, hL3⟩
  rw [r2] at hL3
  rw [r1]
  obtain ⟨hp3, ho3⟩ := hL3.next hp2 ho2
  refine ⟨0, rfl, ?_⟩
  have hptr3 : d.ptr = d3.ptr := hL2.ptrEq.trans hL3.ptrEq
  -- station 0 reads
  have hf3 := base_file 4
  obtain ⟨q1, q2⟩ := read1 (σ := base 4) (u := 0) (by omega) hf3 (at_ := 0) (by simp)
  simp only [Nat.zero_div, Nat.zero_mod] at q2
  show Calls Tryz.prog 13 #[d.ptr, .int .i64 ((0 : Nat) : Int), .string nF, .int .i64 ((0 : Nat) : Int), .int .i64 1] w3 _
  rw [hptr3]
  refine Calls.mono (read_c hL3.sys (good_base (by omega)).small ((0 : Nat) : Int) nF ((0 : Nat) : Int) 1) ?_
  rintro e w4 ⟨l4, rfl, hL4, hr4, hb4⟩
  rw [q2] at hL4
  rw [q1]
  obtain ⟨hp4, ho4⟩ := hL4.next hp3 ho3
  refine ⟨l4, 0, rfl, ?_⟩
  generalize hA : pageR (base 4) 0 nF 0 0 1 (List.replicate 4 0) = pA at hL4
  have hA0 : pA.b 0 = 0 /\ pA.kn 0 = true /\ pA.di 0 = false := by rw [← hA]; exact ⟨rfl, rfl, rfl⟩
  obtain ⟨hG4, hN4⟩ := (good_base (n := 4) (by omega)).setPage (u := 0) (by omega) (name := nF) (kk := 0) (by omega) hf3 (pg := pA) (by rw [← hA]; exact (good_base (by omega)).pgOk (by omega) hf3 0 1) (sizes_base 4) (by omega)
  generalize hσ4 : (base 4).setCache 0 (AL.put ((base 4).caches 0) (nF, ((0 : Nat) : Int)) pA) = σ4 at hL4 hG4 hN4
  have hf4 : AL.get σ4.files nF = some (List.replicate 4 0) := by rw [← hσ4]; exact hf3
  have hc40 : σ4.caches 0 = [((nF, ((0 : Nat) : Int)), pA)] := by rw [← hσ4]; rfl
  have hc41 : σ4.caches 1 = [] := by rw [← hσ4]; rfl
  have hl4 : σ4.locks = [] := by rw [← hσ4]; rfl
  refine alE_intro fun w5 hw5 => ?_
  have hq5 : Pu w4 w5 := by rw [hw5]; exact Pu.alloc w4 _
  have hb5 : w5.heap[w4.heap.size]? = some (.cells #[.int .u8 7] 5) := by rw [hw5]; exact alloc_new w4 _
  have h5 := hL4.sys.pu hq5
  have hsl : RdSl w5 ⟨some ⟨w4.heap.size, 0, none⟩, 1, 1⟩ [(7 : UInt8)] := ⟨rfl, Nat.le_refl _, by simp, fun i x hx => by
    have hi : i = 0 := by cases i with
      | zero => rfl
      | succ i => simp at hx
    subst hi
    simp at hx; subst hx
    refine ⟨_, rfl, [.int .u8 7], rfl, fun j v hv => ?_⟩
    have hj : j = 0 := by cases j with
      | zero => rfl
      | succ j => simp at hv
    subst hj
    rw [add_def, add_def, cell_blk hb5]; simpa using hv⟩
  -- station 1 writes
  obtain ⟨q3, q4⟩ := write1 (σ := σ4) (u := 1) (by omega) hf4 (at_ := 0) (by simp) 7
  simp only [Nat.zero_div, Nat.zero_mod] at q4
  show Calls Tryz.prog 25 #[d.ptr, .int .i64 ((1 : Nat) : Int), .string nF, .int .i64 ((0 : Nat) : Int), .slice (some ⟨w4.heap.size, 0, none⟩) 1 1] w5 _
  rw [hptr3]
  have hwr := write_c h5 hG4.small ((1 : Nat) : Int) nF ((0 : Nat) : Int) (l := ⟨some ⟨w4.heap.size, 0, none⟩, 1, 1⟩) (bs := [7]) hsl fun b hb => by
    simp [blkOf] at hb; subst hb
    exact ⟨blk_lt hb5, fun ho => by have := hL4.sys.lt _ ho; omega⟩
  refine Calls.mono hwr ?_
  rintro e w6 ⟨rfl, hL6⟩
  rw [q4] at hL6
  rw [q3]
  obtain ⟨hp6, ho6⟩ := hL6.next (hp4.trans hq5) ho4
  refine ⟨0, rfl, ?_⟩
  generalize hB : wpg (pageR σ4 1 nF 0 0 1 (List.replicate 4 0)) 0 7 = pB at hL6
  have hpR : pageR σ4 1 nF 0 0 1 (List.replicate 4 0) = fetchP (List.replicate 4 0) 0 32 Page.zero := by simp [pageR, hc41, AL.get]
  have hBd : ∀ j, j < 32 -> (pB.di j = true ↔ j = 0) := fun j hj => by
    rw [← hB, hpR]; simp only [wpg, upN]
    by_cases e : j = 0
    · simp [e]
    · simp [e, fetchP, Page.zero]
  have hBb : pB.b 0 = 7 := by rw [← hB]; simp [wpg, upN]
  obtain ⟨hG6, hN6⟩ := hG4.setPage (u := 1) (by omega) (name := nF) (kk := 0) (by omega) hf4 (pg := pB) (by
    rw [← hB, hpR]
    intro j hj hkd
    by_cases e : j = 0
    · subst e; simp
    · simp only [wpg, upN, e, if_false] at hkd
      exact (PgOk.zero 0 _).fetch 32 j hj hkd) hN4 (by omega)
  generalize hσ6 : σ4.setCache 1 (AL.put (σ4.caches 1) (nF, ((0 : Nat) : Int)) pB) = σ6 at hL6 hG6 hN6
  have hf6 : AL.get σ6.files nF = some (List.replicate 4 0) := by rw [← hσ6]; exact hf4
  have hc60 : σ6.caches 0 = [((nF, ((0 : Nat) : Int)), pA)] := by rw [← hσ6]; exact hc40
  have hc61 : σ6.caches 1 = [((nF, ((0 : Nat) : Int)), pB)] := by rw [← hσ6]; simp [Sys.setCache, hc41, AL.put]
  have hl6 : σ6.locks = [] := by rw [← hσ6]; exact hl4
  -- station 1 flushes
  show Calls Tryz.prog 26 #[d.ptr, .int .i64 ((1 : Nat) : Int), .string nF] w6 _
  rw [hptr3]
  refine Calls.mono (flush_c hL6.sys hG6 ((1 : Nat) : Int) nF) ?_
  rintro e w7 ⟨n7, rfl, hcase⟩
  have he6 : enterC ((1 : Nat) : Int) nF σ6 = 0 := enter_F (by omega) (by omega) hf6
  rcases hcase with ⟨hne, _⟩ | ⟨_, ps, hps, rfl, hL7⟩
  · exact absurd he6 hne
  rw [Int.toNat_natCast] at hps hL7
  rw [Int.toNat_natCast, flush1 hc61 (by omega) hps]
  rw [flush1 hc61 (by omega) hps] at hL7
  obtain ⟨hp7, ho7⟩ := hL7.next hp6 ho6
  obtain ⟨wF, wN⟩ := wrF_one pB 0 0 (List.replicate 4 0) hBd 32 (by omega)
  simp only [wN, he6]
  refine ⟨1, 0, rfl, ?_⟩
  have hpB : pageOf σ6 1 (nF, ((0 : Nat) : Int)) = pB := by simp [pageOf, hc61, AL.get]
  have hG7 := hG6.written (u := 1) (by omega) (name := nF) (kk := 0) (by rw [hc61]; simp)
  have hf7 : AL.get (writtenS σ6 1 nF 0).files nF = some [7, 0, 0, 0] := by
    simp only [writtenS, Sys.setCache, AL.get_put, if_true, hpB, fileOf_eq hf6, wF, hBb]; rfl
  have hc70 : (writtenS σ6 1 nF 0).caches 0 = [((nF, ((0 : Nat) : Int)), pA)] := by simp only [writtenS, Sys.setCache]; exact hc60
  have hl7 : (writtenS σ6 1 nF 0).locks = [] := hl6
  have hN7 : Sizes 2 (writtenS σ6 1 nF 0) := fun v hv => by
    have := congrArg List.length (written_keys (σ := σ6) (u := 1) (name := nF) (kk := 0) (by rw [hc61]; simp) v)
    simp only [List.length_map] at this
    rw [this]; exact hN6 v hv
  generalize writtenS σ6 1 nF 0 = σ7 at hL7 hG7 hf7 hc70 hl7 hN7
  -- station 0 reads the old byte
  obtain ⟨q5, q6⟩ := read1 (σ := σ7) (u := 0) (by omega) hf7 (at_ := 0) (by simp)
  simp only [Nat.zero_div, Nat.zero_mod] at q6
  show Calls Tryz.prog 13 #[d.ptr, .int .i64 ((0 : Nat) : Int), .string nF, .int .i64 ((0 : Nat) : Int), .int .i64 1] w7 _
  rw [hptr3]
  refine Calls.mono (read_c hL7.sys hG7.small ((0 : Nat) : Int) nF ((0 : Nat) : Int) 1) ?_
  rintro e w8 ⟨l8, rfl, hL8, hr8, hb8⟩
  rw [q6] at hL8 hr8
  rw [q5]
  obtain ⟨hp8, ho8⟩ := hL8.next hp7 ho7
  refine ⟨l8, 0, rfl, ?_⟩
  have hpR8 : pageR σ7 0 nF 0 0 1 [7, 0, 0, 0] = wantP 0 1 [7, 0, 0, 0] 0 32 pA := by simp [pageR, hc70, AL.get]
  have hP8 : PgOk 0 4 (wantP 0 1 [7, 0, 0, 0] 0 32 pA) := by
    have := hG7.pgOk (u := 0) (by omega) hf7 0 1 (kk := 0)
    rw [hpR8] at this; exact this
  have hA8 : (wantP 0 1 [7, 0, 0, 0] 0 32 pA).b 0 = 0 /\ (wantP 0 1 [7, 0, 0, 0] 0 32 pA).kn 0 = true /\ (wantP 0 1 [7, 0, 0, 0] 0 32 pA).di 0 = false := by simp [wantP, hA0]
  rw [hpR8] at hL8 hr8
  obtain ⟨hG8, hN8⟩ := hG7.setPage (u := 0) (by omega) (name := nF) (kk := 0) (by omega) hf7 (pg := wantP 0 1 [7, 0, 0, 0] 0 32 pA) hP8 hN7 (by omega)
  generalize hC : wantP 0 1 [7, 0, 0, 0] 0 32 pA = pC at hL8 hr8 hG8 hN8 hA8
  have hb8n : ∀ b ∈ blkOf l8, b ∉ d3.own := fun b hb ho => by have := hb8 b hb; have := hL7.sys.lt b ho; omega
  simp only [hA8.1] at hr8
  generalize hσ8 : σ7.setCache 0 (AL.put (σ7.caches 0) (nF, ((0 : Nat) : Int)) pC) = σ8 at hL8 hG8 hN8
  have hf8 : AL.get σ8.files nF = some [7, 0, 0, 0] := by rw [← hσ8]; exact hf7
  have hc80 : σ8.caches 0 = [((nF, ((0 : Nat) : Int)), pC)] := by rw [← hσ8]; simp [Sys.setCache, hc70, AL.put]
  have hl8 : σ8.locks = [] := by rw [← hσ8]; exact hl7
  -- station 0 locks
  show Calls Tryz.prog 27 #[d.ptr, .int .i64 ((0 : Nat) : Int), .string nF, .int .i64 0, .int .i64 1] w8 _
  rw [hptr3]
  refine Calls.mono (lock_c hL8.sys hG8 (locksOk_nil hl8) ((0 : Nat) : Int) nF 0 1) ?_
  have hlc : lockC ((0 : Nat) : Int) nF 0 1 σ8 = 0 := by
    unfold lockC
    rw [enter_F (by omega) (by omega) hf8, if_pos rfl, hl8]; rfl
  rintro e w9 ⟨rfl, hcase⟩
  rcases hcase with ⟨hne, _⟩ | ⟨_, d9, ps9, hps9, hL9⟩
  · exact absurd hlc hne
  rw [hlc]
  obtain ⟨hp9, ho9⟩ := hL9.next hp8 ho8
  refine ⟨0, rfl, ?_⟩
  rw [Int.toNat_natCast] at hps9 hL9
  have hin : inPages nF 0 1 (nF, ((0 : Nat) : Int)) = true := by
    show decide (nF = nF /\ ((0 : Nat) : Int) * 32 < 0 + 1 /\ 0 < (((0 : Nat) : Int) + 1) * 32) = true
    exact decide_eq_true ⟨rfl, by omega, by omega⟩
  rw [hc80] at hps9
  simp only [List.map_cons, List.map_nil, List.filter_cons, hin, if_true, List.filter_nil] at hps9
  rw [List.perm_singleton.1 hps9] at hL9
  simp only [refAll, Int.toNat_natCast] at hL9
  have hpC : pageOf (locked ((0 : Nat) : Int) nF 0 1 σ8) 0 (nF, ((0 : Nat) : Int)) = pC := by simp [pageOf, locked, hc80, AL.get]
  have hG8' : Good (locked ((0 : Nat) : Int) nF 0 1 σ8) := ⟨hG8.small, hG8.near, hG8.cnt, hG8.file⟩
  obtain ⟨hG9, _⟩ := hG8'.refresh (u := 0) (by omega) (name := nF) (kk := 0) (by simp [locked, hc80])
  have hf9 : AL.get (refreshS (locked ((0 : Nat) : Int) nF 0 1 σ8) 0 nF 0).files nF = some [7, 0, 0, 0] := hf8
  have hc90 : (refreshS (locked ((0 : Nat) : Int) nF 0 1 σ8) 0 nF 0).caches 0 = [((nF, ((0 : Nat) : Int)), refreshP [7, 0, 0, 0] 0 32 pC)] := by
    have : fileOf (locked ((0 : Nat) : Int) nF 0 1 σ8) nF = [7, 0, 0, 0] := fileOf_eq hf8
    simp only [refreshS, hpC, this]
    simp [Sys.setCache, locked, hc80, AL.put]
  generalize refreshS (locked ((0 : Nat) : Int) nF 0 1 σ8) 0 nF 0 = σ9 at hL9 hG9 hf9 hc90
  obtain ⟨hr9, hb9n⟩ := hL9.keep hr8 hb8n
  -- and reads the new byte
  obtain ⟨q7, q8⟩ := read1 (σ := σ9) (u := 0) (by omega) hf9 (at_ := 0) (by simp)
  simp only [Nat.zero_div, Nat.zero_mod] at q8
  show Calls Tryz.prog 13 #[d.ptr, .int .i64 ((0 : Nat) : Int), .string nF, .int .i64 ((0 : Nat) : Int), .int .i64 1] w9 _
  rw [hptr3, hL9.ptrEq]
  refine Calls.mono (read_c hL9.sys hG9.small ((0 : Nat) : Int) nF ((0 : Nat) : Int) 1) ?_
  rintro e w10 ⟨l10, rfl, hL10, hr10, hb10⟩
  rw [q8] at hr10
  rw [q7]
  obtain ⟨hp10, ho10⟩ := hL10.next hp9 ho9
  refine ⟨l10, 0, rfl, ?_⟩
  obtain ⟨hr10', _⟩ := hL10.keep hr9 hb9n
  have hv10 : (pageR σ9 0 nF 0 0 1 [7, 0, 0, 0]).b 0 = 7 := by
    simp [pageR, hc90, AL.get, wantP, refreshP, hA8]
  rw [hv10] at hr10
  obtain ⟨s1, hs1, hs1'⟩ := conv_str hr10'
  obtain ⟨s2, hs2, hs2'⟩ := conv_str hr10
  refine Br.t rfl (Br.t rfl (Br.t rfl (Br.t rfl (Br.t rfl ⟨s1, w10, hs1, Br.t (bytes_lit s1 _ hs1' _ rfl) ⟨s2, w10, hs2, ?_⟩⟩))))
  exact ⟨by rw [bytes_lit s2 _ hs2' _ rfl], hp10⟩
end Go.Proofs.YtnigfiljenfgjaaGreat

/- The disk: finding and deleting a lock. -/
set_option maxRecDepth 100000
set_option linter.unusedVariables false
set_option linter.unusedSimpArgs false
set_option linter.unusedSectionVars false
namespace Go.Proofs.YtnigfiljenfgjaaGreat
open Go.Sh Go.RowKit
theorem struct70 : structB Tryz.prog 95 [some .i64, none, some .i64, some .i64] = true := by kernel_rfl
theorem guard70 : Tryz.prog.eqGuardType Tryz.prog.depth 95 = false := by kernel_rfl
theorem eqLock (l k : Lock) (x y : Operand) (w : World) : (eqS .eql 95 x y (.agg #[.int .i64 l.u, .string l.name, .int .i64 l.at_, .int .i64 l.n]) (.agg #[.int .i64 k.u, .string k.name, .int .i64 k.at_, .int .i64 k.n])).run Tryz.prog w = .ok (.bool (decide (l = k))) w := by
  refine eqS_row (ks := [some .i64, none, some .i64, some .i64]) (xs := l.cells) (ys := k.cells) struct70 guard70 rfl rfl ?_ w
  rw [decide_eq_true_iff]
  constructor
  · rintro rfl; rfl
  · intro h
    obtain ⟨a, b, c, d⟩ := l
    obtain ⟨a', b', c', d'⟩ := k
    simpa [Lock.cells] using h
theorem index_c {w : World} {s : SV} {ls : List Lock} (hr : RowAt w 95 4 s (ls.flatMap Lock.cells)) (hlen : ls.length <= 1000000) (lk : Lock) :
    Calls Tryz.prog 80 #[.slice s.a s.len s.cap, lk.val] w fun e w' => ∃ n : Int, e = .returned (.int .i64 n) /\ Pu w w' /\ ((n = -1 /\ lk ∉ ls) ∨ ∃ k : Nat, n = k /\ ls[k]? = some lk /\ ∀ j, j < k -> ls[j]? ≠ some lk) := by
  refine F80_calls s _ _ _ _ w _ ?_
  refine alE_intro fun w1 hw1 => ?_
  have hp1 : Pu w w1 := by rw [hw1]; exact Pu.alloc w _
  have hb1 : w1.heap[w.heap.size]? = some (.cells #[.int .i64 lk.u, .string lk.name, .int .i64 lk.at_, .int .i64 lk.n] 95) := by rw [hw1]; exact alloc_new w _
  have hsl : s.len = ls.length := by have := hr.1; rw [locks_len] at this; omega
  refine loopUp ls.length (fun k t w' => t = (k : Int) /\ Pu w1 w' /\ ∀ j, j < k -> ls[j]? ≠ some lk) ⟨rfl, Pu.refl w1, fun j hj => by omega⟩ ?_
  rintro k J t w' hk ⟨rfl, hp, hall⟩ hJ
  rw [hsl]
  refine Br.of (fun hlt => ?_) (fun hge => ?_)
  · have hlt' : k < ls.length := by have := dtrue hlt; omega
    obtain ⟨l, hl⟩ : ∃ l, ls[k]? = some l := ⟨_, List.getElem?_eq_getElem hlt'⟩
    refine dwE_intro fun w2 hp2 hh2 => ?_
    have hb2 := hp2.blk (hp.blk hb1)
    obtain ⟨g, hga, hgc, hgb⟩ := (((hr.pu hp1).pu hp).pu hp2).base (fun e => by have := locks_len ls; rw [e] at this; simp at this; omega)
    have g0 := hgc _ _ (lock_get ls hl 0 _ rfl)
    have g1 := hgc _ _ (lock_get ls hl 1 _ rfl)
    have g2 := hgc _ _ (lock_get ls hl 2 _ rfl)
    have g3 := hgc _ _ (lock_get ls hl 3 _ rfl)
    refine ⟨lk.u, by rw [add_def, cell_blk hb2]; rfl, lk.name, by rw [add_def, cell_blk hb2]; rfl, lk.at_, by rw [add_def, cell_blk hb2]; rfl, lk.n, by rw [add_def, cell_blk hb2]; rfl,
      ⟨g, 0, none⟩, hga, by omega, by omega, l.u, ?_, l.name, ?_, l.at_, ?_, l.n, ?_, _, fun v => eqLock lk l _ _ v, Br.of (fun hb => ?_) (fun hb => ?_)⟩
    · rw [add_def, add_def, ← g0]; congr 2; omega
    · rw [add_def, add_def, ← g1]; congr 2; omega
    · rw [add_def, add_def, ← g2]; congr 2; omega
    · rw [add_def, add_def, ← g3]; congr 2; omega
    · have hb := dtrue hb
      subst hb
      exact ⟨_, rfl, (hp1.trans hp).trans hp2, .inr ⟨k, rfl, hl, hall⟩⟩
    · have hb := dfalse hb
      rw [wrap_in (by omega) (by omega)]
      refine hJ _ _ hlt' ⟨by omega, hp.trans hp2, fun j hj => ?_⟩
      by_cases e : j = k
      · subst e; rw [hl]; simp; exact fun e => hb e.symm
      · exact hall j (by omega)
  · have hk' : k = ls.length := by have := dfalse hge; omega
    subst hk'
    refine ⟨-1, rfl, hp1.trans hp, .inl ⟨rfl, fun hm => ?_⟩⟩
    obtain ⟨j, hj, e⟩ := List.getElem_of_mem hm
    exact hall j hj (by rw [List.getElem?_eq_getElem hj, e])
theorem flat_take (ls : List Lock) : ∀ k, (ls.flatMap Lock.cells).take (k * 4) = (ls.take k).flatMap Lock.cells := by
  induction ls with
  | nil => intro k; simp
  | cons l ls ih =>
    intro k
    cases k with
    | zero => simp
    | succ k =>
      simp only [List.flatMap_cons, List.take_succ_cons]
      rw [List.take_append, show (k + 1) * 4 - l.cells.length = k * 4 by simp [Lock.cells]; omega, ih k, List.take_of_length_le (by simp [Lock.cells]; omega)]
theorem flat_drop (ls : List Lock) : ∀ k, (ls.flatMap Lock.cells).drop (k * 4) = (ls.drop k).flatMap Lock.cells := by
  induction ls with
  | nil => intro k; simp
  | cons l ls ih =>
    intro k
    cases k with
    | zero => simp
    | succ k =>
      simp only [List.flatMap_cons, List.drop_succ_cons]
      rw [List.drop_append, show (k + 1) * 4 - l.cells.length = k * 4 by simp [Lock.cells]; omega, ih k, List.drop_of_length_le (by simp [Lock.cells]; omega)]
      rfl
theorem one_cells (ls : List Lock) : ∀ v ∈ ls.flatMap Lock.cells, v.oneCell' = true := fun v hv => by
  obtain ⟨l, _, h⟩ := List.mem_flatMap.1 hv
  simp only [Lock.cells, List.mem_cons, List.not_mem_nil, or_false] at h
  rcases h with rfl | rfl | rfl | rfl <;> rfl
theorem zval70 (w : World) : (zeroValue 95).run Tryz.prog w = .ok (.agg #[.int .i64 0, .string ⟨#[]⟩, .int .i64 0, .int .i64 0]) w := by
  have h : ((Tryz.prog.info? 95).bind (·.zero)) = some (.agg #[.int .i64 0, .string ⟨#[]⟩, .int .i64 0, .int .i64 0]) := by kernel_rfl
  obtain ⟨i, hi, hz⟩ := Option.bind_eq_some_iff.1 h
  simp [zeroValue, typeInfo, hi, hz]
theorem elem50 : Tryz.prog.elem 65 = 95 := by kernel_rfl
theorem clearOne {w : World} {g o c : Nat} {cur : Array Value} (hg : w.heap[g]? = some (.cells cur 95)) (ho : o + 4 <= cur.size) :
    ∃ w', (Builtin.clear_ #[65] 0 #[.slice (some ⟨g, o, none⟩) 1 c]).run Tryz.prog w = .ok (.tuple #[]) w' /\ w'.heap[g]? = some (.cells (cur.toList.take o ++ (⟨0, ⟨#[]⟩, 0, 0⟩ : Lock).cells ++ cur.toList.drop (o + 4)).toArray 95) /\ Fr (· = g) w w' /\ w'.heap.size = w.heap.size := by
  have hst := run_storeCells_at Tryz.prog g o 95 (⟨0, ⟨#[]⟩, 0, 0⟩ : Lock).cells 0 cur w hg (by simpa [Lock.cells] using ho) (by intro v hv; exact one_cells [⟨0, ⟨#[]⟩, 0, 0⟩] v (by simpa using hv))
  have hz : (Builtin.zeroCells (Value.agg #[.int .i64 0, .string ⟨#[]⟩, .int .i64 0, .int .i64 0]).cells 1).toList = (⟨0, ⟨#[]⟩, 0, 0⟩ : Lock).cells := by kernel_rfl
  refine ⟨_, ?_, setRow_heap w g cur _ _ (0, 0) hg, ⟨rfl, rfl, rfl, by simp, fun k _ hk => setRow_other w g k _ hk⟩, by simp⟩
  simp only [Nat.add_zero, Nat.zero_add] at hst
  simp [Builtin.clear_, run_underlying u50', zval70, hz, hst]
  rfl
end Go.Proofs.YtnigfiljenfgjaaGreat

/- The disk: giving a lock up. -/
set_option maxRecDepth 100000
set_option linter.unusedVariables false
set_option linter.unusedSimpArgs false
set_option linter.unusedSectionVars false
namespace Go.Proofs.YtnigfiljenfgjaaGreat
open Go.Sh Go.RowKit
theorem delete_c {w : World} {s : SV} {ls : List Lock} (hr : RowAt w 95 4 s (ls.flatMap Lock.cells)) (hlen : ls.length <= 1000000) {k : Nat} (hk : k < ls.length) :
    Calls Tryz.prog 81 #[.slice s.a s.len s.cap, .int .i64 (k : Int), .int .i64 ((k : Int) + 1)] w fun e w' => ∃ s' : SV, e = .returned (.slice s'.a s'.len s'.cap) /\ RowAt w' 95 4 s' ((ls.eraseIdx k).flatMap Lock.cells) /\ Fr (· ∈ blkOf s) w w' /\ blkOf s' = blkOf s := by
  have hsl : s.len = ls.length := by have := hr.1; rw [locks_len] at this; omega
  obtain ⟨hv, hc | ⟨g, cur, h3, h4, h5, h6, h7, h8⟩⟩ := hr
  · rw [hc] at hsl; simp at hsl; omega
  obtain ⟨i, hi, hz, hsz, hby⟩ := info_parts info70
  refine F81_calls s _ _ w _ ?_
  rw [F81_1, h3]
  have hcap : s.cap ≠ 0 := by omega
  have hsa : (Instr.sliceAt 65 (.slice (some ⟨g, 0, none⟩) s.len s.cap) (some (.int .i64 (k : Int))) (some (.int .i64 ((k : Int) + 1))) (some (.int .i64 ((s.len : Nat) : Int)))).run Tryz.prog w =
      .ok (sliced (some ⟨g, 0, none⟩) k (k + 1) s.len 4) w := by
    rw [run_sliceAt_slice (P := Tryz.prog) w 65 _ _ _ _ (by rw [elem50]; exact u50'), run_slice_lhm (P := Tryz.prog) w 65 (some ⟨g, 0, none⟩) s.len s.cap (by rw [elem50]; exact u50') .i64 .i64 .i64 (k : Int) ((k : Int) + 1) ((s.len : Nat) : Int) (by omega) (by omega) (by omega) (by omega)]
    have hso : (sizeOf (Tryz.prog.elem 65)).run Tryz.prog w = .ok 4 w := by rw [elem50]; simp [sizeOf, typeInfo, hi, hsz]
    rw [hso]
    simp only [Result.andThen_ok, Int.toNat_natCast]
    rw [show ((k : Int) + 1).toNat = k + 1 by omega]
  refine ⟨⟨if s.len = k then some ⟨g, 0, none⟩ else (some (⟨g, 0, none⟩ : Addr)).map (·.add (k * 4)), k + 1 - k, s.len - k⟩, w, hsa, ?_⟩
  refine Br.f (by simp; omega) ?_
  refine dwE_intro fun w3 hp3 hh3 => ?_
  have h43 := hp3.blk h4
  have hkn : ((k : Int) + 1).toNat = k + 1 := by omega
  rw [Int.toNat_natCast, hkn]
  refine ⟨by omega, by omega, by omega, by omega, by omega, by omega, ?_⟩
  obtain ⟨m, hm⟩ : ∃ m, m = s.len - (k + 1) := ⟨_, rfl⟩
  rw [← hm, if_neg hcap, Nat.sub_zero, Nat.sub_zero]
  have e0 : (some (⟨g, 0, none⟩ : Addr)).map (fun x => x.add (0 * 4)) = some ⟨g, 0, none⟩ := by simp [add_def]
  rw [e0]
  obtain ⟨a2, ha2, hc2⟩ : ∃ a2, (if s.cap = k + 1 then some (⟨g, 0, none⟩ : Addr) else (some (⟨g, 0, none⟩ : Addr)).map (fun x => x.add ((k + 1) * 4))) = some a2 /\ ∀ j u, (((ls.drop (k + 1)).flatMap Lock.cells))[j]? = some u -> w3.cell? (a2.add j) = some u := by
    by_cases e : s.cap = k + 1
    · rw [if_pos e]
      refine ⟨_, rfl, fun j u hu => ?_⟩
      have : ls.drop (k + 1) = [] := List.drop_of_length_le (by omega)
      rw [this] at hu; simp at hu
    · rw [if_neg e]
      refine ⟨⟨g, (k + 1) * 4, none⟩, by simp [add_def], fun j u hu => ?_⟩
      rw [add_def, cell_blk h43]
      rw [← flat_drop, List.getElem?_drop, ← h8, List.getElem?_take] at hu
      split at hu
      · simpa using hu
      · cases hu
  rw [ha2]
  have hnl : ((ls.drop (k + 1)).flatMap Lock.cells).length = m * i.size := by rw [hsz, locks_len, List.length_drop]; omega
  have hra := run_append_room (P := Tryz.prog) w3 65 65 95 i u50' hi g k s.cap cur h43 a2 m (s.cap - (k + 1)) ((ls.drop (k + 1)).flatMap Lock.cells) hnl hc2 (one_cells _) (by omega) (by rw [hnl, hsz, h7]; omega)
  rw [hsz] at hra hnl
  refine ⟨⟨some ⟨g, 0, none⟩, k + m, s.cap⟩, _, hra, ?_⟩
  have hb5 := setRow_heap w3 g cur (cur.toList.take (k * 4) ++ (ls.drop (k + 1)).flatMap Lock.cells ++ cur.toList.drop (k * 4 + ((ls.drop (k + 1)).flatMap Lock.cells).length)).toArray 95 (0, 0) h43
  have hf5 : Fr (· = g) w3 (w3.setRow g (cur.toList.take (k * 4) ++ (ls.drop (k + 1)).flatMap Lock.cells ++ cur.toList.drop (k * 4 + ((ls.drop (k + 1)).flatMap Lock.cells).length)).toArray) := ⟨rfl, rfl, rfl, by simp, fun j _ hj => setRow_other w3 g j _ hj⟩
  generalize (w3.setRow g (cur.toList.take (k * 4) ++ (ls.drop (k + 1)).flatMap Lock.cells ++ cur.toList.drop (k * 4 + ((ls.drop (k + 1)).flatMap Lock.cells).length)).toArray) = w5 at hb5 hf5
  refine ⟨by omega, by simp; omega, by omega, by simp; omega, ?_⟩
  simp only [Int.toNat_natCast]
  have hcm : ¬ s.cap = k + m := by omega
  rw [if_neg hcm, show s.len - (k + m) = 1 by omega]
  have e1 : (some (⟨g, 0, none⟩ : Addr)).map (fun x => x.add ((k + m) * 4)) = some ⟨g, (k + m) * 4, none⟩ := by simp [add_def]
  rw [e1]
  have hcl : cur.toList.length = s.cap * 4 := by simp [h7]
  obtain ⟨w6, hr6, hb6, hf6, hs6⟩ := clearOne (o := (k + m) * 4) (c := s.cap - (k + m)) hb5 (by simp; omega)
  refine ⟨w6, hr6, ⟨some ⟨g, 0, none⟩, k + m, s.cap⟩, rfl, ?_, ?_, by simp [blkOf, h3]⟩
  · have her : ls.eraseIdx k = ls.take k ++ ls.drop (k + 1) := List.eraseIdx_eq_take_drop_succ ls k
    have hfl : (ls.eraseIdx k).flatMap Lock.cells = (ls.take k).flatMap Lock.cells ++ (ls.drop (k + 1)).flatMap Lock.cells := by rw [her, List.flatMap_append]
    have htk : cur.toList.take (k * 4) = (ls.take k).flatMap Lock.cells := by
      rw [← flat_take, ← h8, List.take_take]; congr 1; omega
    have hl1 : ((ls.take k).flatMap Lock.cells).length = k * 4 := by rw [locks_len, List.length_take]; omega
    refine ⟨?_, .inr ⟨g, _, rfl, hb6, by show k + m <= s.cap; omega, h6, ?_, ?_⟩⟩
    · rw [hfl, List.length_append, hl1, hnl]; show _ = (k + m) * 4; omega
    · simp only [List.size_toArray, List.length_append, List.length_take, List.length_drop, Array.length_toList, List.toList_toArray, Lock.cells, List.length_cons, List.length_nil]
      show _ = s.cap * 4
      have := hnl
      simp only [Array.length_toList] at hcl
      omega
    · show List.take ((k + m) * 4) _ = _
      rw [hfl, htk]
      have hl2 : ((ls.take k).flatMap Lock.cells ++ (ls.drop (k + 1)).flatMap Lock.cells).length = (k + m) * 4 := by rw [List.length_append, hl1, hnl]; omega
      simp only [List.toList_toArray]
      have hLl : (k + m) * 4 <= ((ls.take k).flatMap Lock.cells ++ (ls.drop (k + 1)).flatMap Lock.cells ++ cur.toList.drop (k * 4 + ((ls.drop (k + 1)).flatMap Lock.cells).length)).length := by
        rw [List.length_append, hl2]; omega
      rw [List.take_append_of_le_length (by rw [List.length_append, List.length_take, Nat.min_eq_left hLl]; omega), List.take_append_of_le_length (by rw [List.length_take, Nat.min_eq_left hLl]; exact Nat.le_refl _), List.take_take, Nat.min_self,
        List.take_append_of_le_length (by rw [hl2]; exact Nat.le_refl _), ← hl2, List.take_length]
  · exact ((Fr.pu hp3 : Fr (· ∈ blkOf s) w w3).trans hf5 fun j hj _ => by simp [blkOf, h3, show j = g from hj]).trans hf6 fun j hj _ => by simp [blkOf, h3, show j = g from hj]
def unlockC (u : Int) (name : ByteArray) (at_ n : Int) (σ : Sys) : Int := if enterC u name σ = 0 then (if (⟨u, name, at_, n⟩ : Lock) ∈ σ.locks then 0 else 4) else enterC u name σ
theorem erase_first {ls : List Lock} {lk : Lock} : ∀ {k : Nat}, ls[k]? = some lk -> (∀ j, j < k -> ls[j]? ≠ some lk) -> ls.eraseIdx k = ls.erase lk := by
  induction ls with
  | nil => intro k h; simp at h
  | cons l ls ih =>
    intro k h hall
    cases k with
    | zero => simp at h; subst h; simp
    | succ k =>
      have hne : l ≠ lk := fun e => hall 0 (by omega) (by simp [e])
      rw [List.eraseIdx_cons_succ, List.erase_cons_tail (by simpa using hne), ih (by simpa using h) fun j hj => by have := hall (j + 1) (by omega); simpa using this]
theorem unlock_any {w : World} {d : Lay} {σ : Sys} (h : SysAt w d 0 σ) (hG : Good σ) (hL : LocksOk σ) (u : Int) (name : ByteArray) (at_ n : Int) :
    Calls Tryz.prog 31 #[d.ptr, .int .i64 u, .string name, .int .i64 at_, .int .i64 n] w fun e w' => e = .returned (.int .i64 (unlockC u name at_ n σ)) /\
      ((unlockC u name at_ n σ ≠ 0 /\ Left w w' d d σ) ∨ (unlockC u name at_ n σ = 0 /\ ∃ d' ps, ps.Perm (((σ.caches u.toNat).map Prod.fst).filter (inPages name at_ n)) /\
        Left w w' d d' { (wrAll u.toNat name ps (σ, 0)).1 with locks := σ.locks.erase ⟨u, name, at_, n⟩ })) := by
  refine F31_calls _ _ _ _ _ w _ ?_
  refine Calls.mono (enter_c h u name) ?_
  rintro e w2 ⟨rfl, h2, hf2⟩
  have hf2' : Fr (· ∈ d.own) w w2 := hf2.mono fun i hi _ => by rw [show i = d.S from hi]; exact mem_S d
  have bad : ∀ m : Int, ∀ w6, unlockC u name at_ n σ = m -> m ≠ 0 -> SysAt w6 d 1 σ -> Fr (· ∈ d.own) w w6 -> runD Tryz.prog [leaveD d] w6 fun w' => Ending.returned (Value.int .i64 m) = .returned (.int .i64 (unlockC u name at_ n σ)) /\
      ((unlockC u name at_ n σ ≠ 0 /\ Left w w' d d σ) ∨ (unlockC u name at_ n σ = 0 /\ ∃ d' ps, ps.Perm (((σ.caches u.toNat).map Prod.fst).filter (inPages name at_ n)) /\
        Left w w' d d' { (wrAll u.toNat name ps (σ, 0)).1 with locks := σ.locks.erase ⟨u, name, at_, n⟩ })) := fun m w6 hm h0 h6 hf6 =>
    leave_left h6 hf6 fun w' hLf _ => ⟨by rw [hm], .inl ⟨by rw [hm]; exact h0, hLf⟩⟩
  refine ⟨_, _, rfl, Br.of (fun he => ?_) (fun he => ?_)⟩
  · have he : enterC u name σ ≠ 0 := by simpa using he
    exact bad _ w2 (by simp [unlockC, he]) he h2 hf2'
  have he : enterC u name σ = 0 := by simpa using he
  obtain ⟨hu0, hu4, f, hf⟩ := enterC_zero he
  obtain ⟨un, rfl⟩ := Int.eq_ofNat_of_zero_le hu0
  have hun : un < 4 := by omega
  refine ⟨d.ls, h2.cellL, ?_⟩
  refine Calls.mono (index_c h2.lk hL.2 ⟨(un : Int), name, at_, n⟩) ?_
  rintro e w3 ⟨n3, rfl, hp3, hix⟩
  have h3 := h2.pu hp3
  have hF3 : Fr (· ∈ d.own) w w3 := hf2'.trans (Fr.pu hp3 : Fr (· ∈ d.own) w2 w3) fun i hi _ => hi
  refine ⟨n3, rfl, ?_⟩
  rcases hix with ⟨rfl, hno⟩ | ⟨kx, rfl, hkx, hfirst⟩
  · exact Br.t rfl (bad 4 w3 (by simp only [unlockC, he, if_true, hno, if_false]) (by decide) h3 hF3)
  have hmem : (⟨(un : Int), name, at_, n⟩ : Lock) ∈ σ.locks := List.mem_of_getElem? hkx
  have hok := hL.1 _ hmem
  have ha : 0 <= at_ /\ at_ <= 131072 := ⟨hok.1, hok.2.1⟩
  have hn : 0 <= n /\ n <= 131072 := ⟨hok.2.2.1, hok.2.2.2⟩
  have hC0 : unlockC (un : Int) name at_ n σ = 0 := by simp only [unlockC, he, if_true, hmem]
  refine Br.f (decide_eq_false (by omega)) ?_
  refine Calls.mono (pages_c h3 hG.near hun name (by omega) (by omega) (hG.cnt un hun)) ?_
  rintro e w4 ⟨l, ps, rfl, hrow, hperm, hp4, hblk⟩
  refine ⟨l, rfl, ?_⟩
  have hfl := flat_len ps
  have hl : l.len = ps.length := by have := hrow.1; omega
  rw [hl]
  have hps : ∀ p ∈ ps, p ∈ (σ.caches un).map Prod.fst /\ p.1 = name := fun p hp => by
    obtain ⟨h1, h2⟩ := List.mem_filter.1 (hperm.mem_iff.1 hp)
    exact ⟨h1, (of_decide_eq_true h2).1⟩
  have hcnt : ps.length <= 1000000 := by
    have h1 := hperm.length_eq
    have h2 := List.length_filter_le (inPages name at_ n) ((σ.caches un).map Prod.fst)
    have h3 := hG.cnt un hun
    simp at h2; omega
  have hlocks : ∀ (qs : List Place) (s : Sys × Nat), (wrAll un name qs s).1.locks = s.1.locks := fun qs => by
    induction qs with
    | nil => intro s; rfl
    | cons q qs ih => intro s; simp only [wrAll]; rw [ih]; rfl
  refine loopUp ps.length (fun k t w' => t = (k : Int) /\ SysAt w' d 1 (wrAll un name (ps.take k) (σ, 0)).1 /\ RowAt w' 92 2 l (ps.flatMap placeCells) /\ Fr (· ∈ d.own) w w') ⟨rfl, h3.pu hp4, hrow, hF3.trans (Fr.pu hp4 : Fr (· ∈ d.own) w3 w4) fun i hi _ => hi⟩ ?_
  rintro k J t w' hk ⟨rfl, hS, hrw, hfr⟩ hJ
  refine Br.of (fun hlt => ?_) (fun hge => ?_)
  · have hlt' : k < ps.length := by have := dtrue hlt; omega
    obtain ⟨p, hp⟩ : ∃ p, ps[k]? = some p := ⟨_, List.getElem?_eq_getElem hlt'⟩
    obtain ⟨g1, g2⟩ := flat_get ps hp
    obtain ⟨g, hga, hgc, hgb⟩ := hrw.base (fun e => by rw [e] at g1; simp at g1)
    have hpk := hps p (List.mem_of_getElem? hp)
    obtain ⟨nm, q⟩ := p
    have hnm : nm = name := hpk.2
    rw [hnm] at hp g1 hpk
    obtain ⟨pg, hg⟩ := AL.get_isSome hpk.1
    have hq := (hG.near un hun _ (AL.get_mem hg)).1
    simp only at hq
    obtain ⟨kk, rfl⟩ := Int.eq_ofNat_of_zero_le hq
    obtain ⟨hGk, hKk, hNk⟩ := wrAll_good hun hG (ps.take k) 0 (name := name) fun p' hp' => hps p' (List.mem_of_mem_take hp')
    refine ⟨⟨g, 0, none⟩, hga, by omega, by omega, name, ?_, (kk : Int), ?_, ?_⟩
    · rw [add_def, add_def]; rw [← hgc (k * 2) _ g1]; congr 2; omega
    · rw [add_def, add_def]; rw [← hgc (k * 2 + 1) _ g2]; congr 2; omega
    refine alE_intro fun w5 hw5 => ?_
    have hp5 : Pu w' w5 := by rw [hw5]; exact Pu.alloc w' _
    have hb5 : w5.heap[w'.heap.size]? = some (.cells #[.string ⟨#[]⟩, .int .i64 0] 92) := by rw [hw5]; exact alloc_new w' _
    refine stA_fill hb5 (by rw [size66]; rfl) rfl rfl fun w6 hb6 hf6 hs6 => ?_
    have hP6 : Pu w' w6 := hp5.andNew hf6 fun i hi => by omega
    refine ⟨name, by rw [add_def, cell_blk hb6]; rfl, (kk : Int), by rw [add_def, cell_blk hb6]; rfl, ?_⟩
    obtain ⟨b1, f', hf', hfl', hfi'⟩ := hGk.page hun (name := name) (kk := kk) (by rw [hKk]; exact hpk.1)
    refine Calls.mono (written_c (hS.pu hP6) hun b1 hf' hfl' fun i hi hd => hfi' i hi (.inr hd)) ?_
    rintro e w7 ⟨rfl, h7, hf7⟩
    refine ⟨_, rfl, ?_⟩
    rw [wrap_in (by omega) (by omega)]
    have htk : ps.take (k + 1) = ps.take k ++ [(name, (kk : Int))] := by rw [List.take_add_one, hp]; rfl
    have hle2 : w.heap.size <= w2.heap.size := hf2'.size
    refine hJ _ _ hlt' ⟨by omega, ?_, ?_, ?_⟩
    · rw [htk, wrAll_snoc]; simpa using h7
    · exact (hrw.pu hP6).fr hf7 fun b hb hbo => by have := hblk b hb; have := h3.lt b hbo; omega
    · exact (hfr.trans (Fr.pu hP6 : Fr (· ∈ d.own) w' w6) fun i hi _ => hi).trans hf7 fun i hi _ => hi
  · have hk' : k = ps.length := by have := dfalse hge; omega
    subst hk'
    rw [List.take_length] at hS
    generalize hσ : (wrAll un name ps (σ, 0)).1 = σk at hS
    have hlk : σk.locks = σ.locks := by rw [← hσ, hlocks]
    have hkl : kx < σk.locks.length := by rw [hlk]; exact (List.getElem?_eq_some_iff.1 hkx).1
    have hlen := hL.2
    have hkx1 : kx < σ.locks.length := (List.getElem?_eq_some_iff.1 hkx).1
    refine ⟨d.ls, hS.cellL, ?_⟩
    rw [wrap_in (by omega) (by omega)]
    refine Calls.mono (delete_c hS.lk (by rw [hlk]; exact hlen) hkl) ?_
    rintro e w5 ⟨s', rfl, hrow5, hf5, hbs⟩
    refine ⟨s', rfl, ?_⟩
    obtain ⟨n1, n2, n3, n4, n5⟩ := hS.ne
    have hS5 := hf5.blk hS.st fun hb => (n4 _ hb).1 rfl
    rw [ptrE_some, add_def]
    refine st1_intro hS5 (by simp) fun w6 hw6 hb6 => ?_
    have hf6 : Fr (· = d.S) w5 w6 := by rw [hw6]; exact Fr.cell w5 _ _ _
    have hlsown : ∀ b ∈ blkOf d.ls, b ∈ d.own := fun b hb => by simp only [Lay.own, List.mem_cons, List.mem_append]; exact .inr (.inr (.inr (.inr (.inr (.inr (.inl hb))))))
    have h6 := hS.setLocks (ls' := s') (locks' := σk.locks.eraseIdx kx) (hrow5.fr hf6 fun b hb e => (n4 b (by rw [← hbs]; exact hb)).1 e) ((hf5.mono fun i hi _ => .inl hi).trans hf6 fun i hi _ => .inr hi) (by rw [hb6]; rfl) fun b hb => .inl (by rw [← hbs]; exact hb)
    have hF6 : Fr (· ∈ d.own) w w6 := (hfr.trans hf5 fun i hi _ => hlsown i hi).trans hf6 fun i hi _ => by rw [show i = d.S from hi]; exact mem_S d
    have hown' : ∀ b ∈ ({ d with ls := s' } : Lay).own, b ∈ d.own := fun b hb => by
      simp only [Lay.own, List.mem_cons, List.mem_append, hbs] at hb ⊢; exact hb
    rw [hlk, erase_first hkx hfirst] at h6
    refine leave_c (d := { d with ls := s' }) h6 fun w9 h9 hf9 _ => ⟨by rw [hC0], .inr ⟨hC0, { d with ls := s' }, ps, hperm, ⟨?_, hF6.trans hf9 fun i hi _ => by rw [show i = d.S from hi]; exact mem_S d, fun b hb => .inl (hown' b hb), rfl⟩⟩⟩
    rw [Int.toNat_natCast, hσ]
    exact h9
end Go.Proofs.YtnigfiljenfgjaaGreat

/- The disk's reference: how it lies in memory; names; where a file stands. -/
set_option maxRecDepth 100000
set_option linter.unusedVariables false
set_option linter.unusedSimpArgs false
namespace Go.Proofs.YtnigfiljenfgjaaGreat
open Go.Sh Go.RowKit
structure B3 where
  is : Bool
  di : Bool
  b : UInt8
deriving DecidableEq
def B3.cells (x : B3) : List Value := [.bool x.is, .bool x.di, u8V x.b]
def B3.zero : B3 := ⟨false, false, 0⟩
theorem B3.len (x : B3) : (B3.cells x).length = 3 := rfl
theorem Lock.len (x : Lock) : (Lock.cells x).length = 4 := rfl
structure RSys where
  files : List (ByteArray × List UInt8)
  caches : Nat -> List (ByteArray × List B3)
  held : List Lock
def RSys.new : RSys := ⟨[], fun _ => [], []⟩
inductive RKey
  | S | fs | ls
  | m (u : Nat)
  | f (name : ByteArray)
  | c (u : Nat) (name : ByteArray)
deriving DecidableEq
structure RLay where
  S : Nat
  fs : SV
  ls : SV
  c : Nat -> Nat
  fb : ByteArray -> SV
  cs : Nat -> ByteArray -> SV
  o : Nat -> Option RKey
def RLay.ptr (r : RLay) : Value := .pointer (some ⟨r.S, 0, none⟩)
def fcells (fb : ByteArray -> SV) (f : ByteArray × List UInt8) : List Value := [.string f.1, .slice (fb f.1).a (fb f.1).len (fb f.1).cap]
theorem fcells_len (fb : ByteArray -> SV) (f : ByteArray × List UInt8) : (fcells fb f).length = 2 := rfl
abbrev crow (cs : ByteArray -> SV) (l : List (ByteArray × List B3)) : List (ByteArray × SV) := l.map fun q => (q.1, cs q.1)
structure RSysAt (w : World) (r : RLay) (ρ : RSys) : Prop where
  st : w.heap[r.S]? = some (.cells #[.slice r.fs.a r.fs.len r.fs.cap, .map (some (r.c 0)), .map (some (r.c 1)), .map (some (r.c 2)), .map (some (r.c 3)), .slice r.ls.a r.ls.len r.ls.cap] 73)
  fl : RowAt w 80 2 r.fs (ρ.files.flatMap (fcells r.fb))
  fbs : ∀ f ∈ ρ.files, RowAt w 5 1 (r.fb f.1) (f.2.map u8V)
  fnd : (ρ.files.map Prod.fst).Nodup
  mp : ∀ u, u < 4 -> MapAt w ekS evS (r.c u) (crow (r.cs u) (ρ.caches u))
  cb : ∀ u, u < 4 -> ∀ q ∈ ρ.caches u, RowAt w 116 3 (r.cs u q.1) (q.2.flatMap B3.cells)
  lk : RowAt w 127 4 r.ls (ρ.held.flatMap Lock.cells)
  oS : r.o r.S = some .S
  ofs : ∀ b ∈ blkOf r.fs, r.o b = some .fs
  ols : ∀ b ∈ blkOf r.ls, r.o b = some .ls
  om : ∀ u, u < 4 -> r.o (r.c u) = some (.m u)
  of : ∀ f ∈ ρ.files, ∀ b ∈ blkOf (r.fb f.1), r.o b = some (.f f.1)
  oc : ∀ u, u < 4 -> ∀ q ∈ ρ.caches u, ∀ b ∈ blkOf (r.cs u q.1), r.o b = some (.c u q.1)
  lt : ∀ b, r.o b ≠ none -> b < w.heap.size
variable {w w' : World} {r : RLay} {ρ : RSys}
theorem RSysAt.fr {B : Nat -> Prop} (h : RSysAt w r ρ) (hf : Fr B w w') (hn : ∀ b, r.o b ≠ none -> ¬ B b) : RSysAt w' r ρ where
  st := hf.blk h.st (hn _ (by rw [h.oS]; simp))
  fl := h.fl.fr hf fun b hb => hn b (by rw [h.ofs b hb]; simp)
  fbs := fun f hf' => (h.fbs f hf').fr hf fun b hb => hn b (by rw [h.of f hf' b hb]; simp)
  fnd := h.fnd
  mp := fun u hu => (h.mp u hu).fr hf (hn _ (by rw [h.om u hu]; simp))
  cb := fun u hu q hq => (h.cb u hu q hq).fr hf fun b hb => hn b (by rw [h.oc u hu q hq b hb]; simp)
  lk := h.lk.fr hf fun b hb => hn b (by rw [h.ols b hb]; simp)
  oS := h.oS
  ofs := h.ofs
  ols := h.ols
  om := h.om
  of := h.of
  oc := h.oc
  lt := fun b hb => Nat.lt_of_lt_of_le (h.lt b hb) hf.size
theorem RSysAt.pu (h : RSysAt w r ρ) (hp : Pu w w') : RSysAt w' r ρ := h.fr (Fr.pu hp : Fr (fun _ => False) w w') fun _ _ h => h
theorem RSysAt.cell0 (h : RSysAt w r ρ) : w.cell? ⟨r.S, 0, none⟩ = some (.slice r.fs.a r.fs.len r.fs.cap) := by rw [cell_blk h.st]; rfl
theorem RSysAt.cell5 (h : RSysAt w r ρ) : w.cell? ((⟨r.S, 0, none⟩ : Addr).add 5) = some (.slice r.ls.a r.ls.len r.ls.cap) := by rw [add_def, cell_blk h.st]; rfl
theorem RSysAt.cellC (h : RSysAt w r ρ) {u : Nat} (hu : u < 4) : w.cell? (((⟨r.S, 0, none⟩ : Addr).add 1).add (((u : Nat) : Int).toNat * 1)) = some (.map (some (r.c u))) := by
  rw [add_def, add_def, cell_blk h.st]
  rcases (by omega : u = 0 ∨ u = 1 ∨ u = 2 ∨ u = 3) with rfl | rfl | rfl | rfl <;> rfl
structure RLeft (w w' : World) (r r' : RLay) (ρ' : RSys) : Prop where
  sys : RSysAt w' r' ρ'
  fr : Fr (fun b => r.o b ≠ none) w w'
  own : ∀ b, r'.o b ≠ none -> r.o b ≠ none ∨ w.heap.size <= b
  ptr : r'.S = r.S
theorem RLeft.of_pu (h : RSysAt w r ρ) (hp : Pu w w') : RLeft w w' r r ρ := ⟨h.pu hp, Fr.pu hp, fun b hb => .inl hb, rfl⟩
theorem RLeft.refl (h : RSysAt w r ρ) : RLeft w w r r ρ := RLeft.of_pu h (Pu.refl w)
theorem RLeft.trans {w'' : World} {r' r'' : RLay} {ρ' ρ'' : RSys} (h : RLeft w w' r r' ρ') (k : RLeft w' w'' r' r'' ρ'') : RLeft w w'' r r'' ρ'' := by
  refine ⟨k.sys, h.fr.trans k.fr fun b hb hlt => (h.own b hb).resolve_right (by omega), fun b hb => ?_, k.ptr.trans h.ptr⟩
  rcases k.own b hb with h1 | h1
  · exact h.own b h1
  · exact .inr (Nat.le_trans h.fr.size h1)
theorem isDigit_c (n : Int) (w : World) : Calls Tryz.prog 112 #[.int .u8 n] w fun e w' => e = .returned (.bool (decide (48 <= n /\ n <= 57))) /\ w' = w := by
  refine F112_calls n w _ ?_
  refine Br.of (fun h => ⟨?_, rfl⟩) (fun h => ⟨?_, rfl⟩)
  · have h := dtrue h
    congr 2
    exact decide_eq_decide.2 ⟨fun h2 => ⟨by omega, h2⟩, fun h2 => h2.2⟩
  · have h := dfalse h
    rw [decide_eq_false (by omega)]
theorem byteAt {s : ByteArray} {k : Nat} {b : UInt8} (h : s.data.toList[k]? = some b) : s[k]? = some b := by
  obtain ⟨h1, h2⟩ := List.getElem?_eq_some_iff.1 h
  have h3 : k < s.size := by simpa using h1
  rw [getElem?_pos s k h3]
  congr 1
theorem rIsName_c (w : World) (s : ByteArray) : Calls Tryz.prog 92 #[.string s] w fun e w' => e = .returned (.bool (decide (isNm s))) /\ w' = w := by
  refine F92_calls s w _ ?_
  refine Br.of (fun h => ?_) (fun h0 => Br.of (fun h => ?_) (fun h1 => ?_))
  · have h := dtrue h
    have : ¬ isNm s := fun hn => hn.1 (by omega)
    exact ⟨by simp [this], rfl⟩
  · have h := dtrue h
    have : ¬ isNm s := fun hn => by have := hn.2.1; omega
    exact ⟨by simp [this], rfl⟩
  · have h0 := dfalse h0
    have h1 := dfalse h1
    have hsz : s.data.toList.length = s.size := by rw [Array.length_toList]; rfl
    refine loopUp s.data.toList.length (fun k t w' => w' = w /\ t = (k : Int) /\ ∀ j x, j < k -> s.data.toList[j]? = some x -> okc x) ⟨rfl, rfl, fun j x hj => by omega⟩ ?_
    rintro k J t w' hk ⟨rfl, rfl, hall⟩ hJ
    refine Br.of (fun hlt => ?_) (fun hge => ?_)
    · have hlt' : k < s.data.toList.length := by have := dtrue hlt; omega
      obtain ⟨x, hx⟩ : ∃ x, s.data.toList[k]? = some x := ⟨s.data.toList[k], by simp [hlt']⟩
      have hT : okc x -> J (IntKind.i64.wrap ((k : Int) + 1)) w' := fun ho => by
        rw [wrap_in (by omega) (by omega)]
        refine hJ _ _ hlt' ⟨rfl, rfl, fun j y hj hy => ?_⟩
        by_cases e : j = k
        · subst e; rw [hx] at hy; cases hy; exact ho
        · exact hall j y (by omega) hy
      have hF : ¬ okc x -> (Ending.returned (Value.bool false) = Ending.returned (Value.bool (decide (isNm s))) /\ w' = w') := fun ho => by
        have : ¬ isNm s := fun hn => ho (hn.2.2 x (List.mem_of_getElem? hx))
        exact ⟨by simp [this], rfl⟩
      refine ⟨x, by omega, by rw [Int.toNat_natCast]; exact byteAt hx, ?_⟩
      have hu := x.toNat_lt
      unfold okc at hT hF
      have dig : ∀ (_ : ¬ ((65 <= x.toNat /\ x.toNat <= 90) ∨ (97 <= x.toNat /\ x.toNat <= 122))), Calls Tryz.prog 112 #[.int .u8 ((x.toNat : Nat) : Int)] w' fun e w2 => ∃ b38 : Bool, e = .returned (.bool b38) /\ Br b38 (J (IntKind.i64.wrap ((k : Int) + 1)) w2) (Br (!(((x.toNat : Nat) : Int) == 46)) (Ending.returned (Value.bool false) = Ending.returned (Value.bool (decide (isNm s))) /\ w2 = w') (J (IntKind.i64.wrap ((k : Int) + 1)) w2)) := fun hl => by
        refine Calls.mono (isDigit_c _ w') ?_
        rintro e w2 ⟨rfl, rfl⟩
        refine ⟨_, rfl, Br.of (fun h => hT ?_) (fun h => Br.of (fun h2 => hF ?_) (fun h2 => hT ?_))⟩
        · have := dtrue h; omega
        · have := dfalse h
          have h2 : x.toNat ≠ 46 := by intro e; simp [e] at h2
          omega
        · have h2 : x.toNat = 46 := by
            have : ((x.toNat : Nat) : Int) = 46 := by simpa using h2
            omega
          omega
      refine Br.of (fun c1 => Br.of (fun c2 => ?_) (fun c2 => Br.of (fun c3 => Br.of (fun c4 => ?_) (fun c4 => ?_)) (fun c3 => ?_))) (fun c1 => Br.of (fun c3 => Br.of (fun c4 => ?_) (fun c4 => ?_)) (fun c3 => ?_))
      all_goals simp only [decide_eq_true_eq, decide_eq_false_iff_not] at *
      all_goals first | exact hT (by omega) | exact dig (by omega)
    · have hk' : ¬ k < s.data.toList.length := by have := dfalse hge; omega
      have : isNm s := ⟨by omega, by omega, fun x hx => by
        obtain ⟨j, hj, e⟩ := List.getElem_of_mem hx
        exact hall j x (by omega) (by rw [← e]; exact List.getElem?_eq_getElem hj)⟩
      exact ⟨by simp [this], rfl⟩
end Go.Proofs.YtnigfiljenfgjaaGreat

/- The disk's reference: where a file stands, what is asked, what a cache holds; changing a cache or a file. -/
set_option maxRecDepth 100000
set_option linter.unusedVariables false
set_option linter.unusedSimpArgs false
namespace Go.Proofs.YtnigfiljenfgjaaGreat
open Go.Sh Go.RowKit
theorem u69 : Tryz.prog.underlying 69 = some (.map 9 114) := by kernel_rfl
theorem u114 : Tryz.prog.underlying 114 = some (.slice 116) := by kernel_rfl
theorem zval114 (w : World) : (zeroValue 114).run Tryz.prog w = .ok (.slice none 0 0) w := by
  have h : ((Tryz.prog.info? 114).bind (·.zero)) = some (.slice none 0 0) := by kernel_rfl
  obtain ⟨i, hi, hz⟩ := Option.bind_eq_some_iff.1 h
  simp [zeroValue, typeInfo, hi, hz]
theorem info116 : (Tryz.prog.info? 116).map (fun i => (i.zero, i.size, i.bytes)) = some (some (.agg #[.bool false, .bool false, .int .u8 0]), 3, 3) := by kernel_rfl
theorem size116 : sizeB Tryz.prog 116 = 3 := by kernel_rfl
variable {w w' : World} {r : RLay} {ρ : RSys}
theorem at_k {α : Type} {l : List α} {k : Nat} (h : k < l.length) : ∃ x, l[k]? = some x := ⟨_, List.getElem?_eq_getElem h⟩
theorem AL.get_at {κ ν : Type} [DecidableEq κ] {l : List (κ × ν)} (hn : (l.map Prod.fst).Nodup) {k : Nat} {q : κ × ν} (h : l[k]? = some q) : AL.get l q.1 = some q.2 := AL.get_of_mem hn (List.mem_of_getElem? h)
def At (l : List (ByteArray × List UInt8)) (name : ByteArray) (n : Int) : Prop := (n = -1 /\ AL.get l name = none) ∨ ∃ (k : Nat) (b : List UInt8), n = (k : Int) /\ l[k]? = some (name, b) /\ AL.get l name = some b
theorem at_c (h : RSysAt w r ρ) (name : ByteArray) : Calls Tryz.prog 42 #[r.ptr, .string name] w fun e w' => ∃ n, e = .returned (.int .i64 n) /\ At ρ.files name n /\ w' = w := by
  refine F42_calls _ name w _ ?_
  have hl := h.fl.len (fcells_len r.fb) (by omega)
  have hc := h.fl.le_cap
  have hm : maxLen = 9223372036854775807 := by unfold maxLen; omega
  refine loopUp ρ.files.length (fun k t w' => w' = w /\ t = (k : Int) /\ ∀ j q, j < k -> ρ.files[j]? = some q -> q.1 ≠ name) ⟨rfl, rfl, fun j q hj => by omega⟩ ?_
  rintro k J t w' hk ⟨rfl, rfl, hall⟩ hJ
  refine ⟨r.fs, h.cell0, Br.of (fun hlt => ?_) (fun hge => ?_)⟩
  · have hlt' : k < ρ.files.length := by have := dtrue hlt; omega
    obtain ⟨q, hq⟩ := at_k hlt'
    obtain ⟨a, ha, hi, hcell⟩ := h.fl.elem (fcells_len r.fb) hq (o := 0) (v := .string q.1) rfl
    have e0 : ∀ a : Addr, a.add 0 = a := fun a => by simp [Addr.add]
    rw [e0] at hcell
    refine ⟨r.fs, h.cell0, a, ha, by omega, by omega, q.1, by rw [Int.toNat_natCast]; exact hcell, ?_⟩
    rw [toList_beq]
    refine Br.of (fun h1 => ?_) (fun h1 => ?_)
    · have h1 : q.1 = name := dtrue h1
      subst h1
      exact ⟨_, rfl, .inr ⟨k, q.2, rfl, hq, AL.get_at h.fnd hq⟩, rfl⟩
    · have h1 : q.1 ≠ name := dfalse h1
      rw [wrap_in (by omega) (by omega)]
      refine hJ _ _ hlt' ⟨rfl, rfl, fun j q' hj hq' => ?_⟩
      by_cases e : j = k
      · subst e; rw [hq] at hq'; cases hq'; exact h1
      · exact hall j q' (by omega) hq'
  · have hge := dfalse hge
    refine ⟨-1, rfl, .inl ⟨rfl, AL.get_none.2 fun hm => ?_⟩, rfl⟩
    obtain ⟨q, hq, e⟩ := List.mem_map.1 hm
    obtain ⟨j, hj, hje⟩ := List.getElem_of_mem hq
    exact hall j q (by omega) (by rw [← hje]; exact List.getElem?_eq_getElem hj) e
theorem At.some {l : List (ByteArray × List UInt8)} {name : ByteArray} {n : Int} {b : List UInt8} (h : At l name n) (hb : AL.get l name = some b) : ∃ k : Nat, n = (k : Int) /\ l[k]? = some (name, b) := by
  rcases h with ⟨_, h⟩ | ⟨k, b', h1, h2, h3⟩
  · rw [hb] at h; cases h
  · rw [hb] at h3; cases h3; exact ⟨k, h1, h2⟩
def rAsk (name : ByteArray) (ρ : RSys) : Int := if ¬ isNm name then 1 else if (AL.get ρ.files name).isNone then 4 else 0
def rBoth (u : Int) (name : ByteArray) (ρ : RSys) : Int := if u < 0 ∨ u ≥ 4 then 1 else rAsk name ρ
theorem asked_c (h : RSysAt w r ρ) (name : ByteArray) : Calls Tryz.prog 41 #[r.ptr, .string name] w fun e w' => e = .returned (.int .i64 (rAsk name ρ)) /\ w' = w := by
  refine F41_calls _ name w _ ?_
  refine Calls.mono (rIsName_c w name) ?_
  rintro e w1 ⟨rfl, rfl⟩
  refine ⟨_, rfl, Br.of (fun h1 => ?_) (fun h1 => ?_)⟩
  · have h1 : ¬ isNm name := by simpa using h1
    exact ⟨by rw [rAsk, if_pos h1], rfl⟩
  have h1 : isNm name := by simpa using h1
  refine Calls.mono (at_c h name) ?_
  rintro e w2 ⟨n, rfl, hat, rfl⟩
  refine ⟨_, rfl, ?_⟩
  rcases hat with ⟨rfl, hg⟩ | ⟨k, b, rfl, _, hg⟩
  · exact Br.t rfl ⟨by rw [rAsk, if_neg (by simp [h1]), hg]; rfl, rfl⟩
  · exact Br.f (decide_eq_false (by omega)) ⟨by rw [rAsk, if_neg (by simp [h1]), hg]; rfl, rfl⟩
theorem both_c (h : RSysAt w r ρ) (u : Int) (name : ByteArray) : Calls Tryz.prog 75 #[r.ptr, .int .i64 u, .string name] w fun e w' => e = .returned (.int .i64 (rBoth u name ρ)) /\ w' = w := by
  refine F75_calls _ u name w _ ?_
  refine Br.of (fun h1 => ?_) (fun h1 => Br.of (fun h2 => ?_) (fun h2 => ?_))
  · exact ⟨by rw [rBoth, if_pos (.inl (dtrue h1))], rfl⟩
  · exact ⟨by rw [rBoth, if_pos (.inr (dtrue h2))], rfl⟩
  · refine Calls.mono (asked_c h name) ?_
    rintro e w1 ⟨rfl, rfl⟩
    have h1 := dfalse h1
    have h2 := dfalse h2
    exact ⟨_, rfl, by rw [rBoth, if_neg (by omega)], rfl⟩
theorem rAsk_zero {name : ByteArray} (h : rAsk name ρ = 0) : ∃ b, AL.get ρ.files name = some b := by
  unfold rAsk at h
  split at h
  · cases h
  · split at h
    · cases h
    · rename_i h2
      cases hg : AL.get ρ.files name with
      | none => rw [hg] at h2; exact absurd rfl h2
      | some b => exact ⟨b, rfl⟩
theorem rBoth_zero {u : Int} {name : ByteArray} (h : rBoth u name ρ = 0) : (∃ v : Nat, u = (v : Int) /\ v < 4) /\ ∃ b, AL.get ρ.files name = some b := by
  unfold rBoth at h
  split at h
  · cases h
  · exact ⟨⟨u.toNat, by omega, by omega⟩, rAsk_zero h⟩
theorem RSysAt.file (h : RSysAt w r ρ) {name : ByteArray} {b : List UInt8} {k : Nat} (hk : ρ.files[k]? = some (name, b)) : ∃ a, r.fs.a = some a /\ k < r.fs.len /\ w.cell? ((a.add (k * 2)).add 1) = some (.slice (r.fb name).a (r.fb name).len (r.fb name).cap) /\ RowAt w 5 1 (r.fb name) (b.map u8V) /\ (r.fb name).len = b.length := by
  obtain ⟨a, ha, hi, hcell⟩ := h.fl.elem (fcells_len r.fb) hk (o := 1) (v := .slice (r.fb name).a (r.fb name).len (r.fb name).cap) rfl
  have hr := h.fbs _ (List.mem_of_getElem? hk)
  exact ⟨a, ha, hi, hcell, hr, u8V_map_len b hr⟩
def insideB (b : List UInt8) (at_ n : Int) : Bool := decide (0 <= at_ /\ 0 <= n /\ at_ <= b.length /\ n <= b.length - at_)
theorem inside_c (h : RSysAt w r ρ) {name : ByteArray} {b : List UInt8} (hb : AL.get ρ.files name = some b) (hsz : b.length <= 1000000) (at_ n : Int) :
    Calls Tryz.prog 76 #[r.ptr, .string name, .int .i64 at_, .int .i64 n] w fun e w' => e = .returned (.bool (insideB b at_ n)) /\ Pu w w' := by
  refine F76_calls _ name at_ n w _ ?_
  refine dwE_intro fun w1 hp1 hh1 => ?_
  have h1 := h.pu hp1
  refine ⟨fun w' => w' = w1, rfl, r.fs, fun w' e => by rw [e]; exact h1.cell0, ?_⟩
  refine Calls.mono (at_c h1 name) ?_
  rintro e w2 ⟨m, rfl, hat, rfl⟩
  obtain ⟨k, rfl, hk⟩ := hat.some hb
  obtain ⟨a, ha, hi, hcell, hrow, hlen⟩ := h1.file hk
  refine ⟨_, rfl, rfl, a, ha, by omega, by omega, r.fb name, fun w' e => by rw [e, Int.toNat_natCast]; exact hcell, ?_⟩
  rw [hlen]
  refine Br.of (fun c1 => Br.of (fun c2 => Br.of (fun c3 => ?_) (fun c3 => ?_)) (fun c2 => ?_)) (fun c1 => ?_)
  · have c1 := dtrue c1
    have c2 := dtrue c2
    have c3 := dtrue c3
    refine ⟨?_, hp1⟩
    rw [wrap_in (by omega) (by omega)]
    congr 2
    exact decide_eq_decide.2 ⟨fun h => ⟨c1, c2, c3, h⟩, fun h => h.2.2.2⟩
  · have c3 := dfalse c3
    exact ⟨by rw [insideB, decide_eq_false (by omega)], hp1⟩
  · have c2 := dfalse c2
    exact ⟨by rw [insideB, decide_eq_false (by omega)], hp1⟩
  · have c1 := dfalse c1
    exact ⟨by rw [insideB, decide_eq_false (by omega)], hp1⟩
def RSys.cOf (ρ : RSys) (u : Nat) (name : ByteArray) : List B3 := (AL.get (ρ.caches u) name).getD []
theorem crow_get (cs : ByteArray -> SV) (l : List (ByteArray × List B3)) (name : ByteArray) : AL.get (crow cs l) name = (AL.get l name).map fun _ => cs name := by
  induction l with
  | nil => rfl
  | cons q l ih =>
    obtain ⟨a, b⟩ := q
    simp only [List.map_cons, AL.get]
    by_cases e : a = name
    · subst e; simp
    · simp only [if_neg e]; exact ih
theorem crow_keys (cs : ByteArray -> SV) (l : List (ByteArray × List B3)) : (crow cs l).map Prod.fst = l.map Prod.fst := by simp [crow, Function.comp_def]
theorem crow_put (cs : ByteArray -> SV) (l : List (ByteArray × List B3)) (hn : (l.map Prod.fst).Nodup) (name : ByteArray) (s : SV) (v : List B3) : AL.put (crow cs l) name s = crow (fun x => if x = name then s else cs x) (AL.put l name v) := by
  induction l with
  | nil => simp [AL.put]
  | cons q l ih =>
    obtain ⟨a, b⟩ := q
    simp only [List.map_cons, List.nodup_cons] at hn
    simp only [List.map_cons, AL.put]
    by_cases e : a = name
    · subst e
      simp only [if_true, List.map_cons, List.cons.injEq, true_and]
      refine List.map_congr_left fun p hp => ?_
      have : p.1 ≠ a := fun h => hn.1 (h ▸ List.mem_map_of_mem hp)
      simp [this]
    · simp only [if_neg e, List.map_cons]
      exact congrArg (List.cons (a, cs a)) (ih hn.2)
theorem crow_put_same (cs : ByteArray -> SV) (l : List (ByteArray × List B3)) {name : ByteArray} (hg : AL.get l name ≠ none) (v : List B3) : crow cs (AL.put l name v) = crow cs l := by
  induction l with
  | nil => exact absurd rfl hg
  | cons q l ih =>
    obtain ⟨a, b⟩ := q
    simp only [AL.get] at hg
    simp only [AL.put]
    by_cases e : a = name
    · simp [e]
    · simp only [if_neg e] at hg ⊢
      exact congrArg (List.cons (a, cs a)) (ih hg)
theorem RSysAt.cnd (h : RSysAt w r ρ) {u : Nat} (hu : u < 4) : ((ρ.caches u).map Prod.fst).Nodup := by
  have := (h.mp u hu).nodup
  rwa [crow_keys] at this
theorem RSysAt.cache (h : RSysAt w r ρ) {u : Nat} (hu : u < 4) (name : ByteArray) : ∃ s : SV, (Instr.lookup 69 (.map (some (r.c u))) (.string name) false).run Tryz.prog w = .ok (.slice s.a s.len s.cap) w /\ RowAt w 116 3 s ((ρ.cOf u name).flatMap B3.cells) /\
    (∀ b ∈ blkOf s, r.o b = some (.c u name)) /\ (AL.get (ρ.caches u) name ≠ none -> s = r.cs u name) := by
  have hl := (h.mp u hu).look keysS u69 (zval114 w) name false
  simp only [Bool.false_eq_true, if_false] at hl
  unfold RSys.cOf
  cases hg : AL.get (ρ.caches u) name with
  | none =>
    rw [crow_get, hg] at hl
    exact ⟨⟨none, 0, 0⟩, hl, RowAt.nil _ _ _, by simp [blkOf], fun h => absurd rfl h⟩
  | some v =>
    rw [crow_get, hg] at hl
    have hm := AL.get_mem hg
    exact ⟨r.cs u name, hl, h.cb u hu _ hm, h.oc u hu _ hm, fun _ => rfl⟩
def RSys.setC (ρ : RSys) (u : Nat) (name : ByteArray) (l : List B3) : RSys := { ρ with caches := fun v => if v = u then AL.put (ρ.caches u) name l else ρ.caches v }
def RLay.putC (r : RLay) (u : Nat) (name : ByteArray) (s : SV) (N : Nat) : RLay := { r with cs := fun v x => if v = u /\ x = name then s else r.cs v x, o := fun b => if N <= b /\ b ∈ blkOf s then some (.c u name) else r.o b }
theorem AL.mem_put' {κ ν : Type} [DecidableEq κ] {l : List (κ × ν)} (hn : (l.map Prod.fst).Nodup) {k : κ} {v : ν} {q : κ × ν} (h : q ∈ AL.put l k v) : q = (k, v) ∨ (q ∈ l /\ q.1 ≠ k) := by
  have h2 : ((AL.put l k v).map Prod.fst).Nodup := AL.nodup_put hn k v
  have h3 := AL.get_of_mem h2 h
  rw [AL.get_put] at h3
  split at h3
  · rename_i e
    left
    obtain ⟨a, b⟩ := q
    simp only at e h3
    simp only [Option.some.injEq] at h3
    rw [← e, ← h3]
  · rename_i e
    exact .inr ⟨AL.get_mem h3, fun h => e h.symm⟩
theorem RSysAt.putC (h : RSysAt w r ρ) {u : Nat} (hu : u < 4) {name : ByteArray} {s : SV} {l : List B3} {B : Nat -> Prop} (hm : MapAt w' ekS evS (r.c u) (AL.put (crow (r.cs u) (ρ.caches u)) name s)) (hrow : RowAt w' 116 3 s (l.flatMap B3.cells)) (hf : Fr B w w')
    (hB : ∀ b, b < w.heap.size -> B b -> r.o b = some (.m u) ∨ r.o b = some (.c u name) ∨ r.o b = none) (hs : ∀ b ∈ blkOf s, r.o b = some (.c u name) ∨ w.heap.size <= b) : RSysAt w' (r.putC u name s w.heap.size) (ρ.setC u name l) := by
  have hlt := h.lt
  have ho : ∀ b, r.o b ≠ none -> (r.putC u name s w.heap.size).o b = r.o b := fun b hb => by
    have := hlt b hb
    simp only [RLay.putC]
    rw [if_neg (by omega)]
  have hnB : ∀ {b : Nat} {κ : RKey}, r.o b = some κ -> κ ≠ .m u -> κ ≠ .c u name -> ¬ B b := fun {b κ} hb h1 h2 hBb => by
    rcases hB b (hlt b (by rw [hb]; simp)) hBb with h3 | h3 | h3
    · rw [hb] at h3; exact h1 (Option.some.inj h3)
    · rw [hb] at h3; exact h2 (Option.some.inj h3)
    · rw [hb] at h3; cases h3
  refine ⟨hf.blk h.st (hnB h.oS (by simp) (by simp)), h.fl.fr hf fun b hb => hnB (h.ofs b hb) (by simp) (by simp), fun f hf' => (h.fbs f hf').fr hf fun b hb => hnB (h.of f hf' b hb) (by simp) (by simp), h.fnd, fun v hv => ?_, fun v hv q hq => ?_, h.lk.fr hf fun b hb => hnB (h.ols b hb) (by simp) (by simp), ?_, fun b hb => ?_, fun b hb => ?_, fun v hv => ?_, fun f hf' b hb => ?_, fun v hv q hq b hb => ?_, fun b hb => ?_⟩
  · by_cases e : v = u
    · subst e
      simp only [RLay.putC, RSys.setC, if_true]
      rw [crow_put _ _ (h.cnd hu) name s l] at hm
      simpa using hm
    · simp only [RLay.putC, RSys.setC, if_neg e]
      have := (h.mp v hv).fr hf (hnB (h.om v hv) (by simp [e]) (by simp))
      simpa [e] using this
  · by_cases e : v = u
    · subst e
      simp only [RSys.setC, if_true] at hq
      rcases AL.mem_put' (h.cnd hu) hq with rfl | ⟨hq, hne⟩
      · simpa [RLay.putC] using hrow
      · have := (h.cb v hv q hq).fr hf fun b hb => hnB (h.oc v hv q hq b hb) (by simp) (by simp [hne])
        simpa [RLay.putC, hne] using this
    · simp only [RSys.setC, if_neg e] at hq
      have := (h.cb v hv q hq).fr hf fun b hb => hnB (h.oc v hv q hq b hb) (by simp) (by simp [e])
      simpa [RLay.putC, e] using this
  · rw [show (r.putC u name s w.heap.size).S = r.S from rfl, ho _ (by rw [h.oS]; simp)]; exact h.oS
  · rw [ho _ (by rw [h.ofs b hb]; simp)]; exact h.ofs b hb
  · rw [ho _ (by rw [h.ols b hb]; simp)]; exact h.ols b hb
  · rw [show (r.putC u name s w.heap.size).c = r.c from rfl, ho _ (by rw [h.om v hv]; simp)]; exact h.om v hv
  · rw [ho _ (by rw [h.of f hf' b hb]; simp)]; exact h.of f hf' b hb
  · by_cases e : v = u
    · subst e
      simp only [RSys.setC, if_true] at hq
      rcases AL.mem_put' (h.cnd hu) hq with rfl | ⟨hq, hne⟩
      · have hb : b ∈ blkOf s := by simpa [RLay.putC] using hb
        rcases hs b hb with h1 | h1
        · rw [ho _ (by rw [h1]; simp)]; exact h1
        · simp only [RLay.putC]; rw [if_pos ⟨h1, hb⟩]
      · have hb : b ∈ blkOf (r.cs v q.1) := by simpa [RLay.putC, hne] using hb
        rw [ho _ (by rw [h.oc v hv q hq b hb]; simp)]; exact h.oc v hv q hq b hb
    · simp only [RSys.setC, if_neg e] at hq
      have hb : b ∈ blkOf (r.cs v q.1) := by simpa [RLay.putC, e] using hb
      rw [ho _ (by rw [h.oc v hv q hq b hb]; simp)]; exact h.oc v hv q hq b hb
  · simp only [RLay.putC] at hb
    split at hb
    · rename_i h1
      exact hrow.lt b h1.2
    · exact Nat.lt_of_lt_of_le (hlt b hb) hf.size
theorem RLeft.putC (h : RSysAt w r ρ) {u : Nat} (hu : u < 4) {name : ByteArray} {s : SV} {l : List B3} {B : Nat -> Prop} (hm : MapAt w' ekS evS (r.c u) (AL.put (crow (r.cs u) (ρ.caches u)) name s)) (hrow : RowAt w' 116 3 s (l.flatMap B3.cells)) (hf : Fr B w w')
    (hB : ∀ b, b < w.heap.size -> B b -> r.o b = some (.m u) ∨ r.o b = some (.c u name)) (hs : ∀ b ∈ blkOf s, r.o b = some (.c u name) ∨ w.heap.size <= b) : RLeft w w' r (r.putC u name s w.heap.size) (ρ.setC u name l) := by
  refine ⟨h.putC hu hm hrow hf (fun b hlt hb => (hB b hlt hb).elim .inl fun h => .inr (.inl h)) hs, hf.mono fun b hb hlt => ?_, fun b hb => ?_, rfl⟩
  · rcases hB b hlt hb with h1 | h1 <;> rw [h1] <;> simp
  · simp only [RLay.putC] at hb
    split at hb
    · rename_i h1; exact .inr h1.1
    · exact .inl hb
theorem RSysAt.rowC (h : RSysAt w r ρ) {u : Nat} (hu : u < 4) {name : ByteArray} (hg : AL.get (ρ.caches u) name ≠ none) {l : List B3} {B : Nat -> Prop} (hrow : RowAt w' 116 3 (r.cs u name) (l.flatMap B3.cells)) (hf : Fr B w w')
    (hB : ∀ b, b < w.heap.size -> B b -> r.o b = some (.c u name) ∨ r.o b = none) : RSysAt w' r (ρ.setC u name l) := by
  have hlt := h.lt
  have hnB : ∀ {b : Nat} {κ : RKey}, r.o b = some κ -> κ ≠ .c u name -> ¬ B b := fun {b κ} hb h2 hBb => by
    rcases hB b (hlt b (by rw [hb]; simp)) hBb with h3 | h3
    · rw [hb] at h3; exact h2 (Option.some.inj h3)
    · rw [hb] at h3; cases h3
  refine ⟨hf.blk h.st (hnB h.oS (by simp)), h.fl.fr hf fun b hb => hnB (h.ofs b hb) (by simp), fun f hf' => (h.fbs f hf').fr hf fun b hb => hnB (h.of f hf' b hb) (by simp), h.fnd, fun v hv => ?_, fun v hv q hq => ?_, h.lk.fr hf fun b hb => hnB (h.ols b hb) (by simp), h.oS, h.ofs, h.ols, h.om, h.of, fun v hv q hq b hb => ?_, fun b hb => Nat.lt_of_lt_of_le (hlt b hb) hf.size⟩
  · have hm := (h.mp v hv).fr hf (hnB (h.om v hv) (by simp))
    by_cases e : v = u
    · subst e
      simp only [RSys.setC, if_true]
      rw [crow_put_same _ _ hg]; exact hm
    · simp only [RSys.setC, if_neg e]; exact hm
  · by_cases e : v = u
    · subst e
      simp only [RSys.setC, if_true] at hq
      rcases AL.mem_put' (h.cnd hu) hq with rfl | ⟨hq, hne⟩
      · exact hrow
      · exact (h.cb v hv q hq).fr hf fun b hb => hnB (h.oc v hv q hq b hb) (by simp [hne])
    · simp only [RSys.setC, if_neg e] at hq
      exact (h.cb v hv q hq).fr hf fun b hb => hnB (h.oc v hv q hq b hb) (by simp [e])
  · by_cases e : v = u
    · subst e
      simp only [RSys.setC, if_true] at hq
      rcases AL.mem_put' (h.cnd hu) hq with rfl | ⟨hq, hne⟩
      · cases hgg : AL.get (ρ.caches v) name with
        | none => exact absurd hgg hg
        | some v0 => exact h.oc v hv _ (AL.get_mem hgg) b hb
      · exact h.oc v hv q hq b hb
    · simp only [RSys.setC, if_neg e] at hq
      exact h.oc v hv q hq b hb
theorem RLeft.rowC (h : RSysAt w r ρ) {u : Nat} (hu : u < 4) {name : ByteArray} (hg : AL.get (ρ.caches u) name ≠ none) {l : List B3} {B : Nat -> Prop} (hrow : RowAt w' 116 3 (r.cs u name) (l.flatMap B3.cells)) (hf : Fr B w w')
    (hB : ∀ b, b < w.heap.size -> B b -> r.o b = some (.c u name)) : RLeft w w' r r (ρ.setC u name l) :=
  ⟨h.rowC hu hg hrow hf fun b hlt hb => .inl (hB b hlt hb), hf.mono fun b hb hlt => by rw [hB b hlt hb]; simp, fun b hb => .inl hb, rfl⟩
def hasP (l : List B3) (p : Nat) : Bool := (List.range 32).any fun j => (l.getD (p * 32 + j) B3.zero).is
theorem has_c {s : SV} {l : List B3} (hrow : RowAt w 116 3 s (l.flatMap B3.cells)) (hl : l.length <= 1000000) (p : Nat) (hp : p <= 1000000) : Calls Tryz.prog 84 #[.slice s.a s.len s.cap, .int .i64 (p : Int)] w fun e w' => e = .returned (.bool (hasP l p)) /\ w' = w := by
  refine F84_calls s _ w _ ?_
  have hlen := hrow.len B3.len (by omega)
  show F84_3 _ _ _ (IntKind.i64.wrap ((p : Int) * 32)) _ _
  rw [wrap_in (by omega) (by omega)]
  refine loopUp 32 (fun j t w' => w' = w /\ t = (p : Int) * 32 + (j : Int) /\ ∀ i, i < j -> (l.getD (p * 32 + i) B3.zero).is = false) ⟨rfl, by omega, fun i hi => by omega⟩ ?_
  rintro j J t w' hj ⟨rfl, rfl, hall⟩ hJ
  have done : (∀ i, i < 32 -> j <= i -> (l.getD (p * 32 + i) B3.zero).is = false) -> hasP l p = false := fun h => by
    simp only [hasP, List.any_eq_false, List.mem_range]
    intro i hi
    by_cases h2 : i < j
    · rw [hall i h2]; simp
    · rw [h i hi (by omega)]; simp
  unfold F84_2
  rw [wrap_in (n := (p : Int) + 1) (by omega) (by omega), wrap_in (n := ((p : Int) + 1) * 32) (by omega) (by omega)]
  refine Br.of (fun c1 => Br.of (fun c2 => ?_) (fun c2 => ?_)) (fun c1 => ?_)
  · have c1 := dtrue c1
    have c2 := dtrue c2
    have hlt : p * 32 + j < l.length := by omega
    obtain ⟨x, hx⟩ := at_k hlt
    obtain ⟨a, ha, hi, hcell⟩ := hrow.elem B3.len hx (o := 0) (v := .bool x.is) rfl
    have e0 : ∀ a : Addr, a.add 0 = a := fun a => by simp [Addr.add]
    rw [e0] at hcell
    have hxd : (l.getD (p * 32 + j) B3.zero) = x := by simp [List.getD, hx]
    refine ⟨a, ha, by omega, by omega, x.is, by rw [show ((p : Int) * 32 + (j : Int)).toNat = p * 32 + j by omega]; exact hcell, Br.of (fun c3 => ?_) (fun c3 => ?_)⟩
    · refine ⟨?_, rfl⟩
      have : hasP l p = true := by
        simp only [hasP, List.any_eq_true, List.mem_range]
        exact ⟨j, by omega, by rw [hxd]; exact c3⟩
      rw [this]
    · rw [wrap_in (by omega) (by omega)]
      refine hJ _ _ (by omega) ⟨rfl, by omega, fun i hi => ?_⟩
      by_cases h2 : i = j
      · subst h2; rw [hxd]; exact c3
      · exact hall i (by omega)
  · have c2 := dfalse c2
    refine ⟨?_, rfl⟩
    rw [done fun i hi hij => by
      have : l[p * 32 + i]? = none := List.getElem?_eq_none (by omega)
      simp [List.getD, this, B3.zero]]
  · have c1 := dfalse c1
    refine ⟨?_, rfl⟩
    rw [done fun i hi hij => by omega]
end Go.Proofs.YtnigfiljenfgjaaGreat

/- The disk's reference: fetching. -/
set_option maxRecDepth 100000
set_option linter.unusedVariables false
set_option linter.unusedSimpArgs false
namespace Go.Proofs.YtnigfiljenfgjaaGreat
open Go.Sh Go.RowKit
def rm {α : Type} (N : Nat) (f : Nat -> α) : List α := (List.range N).map f
theorem rm_len {α : Type} (N : Nat) (f : Nat -> α) : (rm N f).length = N := by simp [rm]
theorem rm_get {α : Type} {N i : Nat} (f : Nat -> α) (h : i < N) : (rm N f)[i]? = some (f i) := by simp [rm, List.getElem?_range h]
theorem rm_getD {α : Type} {N : Nat} (f : Nat -> α) (i : Nat) (d : α) : (rm N f).getD i d = if i < N then f i else d := by
  by_cases h : i < N
  · simp [List.getD, rm_get f h, h]
  · rw [if_neg h, List.getD, List.getElem?_eq_none (by rw [rm_len]; omega)]; rfl
theorem rm_set {α : Type} {N m : Nat} (f : Nat -> α) (y : α) : (rm N f).set m y = rm N fun i => if i = m then y else f i := by
  apply List.ext_getElem?
  intro i
  by_cases hi : i < N
  · rw [rm_get _ hi]
    by_cases e : m = i
    · subst e; rw [List.getElem?_set_self (by rw [rm_len]; exact hi), if_pos rfl]
    · rw [List.getElem?_set_ne e, rm_get f hi, if_neg (Ne.symm e)]
  · rw [List.getElem?_eq_none (by rw [List.length_set, rm_len]; omega), List.getElem?_eq_none (by rw [rm_len]; omega)]
theorem rm_ext {α : Type} {N : Nat} {f g : Nat -> α} (h : ∀ i, i < N -> f i = g i) : rm N f = rm N g := by
  unfold rm
  exact List.map_congr_left fun i hi => h i (List.mem_range.1 hi)
theorem rm_of {α : Type} (l : List α) (d : α) : l = rm l.length fun i => l.getD i d := by
  apply List.ext_getElem?
  intro i
  by_cases hi : i < l.length
  · rw [rm_get _ hi, List.getElem?_eq_getElem hi]; simp [List.getD, List.getElem?_eq_getElem hi]
  · rw [List.getElem?_eq_none (by omega), List.getElem?_eq_none (by rw [rm_len]; omega)]
theorem rm_grow {α : Type} (l : List α) (d : α) (k : Nat) : l ++ List.replicate k d = rm (l.length + k) fun i => l.getD i d := by
  apply List.ext_getElem?
  intro i
  by_cases hi : i < l.length
  · rw [rm_get _ (by omega), List.getElem?_append_left hi, List.getElem?_eq_getElem hi]; simp [List.getD, List.getElem?_eq_getElem hi]
  · by_cases hk : i < l.length + k
    · rw [rm_get _ hk, List.getElem?_append_right (by omega), List.getElem?_replicate, if_pos (by omega)]
      simp [List.getD, List.getElem?_eq_none (show l.length <= i by omega)]
    · rw [List.getElem?_eq_none (by simp; omega), List.getElem?_eq_none (by rw [rm_len]; omega)]
theorem tdiv32 (a : Nat) : ((a : Nat) : Int).tdiv 32 = ((a / 32 : Nat) : Int) := rfl
def fetchAt (c : List B3) (b : List UInt8) (at_ n i : Nat) : B3 :=
  if at_ / 32 <= i / 32 /\ i / 32 <= (at_ + n - 1) / 32 /\ (c.getD i B3.zero).is = false /\ (hasP c (i / 32) = false ∨ (at_ <= i /\ i < at_ + n)) then ⟨true, false, b.getD i 0⟩ else c.getD i B3.zero
def fetchTo (c : List B3) (b : List UInt8) (at_ n m : Nat) : List B3 := rm b.length fun i => if i < m then fetchAt c b at_ n i else c.getD i B3.zero
def rFetch (c : List B3) (b : List UInt8) (at_ n : Nat) : List B3 := rm b.length (fetchAt c b at_ n)
theorem fetchTo_start (c : List B3) (b : List UInt8) (at_ n : Nat) : fetchTo c b at_ n (at_ / 32 * 32) = rm b.length fun i => c.getD i B3.zero := by
  refine rm_ext fun i hi => ?_
  split
  · unfold fetchAt
    rw [if_neg (by omega)]
  · rfl
theorem fetchTo_end (c : List B3) (b : List UInt8) (at_ n : Nat) : fetchTo c b at_ n (((at_ + n - 1) / 32 + 1) * 32) = rFetch c b at_ n := by
  refine rm_ext fun i hi => ?_
  split
  · rfl
  · unfold fetchAt
    rw [if_neg (by omega)]
theorem fetchTo_step (c : List B3) (b : List UInt8) (at_ n m : Nat) : (fetchTo c b at_ n m).set m (fetchAt c b at_ n m) = fetchTo c b at_ n (m + 1) := by
  unfold fetchTo
  rw [rm_set]
  refine rm_ext fun i hi => ?_
  by_cases e : i = m
  · subst e; simp
  · rw [if_neg e]
    by_cases h : i < m
    · rw [if_pos h, if_pos (by omega)]
    · rw [if_neg h, if_neg (by omega)]
theorem fetchTo_skip {c : List B3} {b : List UInt8} {at_ n m : Nat} (h : m < b.length -> fetchAt c b at_ n m = c.getD m B3.zero) : fetchTo c b at_ n m = fetchTo c b at_ n (m + 1) := by
  refine rm_ext fun i hi => ?_
  by_cases e : i = m
  · subst e; rw [if_neg (Nat.lt_irrefl _), if_pos (by omega), h hi]
  · by_cases h2 : i < m
    · rw [if_pos h2, if_pos (by omega)]
    · rw [if_neg h2, if_neg (by omega)]
theorem fetchTo_past {c : List B3} {b : List UInt8} {at_ n m m' : Nat} (h : b.length <= m) (h' : b.length <= m') : fetchTo c b at_ n m = fetchTo c b at_ n m' := by
  refine rm_ext fun i hi => ?_
  rw [if_pos (by omega), if_pos (by omega)]
theorem has_fetchTo {c : List B3} {b : List UInt8} {at_ n p : Nat} (hc : c.length <= b.length) : hasP (fetchTo c b at_ n (p * 32)) p = hasP c p := by
  unfold hasP
  congr 1
  funext j
  unfold fetchTo
  rw [rm_getD]
  split
  · rw [if_neg (by omega)]
  · have : c[p * 32 + j]? = none := List.getElem?_eq_none (by omega)
    simp [List.getD, this]
variable {w w' : World} {r : RLay} {ρ : RSys}
theorem u116_cells : (Value.agg #[.bool false, .bool false, .int .u8 0]).cells.size = 3 := rfl
theorem row_push3 {s : SV} {l : List B3} (h : RowAt w 116 3 s (l.flatMap B3.cells)) (hl : l.length <= 1000000) {a : Nat} {x : B3} (ha : w.heap[a]? = some (.cells (B3.cells x).toArray 116)) :
    ∃ (s' : SV) (w' : World), (Builtin.append_ #[114, 114] 114 #[.slice s.a s.len s.cap, .slice (some ⟨a, 0, none⟩) 1 1]).run Tryz.prog w = .ok (.slice s'.a s'.len s'.cap) w' /\ RowAt w' 116 3 s' ((l ++ [x]).flatMap B3.cells) /\ Fr (· ∈ blkOf s) w w' /\ (∀ k ∈ blkOf s', k ∈ blkOf s ∨ w.heap.size <= k) /\ s'.len = s.len + 1 := by
  obtain ⟨i, hi, hz, hs, hb⟩ := info_parts info116
  have hlen := h.len B3.len (by omega)
  have := row_append (P := Tryz.prog) (ty := 114) u114 hi hz hs u116_cells (by omega) h (a := ⟨a, 0, none⟩) (m := 1) (c := 1) (news := B3.cells x) rfl (fun j v hv => by
    rw [add_def, cell_blk ha, Nat.zero_add]; simpa using hv) (fun v hv => by simp [B3.cells, u8V] at hv; rcases hv with rfl | rfl | rfl <;> rfl) (by rw [hb, hlen]; omega)
  rw [List.flatMap_append, List.flatMap_singleton]
  exact this
set_option maxHeartbeats 1000000 in
theorem fetch_c (h : RSysAt w r ρ) {u : Nat} (hu : u < 4) {name : ByteArray} {b : List UInt8} (hb : AL.get ρ.files name = some b) (hsz : b.length <= 65536) (hc : (ρ.cOf u name).length <= b.length) (at_ n : Nat) (hin : at_ + n <= b.length) :
    Calls Tryz.prog 77 #[r.ptr, .int .i64 (u : Int), .string name, .int .i64 (at_ : Int), .int .i64 (n : Int)] w fun e w' => e = .returned (.tuple #[]) /\ ∃ r', RLeft w w' r r' (if n = 0 then ρ else ρ.setC u name (rFetch (ρ.cOf u name) b at_ n)) := by
  refine F77_calls _ _ name _ _ w _ ?_
  refine Br.of (fun h1 => ?_) (fun h1 => ?_)
  · have h1 : n = 0 := by have : (n : Int) = 0 := by simpa using h1
                          omega
    exact ⟨rfl, r, by rw [if_pos h1]; exact RLeft.refl h⟩
  have h1 : n ≠ 0 := by intro e; subst e; simp at h1
  rw [if_neg h1]
  refine dwE_intro fun w1 hp1 hh1 => ?_
  have hs1 := h.pu hp1
  refine ⟨fun w' => w' = w1, rfl, r.fs, fun w' e => by rw [e]; exact hs1.cell0, ?_⟩
  refine Calls.mono (at_c hs1 name) ?_
  rintro e w2 ⟨m, rfl, hat, rfl⟩
  obtain ⟨k, rfl, hk⟩ := hat.some hb
  obtain ⟨a, ha, hi, hcell, hrowF, hlenF⟩ := hs1.file hk
  refine ⟨_, rfl, rfl, a, ha, by omega, by omega, r.fb name, fun w' e => by rw [e, Int.toNat_natCast]; exact hcell, ?_⟩
  obtain ⟨s0, hlook, hrow0, hown0, hcs0⟩ := hs1.cache hu name
  refine ⟨by omega, by omega, some (r.c u), hs1.cellC hu, s0, w2, hlook, ?_⟩
  obtain ⟨c, hcdef⟩ : ∃ c, c = ρ.cOf u name := ⟨_, rfl⟩
  rw [← hcdef] at hrow0 hc ⊢
  obtain ⟨B, hBdef⟩ : ∃ B : Nat -> Prop, B = fun x => r.o x = some (.c u name) ∨ w2.heap.size <= x := ⟨_, rfl⟩
  have fileRow : ∀ {w' : World}, Fr B w2 w' -> RowAt w' 5 1 (r.fb name) (b.map u8V) := fun hf => hrowF.fr hf fun x hx hBx => by
    rw [hBdef] at hBx
    have ho := hs1.of _ (List.mem_of_getElem? hk) x hx
    have hlt := hs1.lt x (by rw [ho]; simp)
    rcases hBx with h2 | h2
    · rw [ho] at h2; cases h2
    · omega
  -- the cache is made as long as the file
  refine loopUp (b.length - c.length) (fun j s w' => RowAt w' 116 3 s ((c ++ List.replicate j B3.zero).flatMap B3.cells) /\ Fr B w2 w' /\ ∀ x ∈ blkOf s, B x) ⟨by simpa using hrow0, Fr.refl _ _, fun x hx => by rw [hBdef]; exact .inl (hown0 x hx)⟩ ?_
  rintro j J s w3 hj ⟨hrow3, hf3, hB3⟩ hJ
  have hl3 : s.len = c.length + j := by have := hrow3.len B3.len (by omega); simpa using this
  refine Br.of (fun hlt => ?_) (fun hge => ?_)
  · have hlt : j < b.length - c.length := by have := dtrue hlt; omega
    refine alE_intro fun w4 hw4 => ?_
    have hp4 : Pu w3 w4 := by rw [hw4]; exact Pu.alloc w3 _
    have hn4 : w4.heap[w3.heap.size]? = some (.cells (B3.cells B3.zero).toArray 116) := by rw [hw4]; exact alloc_new w3 _
    obtain ⟨s', w5, hra, hrow5, hf5, hblk5, _⟩ := row_push3 (hrow3.pu hp4) (by simp; omega) hn4
    refine ⟨s', w5, hra, hJ _ _ hlt ⟨?_, (hf3.trans (Fr.pu hp4 : Fr (fun _ => False) _ _) fun _ h _ => h.elim).trans hf5 fun x hx _ => hB3 x hx, fun x hx => ?_⟩⟩
    · rw [List.replicate_succ', ← List.append_assoc]; exact hrow5
    · rcases hblk5 x hx with h2 | h2
      · exact hB3 x h2
      · rw [hBdef]
        right
        have := hf3.size
        have := hp4.size
        omega
  have hge := dfalse hge
  have hjN : c.length + j = b.length := by omega
  rw [rm_grow, hjN, ← fetchTo_start c b at_ n] at hrow3
  refine ⟨rfl, by decide, ?_⟩
  rw [tdiv32, wrap_in (by omega) (by omega)]
  -- page by page
  refine loopUp ((at_ + n - 1) / 32 + 1 - at_ / 32) (fun q t w' => t = ((at_ / 32 + q : Nat) : Int) /\ RowAt w' 116 3 s ((fetchTo c b at_ n ((at_ / 32 + q) * 32)).flatMap B3.cells) /\ Fr B w2 w') ⟨by simp, by simpa using hrow3, hf3⟩ ?_
  rintro q J t w4 hq ⟨rfl, hrow4, hf4⟩ hJ
  refine ⟨rfl, by decide, ?_⟩
  rw [wrap_in (n := (at_ : Int) + (n : Int)) (by omega) (by omega), wrap_in (n := (at_ : Int) + (n : Int) - 1) (by omega) (by omega), show (at_ : Int) + (n : Int) - 1 = ((at_ + n - 1 : Nat) : Int) by omega, tdiv32, wrap_in (by omega) (by omega)]
  refine Br.of (fun hlt => ?_) (fun hge2 => ?_)
  · have hlt := dtrue hlt
    obtain ⟨p, hpd⟩ : ∃ p, p = at_ / 32 + q := ⟨_, rfl⟩
    rw [← hpd] at hrow4 hlt ⊢
    have hp1' : p <= (at_ + n - 1) / 32 := by omega
    have hl4 : s.len = b.length := by have := hrow4.len B3.len (by omega); rw [this, fetchTo, rm_len]
    refine Calls.mono (has_c hrow4 (by rw [fetchTo, rm_len]; omega) p (by omega)) ?_
    rintro e w5 ⟨rfl, rfl⟩
    refine ⟨_, rfl, ?_⟩
    rw [has_fetchTo hc]
    show F77_6 _ _ _ _ _ _ _ _ _ _ _ (IntKind.i64.wrap ((p : Int) * 32)) _ _
    rw [wrap_in (by omega) (by omega)]
    refine loopUp 32 (fun i t w' => t = ((p * 32 + i : Nat) : Int) /\ RowAt w' 116 3 s ((fetchTo c b at_ n (p * 32 + i)).flatMap B3.cells) /\ Fr B w2 w') ⟨by omega, by simpa using hrow4, hf4⟩ ?_
    rintro i J2 t w6 hi ⟨rfl, hrow6, hf6⟩ hJ2
    unfold F77_5
    rw [wrap_in (n := (p : Int) + 1) (by omega) (by omega), wrap_in (n := ((p : Int) + 1) * 32) (by omega) (by omega), hlenF]
    have next : ∀ {w' : World}, RowAt w' 116 3 s ((fetchTo c b at_ n ((p + 1) * 32)).flatMap B3.cells) -> Fr B w2 w' -> J (IntKind.i64.wrap ((p : Int) + 1)) w' := fun {w'} hr hf => by
      rw [wrap_in (by omega) (by omega)]
      exact hJ _ _ (by omega) ⟨by omega, by rw [show at_ / 32 + (q + 1) = p + 1 by omega]; exact hr, hf⟩
    refine Br.of (fun c1 => Br.of (fun c2 => ?_) (fun c2 => ?_)) (fun c1 => ?_)
    · have c1 := dtrue c1
      have c2 := dtrue c2
      have hib : p * 32 + i < b.length := by omega
      have hxi : (fetchTo c b at_ n (p * 32 + i))[p * 32 + i]? = some (c.getD (p * 32 + i) B3.zero) := by
        unfold fetchTo
        rw [rm_get _ hib, if_neg (Nat.lt_irrefl _)]
      obtain ⟨a4, ha4, hi4, hc4⟩ := hrow6.elem B3.len hxi (o := 0) (v := .bool (c.getD (p * 32 + i) B3.zero).is) rfl
      have e0 : ∀ a : Addr, a.add 0 = a := fun a => by simp [Addr.add]
      rw [e0] at hc4
      have hdiv : (p * 32 + i) / 32 = p := by omega
      have skip : fetchAt c b at_ n (p * 32 + i) = c.getD (p * 32 + i) B3.zero -> J2 (IntKind.i64.wrap (((p * 32 + i : Nat) : Int) + 1)) w6 := fun he => by
        rw [wrap_in (by omega) (by omega)]
        exact hJ2 _ _ (by omega) ⟨by omega, by rw [← Nat.add_assoc, ← fetchTo_skip fun _ => he]; exact hrow6, hf6⟩
      have store : fetchAt c b at_ n (p * 32 + i) = ⟨true, false, b.getD (p * 32 + i) 0⟩ -> ∃ a5 : Addr, (r.fb name).a = some a5 /\ 0 <= ((p * 32 + i : Nat) : Int) /\ ((p * 32 + i : Nat) : Int) < (((r.fb name).len : Nat) : Int) /\
          ∃ n100 : Int, w6.cell? (a5.add ((((p * 32 + i : Nat) : Int)).toNat * 1)) = some (.int .u8 n100) /\
          ∃ a6 : Addr, s.a = some a6 /\ 0 <= ((p * 32 + i : Nat) : Int) /\ ((p * 32 + i : Nat) : Int) < ((s.len : Nat) : Int) /\
          stA Tryz.prog 116 (a6.add ((((p * 32 + i : Nat) : Int)).toNat * 3)) #[.bool true, .bool false, .int .u8 n100] w6 fun w7 => J2 (IntKind.i64.wrap (((p * 32 + i : Nat) : Int) + 1)) w7 := fun he => by
        obtain ⟨x, hx⟩ := at_k hib
        obtain ⟨a5, ha5, hc5, _⟩ := (fileRow hf6).cell (j := p * 32 + i) (v := u8V x) (by simp [hx])
        have hbx : b.getD (p * 32 + i) 0 = x := by simp [List.getD, hx]
        rw [hbx] at he
        obtain ⟨a6, ha6, hst⟩ := hrow6.stElem (t := 116) B3.len (by omega) (i := p * 32 + i) (by rw [fetchTo, rm_len]; exact hib) ⟨true, false, x⟩ size116.symm rfl (K := fun w7 => J2 (IntKind.i64.wrap (((p * 32 + i : Nat) : Int) + 1)) w7) fun w7 hrow7 hf7 hs7 => by
          rw [wrap_in (by omega) (by omega)]
          refine hJ2 _ _ (by omega) ⟨by omega, ?_, hf6.trans hf7 fun y hy _ => hB3 y hy⟩
          rw [← he, fetchTo_step] at hrow7
          exact hrow7
        refine ⟨a5, ha5, by omega, by omega, ((x.toNat : Nat) : Int), by rw [Int.toNat_natCast, Nat.mul_one]; exact hc5, a6, ha6, by omega, by omega, ?_⟩
        rw [Int.toNat_natCast]
        exact hst
      refine ⟨a4, ha4, by omega, by omega, _, by rw [Int.toNat_natCast]; exact hc4, Br.of (fun c3 => Br.of (fun c4 => ?_) (fun c4 => ?_)) (fun c3 => ?_)⟩
      · have c3 : (c.getD (p * 32 + i) B3.zero).is = false := by simpa using c3
        have c4 : hasP c p = false := by simpa using c4
        exact store (by unfold fetchAt; rw [hdiv, if_pos ⟨by omega, by omega, c3, .inl c4⟩])
      · have c3 : (c.getD (p * 32 + i) B3.zero).is = false := by simpa using c3
        have c4 : hasP c p = true := by simpa using c4
        refine Br.of (fun c5 => ?_) (fun c5 => ?_)
        · have c5 := dtrue c5
          rw [wrap_in (n := (at_ : Int) + (n : Int)) (by omega) (by omega)]
          refine Br.of (fun c6 => ?_) (fun c6 => ?_)
          · have c6 := dtrue c6
            exact store (by unfold fetchAt; rw [hdiv, if_pos ⟨by omega, by omega, c3, .inr (by omega)⟩])
          · have c6 := dfalse c6
            exact skip (by unfold fetchAt; rw [hdiv, if_neg (by rw [c4]; simp; omega)])
        · have c5 := dfalse c5
          exact skip (by unfold fetchAt; rw [hdiv, if_neg (by rw [c4]; simp; omega)])
      · have c3 : (c.getD (p * 32 + i) B3.zero).is = true := by simpa using c3
        exact skip (by unfold fetchAt; rw [if_neg (by rw [c3]; simp)])
    · have c2 := dfalse c2
      exact next (by rw [fetchTo_past (m' := p * 32 + i) (by omega) (by omega)]; exact hrow6) hf6
    · have c1 := dfalse c1
      have : i = 32 := by omega
      subst this
      exact next (by rw [show (p + 1) * 32 = p * 32 + 32 by omega]; exact hrow6) hf6
  · have hge2 := dfalse hge2
    have hqe : at_ / 32 + q = (at_ + n - 1) / 32 + 1 := by omega
    rw [hqe, fetchTo_end] at hrow4
    have hmap : MapAt w4 ekS evS (r.c u) (crow (r.cs u) (ρ.caches u)) := (hs1.mp u hu).fr hf4 fun hx => by
      rw [hBdef] at hx
      have hlt := hs1.lt (r.c u) (by rw [hs1.om u hu]; simp)
      rcases hx with h2 | h2
      · rw [hs1.om u hu] at h2; cases h2
      · omega
    have hst : w4.heap[r.S]? = some (.cells #[.slice r.fs.a r.fs.len r.fs.cap, .map (some (r.c 0)), .map (some (r.c 1)), .map (some (r.c 2)), .map (some (r.c 3)), .slice r.ls.a r.ls.len r.ls.cap] 73) := hf4.blk hs1.st fun hx => by
      rw [hBdef] at hx
      have hlt := hs1.lt r.S (by rw [hs1.oS]; simp)
      rcases hx with h2 | h2
      · rw [hs1.oS] at h2; cases h2
      · omega
    have hcC : w4.cell? (((⟨r.S, 0, none⟩ : Addr).add 1).add (((u : Nat) : Int).toNat * 1)) = some (.map (some (r.c u))) := by
      rw [add_def, add_def, cell_blk hst]
      rcases (by omega : u = 0 ∨ u = 1 ∨ u = 2 ∨ u = 3) with rfl | rfl | rfl | rfl <;> rfl
    obtain ⟨w5, hrun, hm5, hf5, hz5⟩ := MapAt.upd hmap keysS u69 name s
    have hlt4 := hrow4.lt
    refine ⟨by omega, by omega, some (r.c u), hcC, w5, hrun, rfl, r.putC u name s w2.heap.size, RLeft.trans (RLeft.of_pu h hp1) (RLeft.putC (B := fun x => B x ∨ x = r.c u) hs1 hu hm5 (hrow4.fr hf5 fun x hx hxe => ?_) ((hf4.mono fun x hx _ => .inl hx).trans hf5 fun x hx _ => .inr hx) (fun x hlt hx => ?_) fun x hx => ?_)⟩
    · have hxe : x = r.c u := hxe
      have hBx := hB3 x hx
      rw [hBdef] at hBx
      have hlt := hs1.lt (r.c u) (by rw [hs1.om u hu]; simp)
      rcases hBx with h2 | h2
      · rw [hxe, hs1.om u hu] at h2; cases h2
      · omega
    · rw [hBdef] at hx
      rcases hx with (h2 | h2) | h2
      · exact .inr h2
      · omega
      · exact .inl (by rw [h2]; exact hs1.om u hu)
    · have hBx := hB3 x hx
      rw [hBdef] at hBx
      exact hBx
end Go.Proofs.YtnigfiljenfgjaaGreat
