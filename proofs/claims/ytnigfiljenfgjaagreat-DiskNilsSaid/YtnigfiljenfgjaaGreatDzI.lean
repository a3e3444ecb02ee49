/- The disk: reading bytes; the bytes on the disk. -/
import Derived.Test.YtnigfiljenfgjaaGreatDzH
set_option maxRecDepth 100000
set_option linter.unusedVariables false
set_option linter.unusedSimpArgs false
namespace Go.Proofs.YtnigfiljenfgjaaGreat
open Go.Sh Go.RowKit

theorem made_one (z : Value) (n : Nat) : (madeCells #[z] n).toList = List.replicate n z := by
  unfold madeCells
  apply List.ext_getElem
  · simp
  · intro i h1 h2
    simp [Nat.mod_one]
theorem info5 : (Tryz.prog.info? 5).map (fun i => (i.zero, i.size, i.bytes)) = some (some (.int .u8 0), 1, 1) := by kernel_rfl
theorem makeBytes (w : World) (n : Nat) (hn : n ≤ 1000000) : ∃ w', (Instr.makeSlice 36 (.int .i64 (n : Int)) (.int .i64 (n : Int))).run Tryz.prog w = .ok (.slice (some ⟨w.heap.size, 0, none⟩) n n) w' ∧
    RowAt w' 5 1 ⟨some ⟨w.heap.size, 0, none⟩, n, n⟩ ((List.replicate n 0).map u8V) ∧ Pu w w' ∧ w'.heap.size = w.heap.size + 1 := by
  obtain ⟨i, hi, hz, hs, hb⟩ := info_parts info5
  obtain ⟨w', h1, h2, h3, h4⟩ := row_make (P := Tryz.prog) (w := w) u29 hi hz hs .i64 .i64 n (by rw [hb]; omega) (by omega)
  refine ⟨w', h1, ?_, h3, h4⟩
  have : (Value.int IntKind.u8 0).cells = #[.int .u8 0] := rfl
  rw [this, made_one] at h2
  simpa [u8V] using h2

def readC (u : Int) (name : ByteArray) (at_ n : Int) (σ : Sys) : Int :=
  if enterC u name σ = 0 then (if at_ < 0 then 1 else if n < 0 then 1 else if at_ > (fileOf σ name).length then 1 else if n > (fileOf σ name).length - at_ then 1 else 0) else enterC u name σ
def readR (u : Int) (name : ByteArray) (at_ n : Int) (σ : Sys) : Sys × List UInt8 :=
  if readC u name at_ n σ = 0 then eachS rstep u.toNat name at_.toNat n.toNat (fileOf σ name) n.toNat σ (List.replicate n.toNat 0) 0 else (σ, [])

theorem read_c {w : World} {d : Lay} {σ : Sys} (h : SysAt w d 0 σ) (hsm : Small σ) (u : Int) (name : ByteArray) (at_ n : Int) :
    Calls Tryz.prog 13 #[d.ptr, .int .i64 u, .string name, .int .i64 at_, .int .i64 n] w fun e w' => ∃ l : SV, e = .returned (.tuple #[.slice l.a l.len l.cap, .int .i64 (readC u name at_ n σ)]) ∧ Left w w' d d (readR u name at_ n σ).1 ∧
      RowAt w' 5 1 l ((readR u name at_ n σ).2.map u8V) ∧ ∀ b ∈ blkOf l, w.heap.size ≤ b := by
  refine F13_calls _ _ _ _ _ w _ ?_
  refine Calls.mono (enter_c h u name) ?_
  rintro e w2 ⟨rfl, h2, hf2⟩
  have hf2' : Fr (· ∈ d.own) w w2 := hf2.mono fun i hi _ => by rw [show i = d.S from hi]; exact mem_S d
  have bad : ∀ m : Int, ∀ w3, readC u name at_ n σ = m → m ≠ 0 → SysAt w3 d 1 σ → Fr (· ∈ d.own) w w3 → runD Tryz.prog [leaveD d] w3 fun w' => ∃ l : SV, Ending.returned (Value.tuple #[.slice none 0 0, .int .i64 m]) = .returned (.tuple #[.slice l.a l.len l.cap, .int .i64 (readC u name at_ n σ)]) ∧ Left w w' d d (readR u name at_ n σ).1 ∧
      RowAt w' 5 1 l ((readR u name at_ n σ).2.map u8V) ∧ ∀ b ∈ blkOf l, w.heap.size ≤ b := fun m w3 hm h0 h3 hf3 =>
    leave_left h3 hf3 fun w' hL _ => ⟨⟨none, 0, 0⟩, by rw [hm], by simp only [readR, hm, h0, if_false]; exact hL, by simp only [readR, hm, h0, if_false]; exact RowAt.nil _ _ _, by simp [blkOf]⟩
  refine ⟨_, _, rfl, Br.of (fun he => ?_) (fun he => ?_)⟩
  · have he : enterC u name σ ≠ 0 := by simpa using he
    exact bad _ w2 (by simp [readC, he]) he h2 hf2'
  · have he : enterC u name σ = 0 := by simpa using he
    obtain ⟨hu0, hu4, f, hf⟩ := enterC_zero he
    have hfo : fileOf σ name = f := by simp [fileOf, hf]
    have hfl := hsm name f hf
    have hC : ∀ m : Int, (if at_ < 0 then 1 else if n < 0 then 1 else if at_ > f.length then 1 else if n > f.length - at_ then 1 else 0) = m → readC u name at_ n σ = m := fun m hm => by simp only [readC, he, if_true, hfo]; exact hm
    refine Br.of (fun c1 => bad 1 w2 (hC 1 (by simp [dtrue c1])) (by decide) h2 hf2') (fun c1 => Br.of (fun c2 => bad 1 w2 (hC 1 (by simp [dtrue c2])) (by decide) h2 hf2') (fun c2 => ?_))
    have c1 := dfalse c1
    have c2 := dfalse c2
    obtain ⟨s, hl3, hr3, _, hmem, hsl⟩ := look_file h2 hf
    refine ⟨some d.M, h2.cellM, s, w2, hl3, ?_⟩
    rw [hsl]
    refine Br.of (fun c3 => bad 1 w2 (hC 1 (by simp only [c1, c2, dtrue c3, if_false, if_true])) (by decide) h2 hf2') (fun c3 => ?_)
    have c3 := dfalse c3
    refine ⟨some d.M, h2.cellM, s, w2, hl3, ?_⟩
    rw [hsl, wrap_in (n := (f.length : Int) - at_) (by omega) (by omega)]
    refine Br.of (fun c4 => bad 1 w2 (hC 1 (by simp only [c1, c2, c3, dtrue c4, if_false, if_true])) (by decide) h2 hf2') (fun c4 => ?_)
    have c4 := dfalse c4
    obtain ⟨un, rfl⟩ := Int.eq_ofNat_of_zero_le hu0
    obtain ⟨an, rfl⟩ := Int.eq_ofNat_of_zero_le (by omega : 0 ≤ at_)
    obtain ⟨m, rfl⟩ := Int.eq_ofNat_of_zero_le (by omega : 0 ≤ n)
    obtain ⟨w3, hmk, hr3', hp3, hs3⟩ := makeBytes w2 m (by omega)
    refine ⟨⟨some ⟨w2.heap.size, 0, none⟩, m, m⟩, w3, hmk, ?_⟩
    refine alE_intro fun w4 hw4 => ?_
    have hp4 : Pu w3 w4 := by rw [hw4]; exact Pu.alloc w3 _
    have hb4 : w4.heap[w3.heap.size]? = some (.cells #[.slice none 0 0] 36) := by rw [hw4]; exact alloc_new w3 _
    refine st1_intro hb4 (by decide) fun w5 hw5 hb5 => ?_
    have hf5 : Fr (· = w3.heap.size) w4 w5 := by rw [hw5]; exact Fr.cell w4 _ _ _
    have hP5 : Pu w2 w5 := (hp3.trans hp4).andNew hf5 fun i hi => by omega
    have h5 := h2.pu hP5
    have hr5 : RowAt w5 5 1 ⟨some ⟨w2.heap.size, 0, none⟩, m, m⟩ ((List.replicate m 0).map u8V) := (hr3'.pu hp4).fr hf5 fun b hb => by simp [blkOf] at hb; omega
    have hlt2 : ∀ b ∈ d.own, b < w2.heap.size := h2.lt
    refine Calls.mono (each_c (u := un) (at_ := an) (n := m) (does_read (r := w3.heap.size) (l := ⟨some ⟨w2.heap.size, 0, none⟩, m, m⟩)) h5 (by omega) hf hfl (by omega) (t := List.replicate m 0) ⟨hb5, hr5, by simp, by simp [blkOf]; omega⟩ ?_ ?_) ?_
    · rintro b (rfl | hb)
      · exact blk_lt hb5
      · exact hr5.lt b hb
    · rintro b hb (rfl | hb')
      · have := hlt2 _ hb; omega
      · have := hlt2 b hb; simp [blkOf] at hb'; omega
    · rintro e w6 ⟨rfl, h6, ⟨hb6, hr6, _, _⟩, hf6⟩
      refine ⟨rfl, ⟨some ⟨w2.heap.size, 0, none⟩, m, m⟩, by rw [cell_blk hb6]; rfl, ?_⟩
      have hw2 : w.heap.size ≤ w2.heap.size := hf2'.size
      have hF : Fr (· ∈ d.own) w w6 := (hf2'.trans (Fr.pu hP5 : Fr (· ∈ d.own) w2 w5) fun i hi _ => hi).trans hf6 fun i hi hlt => by
        rcases hi with hi | hi
        · exact hi
        · simp [blkOf] at hi; omega
      have hc : readC (un : Int) name (an : Int) (m : Int) σ = 0 := hC 0 (by simp only [c1, c2, c3, c4, if_false])
      refine leave_left h6 hF fun w' hL hf' => ⟨_, by rw [hc], ?_, ?_, fun b hb => by simp [blkOf] at hb; omega⟩
      · simp only [readR, hc, if_true, hfo, Int.toNat_natCast]; exact hL
      · simp only [readR, hc, if_true, hfo, Int.toNat_natCast]
        exact hr6.fr hf' fun b hb e => by simp [blkOf] at hb; have := hlt2 d.S (mem_S d); omega

/-! ### Clone and Disk -/
theorem clone_c {w : World} {s : SV} {bs : List UInt8} (h : RowAt w 5 1 s (bs.map u8V)) (hb : bs.length ≤ 1000000) :
    Calls Tryz.prog 50 #[.slice s.a s.len s.cap] w fun e w' => ∃ l : SV, e = .returned (.slice l.a l.len l.cap) ∧ RowAt w' 5 1 l (bs.map u8V) ∧ Pu w w' ∧ ∀ b ∈ blkOf l, w.heap.size ≤ b := by
  refine F50_calls s w _ ?_
  refine ⟨_, w, eqS_slice_nil u29 _ _ _ _ _ w, ?_⟩
  have hsl := u8V_map_len bs h
  refine Br.of (fun hn => ?_) (fun hn => ?_)
  · have : s = ⟨none, 0, 0⟩ := by
      obtain ⟨_, rfl | ⟨g, cur, h3, _⟩⟩ := h
      · rfl
      · rw [h3] at hn; cases hn
    have hbs : bs = [] := List.eq_nil_of_length_eq_zero (by rw [← hsl, this])
    subst hbs
    exact ⟨⟨none, 0, 0⟩, rfl, RowAt.nil _ _ _, Pu.refl w, by simp [blkOf]⟩
  · refine alE_intro fun w1 hw1 => ?_
    have hp1 : Pu w w1 := by rw [hw1]; exact Pu.alloc w _
    obtain ⟨i, hi, hz, hs, hb'⟩ := info_parts info5
    have hr0 : RowAt w1 5 1 ⟨some ⟨w.heap.size, 0, none⟩, 0, 0⟩ [] := ⟨rfl, .inr ⟨_, #[], rfl, by rw [hw1]; exact alloc_new w _, Nat.le_refl _, Nat.zero_le _, rfl, rfl⟩⟩
    have h1 := h.pu hp1
    obtain ⟨a, ha⟩ : ∃ a, s.a = some a := by cases hsa : s.a with
      | none => rw [hsa] at hn; cases hn
      | some a => exact ⟨a, rfl⟩
    obtain ⟨s', w2, hr, hrow, hf, hblk, _⟩ := row_append (P := Tryz.prog) (ty := 36) u29 hi hz hs (by rfl) (by decide) hr0 (a := a) (m := s.len) (c := s.cap) (news := bs.map u8V) (by simp; omega) (fun j v hv => by
      obtain ⟨a', ha', hc, _⟩ := h1.cell hv
      rw [ha] at ha'; cases ha'; exact hc) (fun v hv => by obtain ⟨x, _, rfl⟩ := List.mem_map.1 hv; rfl) (by rw [hb']; show (0 + s.len) * 2 ≤ _; omega)
    refine ⟨s', w2, by rw [ha]; exact hr, s', rfl, hrow, hp1.andNew hf fun b hb => by simp [blkOf] at hb; omega, fun b hb => ?_⟩
    rcases hblk b hb with h | h
    · simp [blkOf] at h; omega
    · rw [hw1] at h; simp at h; omega

def diskC (name : ByteArray) (σ : Sys) : Int := enterC 0 name σ
theorem disk_c {w : World} {d : Lay} {σ : Sys} (h : SysAt w d 0 σ) (hsm : Small σ) (name : ByteArray) :
    Calls Tryz.prog 15 #[d.ptr, .string name] w fun e w' => ∃ l : SV, e = .returned (.tuple #[.slice l.a l.len l.cap, .int .i64 (diskC name σ)]) ∧ Left w w' d d σ ∧ RowAt w' 5 1 l ((if diskC name σ = 0 then fileOf σ name else []).map u8V) ∧ ∀ b ∈ blkOf l, w.heap.size ≤ b := by
  refine F15_calls _ _ w _ ?_
  refine Calls.mono (enter_c h 0 name) ?_
  rintro e w2 ⟨rfl, h2, hf2⟩
  have hf2' : Fr (· ∈ d.own) w w2 := hf2.mono fun i hi _ => by rw [show i = d.S from hi]; exact mem_S d
  refine ⟨_, _, rfl, Br.of (fun he => ?_) (fun he => ?_)⟩
  · have he : enterC 0 name σ ≠ 0 := by simpa using he
    exact leave_left h2 hf2' fun w' hL _ => ⟨⟨none, 0, 0⟩, rfl, hL, by simp only [diskC, he, if_false]; exact RowAt.nil _ _ _, by simp [blkOf]⟩
  · have he : enterC 0 name σ = 0 := by simpa using he
    obtain ⟨_, _, f, hf⟩ := enterC_zero he
    have hfo : fileOf σ name = f := by simp [fileOf, hf]
    obtain ⟨s, hl3, hr3, _, hmem, hsl⟩ := look_file h2 hf
    refine ⟨some d.M, h2.cellM, s, w2, hl3, ?_⟩
    refine Calls.mono (clone_c hr3 (hsm name f hf)) ?_
    rintro e w3 ⟨l, rfl, hrow, hp, hb⟩
    refine ⟨l, rfl, ?_⟩
    have hw2 : w.heap.size ≤ w2.heap.size := hf2'.size
    refine leave_left (h2.pu hp) (hf2'.trans (Fr.pu hp : Fr (· ∈ d.own) w2 w3) fun i hi _ => hi) fun w' hL hf' => ⟨l, by simp only [diskC, he], hL, ?_, fun b hb' => Nat.le_trans hw2 (hb b hb')⟩
    simp only [diskC, he, if_true, hfo]
    exact hrow.fr hf' fun b hb' e => by have := hb b hb'; have := h2.lt d.S (mem_S d); omega
end Go.Proofs.YtnigfiljenfgjaaGreat
