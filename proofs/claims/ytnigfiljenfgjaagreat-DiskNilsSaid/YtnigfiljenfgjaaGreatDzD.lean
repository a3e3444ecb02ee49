/- The disk: a new system, making a file, cloning bytes, the bytes on the disk. -/
import Derived.Test.YtnigfiljenfgjaaGreatDzC
set_option maxRecDepth 100000
set_option linter.unusedVariables false
set_option linter.unusedSimpArgs false
namespace Go.Proofs.YtnigfiljenfgjaaGreat
open Go.Sh Go.RowKit

/-! ### New -/
def Sys.new : Sys := ⟨[], fun _ => [], []⟩
def newArr (n k : Nat) : Array Value := #[.int .i32 0, .int .u32 0, .map (some n), .map (if 0 < k then some (n + 2) else none), .map (if 1 < k then some (n + 3) else none), .map (if 2 < k then some (n + 4) else none), .map (if 3 < k then some (n + 5) else none), .slice none 0 0]
def newLay (n : Nat) : Lay := ⟨n + 1, n, fun u => n + 2 + u, ⟨none, 0, 0⟩, []⟩
theorem new_c (w : World) : Calls Tryz.prog 9 #[] w fun e w' => e = .returned (newLay w.heap.size).ptr ∧ SysAt w' (newLay w.heap.size) 0 Sys.new ∧ Pu w w' := by
  refine F9_calls w _ ?_
  refine alE_intro fun w1 hw1 => ?_
  refine alE_intro fun w2 hw2 => ?_
  have hs1 : w1.heap.size = w.heap.size + 1 := by rw [hw1]; simp
  have hs2 : w2.heap.size = w.heap.size + 2 := by rw [hw2]; simp [hs1]
  have hp1 : Pu w w1 := by rw [hw1]; exact Pu.alloc w _
  have hp2 : Pu w1 w2 := by rw [hw2]; exact Pu.alloc w1 _
  have hm : MapAt w1 ekS evS w.heap.size [] := by rw [hw1]; exact MapAt.new w ekS evS
  refine loopUp 4 (fun k t w' => t = (k : Int) ∧ w'.heap.size = w.heap.size + 2 + k ∧ w'.heap[w.heap.size + 1]? = some (.cells (newArr w.heap.size k) 67) ∧ MapAt w' ekS evS w.heap.size [] ∧
    (∀ j, j < k → MapAt w' ekP evP (w.heap.size + 2 + j) []) ∧ Pu w w') ⟨rfl, hs2, ?_, ?_, fun j hj => by omega, hp1.trans hp2⟩ ?_
  · rw [hw2, ← hs1]; exact alloc_new w1 _
  · exact hm.pu hp2
  rintro k J t w' hk ⟨rfl, hsz, hS, hM, hC, hp⟩ hJ
  refine Br.of (fun hlt => ?_) (fun hge => ?_)
  · have hlt' : k < 4 := by have := dtrue hlt; omega
    refine alE_intro fun w3 hw3 => ?_
    have hs3 : w3.heap.size = w'.heap.size + 1 := by rw [hw3]; simp
    have hp3 : Pu w' w3 := by rw [hw3]; exact Pu.alloc w' _
    have hS3 : w3.heap[w1.heap.size]? = some (.cells (newArr w.heap.size k) 67) := by rw [hs1]; exact hp3.blk hS
    refine ⟨by omega, by omega, ?_⟩
    rw [add_def, add_def]
    refine st1_intro hS3 (by simp [newArr]; omega) fun w4 hw4 hb4 => ?_
    have hf4 : Fr (· = w1.heap.size) w3 w4 := by rw [hw4]; exact Fr.cell w3 _ _ _
    rw [wrap_in (by omega) (by omega)]
    refine hJ _ _ hlt' ⟨by omega, by rw [hw4]; simp; omega, ?_, ?_, fun j hj => ?_, ?_⟩
    · rw [hs1] at hb4; rw [hb4, hsz]
      rcases (by omega : k = 0 ∨ k = 1 ∨ k = 2 ∨ k = 3) with rfl | rfl | rfl | rfl <;> rfl
    · exact (hM.pu hp3).fr hf4 (by omega)
    · by_cases e : j = k
      · subst e
        have := (MapAt.new w' ekP evP)
        rw [← hw3] at this
        have := this.fr hf4 (by omega)
        rw [hsz] at this; exact this
      · exact ((hC j (by omega)).pu hp3).fr hf4 (by omega)
    · exact (hp.trans hp3).andNew hf4 fun i hi => by omega
  · have hk4 : k = 4 := by have := dfalse hge; omega
    subst hk4
    refine ⟨by rw [hs1]; rfl, ⟨hS, hM, trivial, fun u hu => hC u hu, RowAt.nil _ _ _, ?_⟩, hp⟩
    simp [newLay, Lay.own, blkOf]
    omega

/-! ### Changing the files -/
theorem AL.put_split {κ ν : Type} [DecidableEq κ] {l : List (κ × ν)} {k : κ} {v : ν} (h : AL.get l k = some v) : ∃ l1 l2, l = l1 ++ (k, v) :: l2 ∧ ∀ v', AL.put l k v' = l1 ++ (k, v') :: l2 := by
  induction l with
  | nil => simp [AL.get] at h
  | cons p l ih =>
    obtain ⟨a, b⟩ := p
    simp only [AL.get] at h
    by_cases e : a = k
    · subst e
      simp at h; subst h
      exact ⟨[], l, rfl, fun v' => by simp [AL.put]⟩
    · simp only [if_neg e] at h
      obtain ⟨l1, l2, h1, h2⟩ := ih h
      exact ⟨(a, b) :: l1, l2, by rw [h1]; rfl, fun v' => by simp [AL.put, e, h2]⟩
theorem Lay.nodup_put {d : Lay} (h : d.own.Nodup) {k : ByteArray} {s' : SV} (hs : ∀ b ∈ blkOf s', b ∉ d.own) (hn : (blkOf s').Nodup) : ({ d with fs := AL.put d.fs k s' } : Lay).own.Nodup := by
  cases hg : AL.get d.fs k with
  | none =>
    rw [AL.put_new hg]
    simp only [Lay.own, List.flatMap_append, List.flatMap_cons, List.flatMap_nil, List.append_nil] at h ⊢
    rw [show d.S :: d.M :: d.c 0 :: d.c 1 :: d.c 2 :: d.c 3 :: (blkOf d.ls ++ ((d.fs.flatMap fun p => blkOf p.2) ++ blkOf s')) = (d.S :: d.M :: d.c 0 :: d.c 1 :: d.c 2 :: d.c 3 :: (blkOf d.ls ++ (d.fs.flatMap fun p => blkOf p.2))) ++ blkOf s' by simp]
    refine List.nodup_append.2 ⟨h, hn, fun a ha b hb e => hs b hb (by subst e; exact ha)⟩
  | some s =>
    obtain ⟨l1, l2, h1, h2⟩ := AL.put_split hg
    rw [h2]
    have hm : ∀ b, b ∈ (d.S :: d.M :: d.c 0 :: d.c 1 :: d.c 2 :: d.c 3 :: (blkOf d.ls ++ l1.flatMap fun p => blkOf p.2)) ++ l2.flatMap (fun p => blkOf p.2) → b ∈ d.own := by
      intro b hb
      simp only [Lay.own, h1, List.flatMap_append, List.flatMap_cons, List.mem_append, List.mem_cons] at hb ⊢
      rcases hb with hb | hb
      · rcases hb with h | h | h | h | h | h | h | h <;> simp [h]
      · simp [hb]
    simp only [Lay.own, h1, List.flatMap_append, List.flatMap_cons] at h
    simp only [Lay.own, List.flatMap_append, List.flatMap_cons]
    rw [show d.S :: d.M :: d.c 0 :: d.c 1 :: d.c 2 :: d.c 3 :: (blkOf d.ls ++ ((l1.flatMap fun p => blkOf p.2) ++ (blkOf s ++ l2.flatMap fun p => blkOf p.2))) = (d.S :: d.M :: d.c 0 :: d.c 1 :: d.c 2 :: d.c 3 :: (blkOf d.ls ++ l1.flatMap fun p => blkOf p.2)) ++ (blkOf s ++ l2.flatMap fun p => blkOf p.2) by simp] at h
    rw [show d.S :: d.M :: d.c 0 :: d.c 1 :: d.c 2 :: d.c 3 :: (blkOf d.ls ++ ((l1.flatMap fun p => blkOf p.2) ++ (blkOf s' ++ l2.flatMap fun p => blkOf p.2))) = (d.S :: d.M :: d.c 0 :: d.c 1 :: d.c 2 :: d.c 3 :: (blkOf d.ls ++ l1.flatMap fun p => blkOf p.2)) ++ (blkOf s' ++ l2.flatMap fun p => blkOf p.2) by simp]
    obtain ⟨a1, a2, a3⟩ := List.nodup_append.1 h
    obtain ⟨b1, b2, b3⟩ := List.nodup_append.1 a2
    refine List.nodup_append.2 ⟨a1, List.nodup_append.2 ⟨hn, b2, fun a ha b hb e => hs a ha (hm a (by subst e; exact List.mem_append_right _ hb))⟩, fun a ha b hb e => ?_⟩
    rcases List.mem_append.1 hb with hb | hb
    · exact hs b hb (hm b (by subst e; exact List.mem_append_left _ ha))
    · exact a3 a ha b (List.mem_append_right _ hb) e
theorem Lay.own_put {d : Lay} {k : ByteArray} {s' : SV} : ∀ b ∈ ({ d with fs := AL.put d.fs k s' } : Lay).own, b ∈ d.own ∨ b ∈ blkOf s' := by
  intro b hb
  cases hg : AL.get d.fs k with
  | none =>
    rw [AL.put_new hg] at hb
    simp only [Lay.own, List.flatMap_append, List.flatMap_cons, List.flatMap_nil, List.append_nil, List.mem_append, List.mem_cons] at hb ⊢
    rcases hb with h | h | h | h | h | h | h | h | h <;> simp [h]
  | some s =>
    obtain ⟨l1, l2, h1, h2⟩ := AL.put_split hg
    rw [h2] at hb
    simp only [Lay.own, h1, List.flatMap_append, List.flatMap_cons, List.mem_append, List.mem_cons] at hb ⊢
    rcases hb with h | h | h | h | h | h | h | h | h | h <;> simp [h]

/-- What is known of blocks that are not the state's, when one of the system's blocks alone is changed. -/
theorem SysAt.ne {w : World} {d : Lay} {mu : Int} {σ : Sys} (h : SysAt w d mu σ) : d.S ≠ d.M ∧ (∀ u, u < 4 → d.S ≠ d.c u ∧ d.M ≠ d.c u) ∧ (∀ u v, u < 4 → v < 4 → u ≠ v → d.c u ≠ d.c v) ∧
    (∀ k ∈ blkOf d.ls, k ≠ d.S ∧ k ≠ d.M ∧ (∀ u, u < 4 → k ≠ d.c u) ∧ ∀ p ∈ d.fs, k ∉ blkOf p.2) ∧ (∀ p ∈ d.fs, ∀ k ∈ blkOf p.2, k ≠ d.S ∧ k ≠ d.M ∧ (∀ u, u < 4 → k ≠ d.c u)) := by
  have hn := h.nd
  simp only [Lay.own, List.nodup_cons, List.mem_cons, List.mem_append, List.mem_flatMap, not_or, not_exists, not_and, List.nodup_append] at hn
  obtain ⟨⟨a1, a2, a3, a4, a5, a6, a7⟩, ⟨b1, b2, b3, b4, b5, b6⟩, ⟨c1, c2, c3, c4, c5⟩, ⟨d1, d2, d3, d4⟩, ⟨e1, e2, e3⟩, ⟨f1, f2⟩, g1, g2, g3⟩ := hn
  have four : ∀ (Q : Nat → Prop), Q 0 → Q 1 → Q 2 → Q 3 → ∀ u, u < 4 → Q u := fun Q q0 q1 q2 q3 u hu => by
    rcases (by omega : u = 0 ∨ u = 1 ∨ u = 2 ∨ u = 3) with rfl | rfl | rfl | rfl <;> assumption
  refine ⟨a1, four _ ⟨a2, b1⟩ ⟨a3, b2⟩ ⟨a4, b3⟩ ⟨a5, b4⟩, ?_, fun k hk => ⟨fun e => a6 (e ▸ hk), fun e => b5 (e ▸ hk), four _ (fun e => c4 (e ▸ hk)) (fun e => d3 (e ▸ hk)) (fun e => e2 (e ▸ hk)) (fun e => f1 (e ▸ hk)), fun p hp hk' => g3 k hk k ⟨p, hp, hk'⟩ rfl⟩,
    fun p hp k hk => ⟨fun e => a7 p hp (e ▸ hk), fun e => b6 p hp (e ▸ hk), four _ (fun e => c5 p hp (e ▸ hk)) (fun e => d4 p hp (e ▸ hk)) (fun e => e3 p hp (e ▸ hk)) (fun e => f2 p hp (e ▸ hk))⟩⟩
  intro u v hu hv huv
  rcases (by omega : u = 0 ∨ u = 1 ∨ u = 2 ∨ u = 3) with rfl | rfl | rfl | rfl <;> rcases (by omega : v = 0 ∨ v = 1 ∨ v = 2 ∨ v = 3) with rfl | rfl | rfl | rfl <;> first | exact absurd rfl huv | assumption | exact Ne.symm (by assumption)

/-- The files' map is set at a name. -/
theorem SysAt.setFile {w w' : World} {d : Lay} {mu : Int} {σ : Sys} (h : SysAt w d mu σ) {name : ByteArray} {s' : SV} {b' : List UInt8} (hm : MapAt w' ekS evS d.M (AL.put d.fs name s')) (hf : Fr (· = d.M) w w') (hr : RowAt w 5 1 s' (b'.map u8V))
    (hs : ∀ b ∈ blkOf s', b ∉ d.own) (hn : (blkOf s').Nodup) : SysAt w' { d with fs := AL.put d.fs name s' } mu { σ with files := AL.put σ.files name b' } := by
  obtain ⟨n1, n2, n3, n4, n5⟩ := h.ne
  have hr' : RowAt w' 5 1 s' (b'.map u8V) := hr.fr hf fun k hk e => hs k hk (by rw [show k = d.M from e]; simp [Lay.own])
  exact ⟨hf.blk h.st n1, hm, (h.fl.fr hf fun p hp k hk => (n5 p hp k hk).2.1).put name hr', fun u hu => (h.ca u hu).fr hf (fun e => (n2 u hu).2 e.symm), h.lk.fr hf fun k hk => (n4 k hk).2.1, Lay.nodup_put h.nd hs hn⟩

/-! ### Make -/
def makeC (name : ByteArray) (σ : Sys) : Int := if enterC 0 name σ = 0 then 5 else if enterC 0 name σ = 1 then 1 else if σ.files.length ≥ 8 then 3 else 0
def makeS (name : ByteArray) (σ : Sys) : Sys := if makeC name σ = 0 then { σ with files := AL.put σ.files name [] } else σ
theorem enterC_cases (u : Int) (name : ByteArray) (σ : Sys) : enterC u name σ = 0 ∨ enterC u name σ = 1 ∨ enterC u name σ = 4 := by
  unfold enterC; split
  · exact .inr (.inl rfl)
  · split
    · exact .inr (.inr rfl)
    · exact .inl rfl
/-- What a call of a method leaves. -/
structure Left (w w' : World) (d d' : Lay) (σ' : Sys) : Prop where
  sys : SysAt w' d' 0 σ'
  fr : Fr (· ∈ d.own) w w'
  own : ∀ b ∈ d'.own, b ∈ d.own ∨ w.heap.size ≤ b
  ptr : d'.S = d.S
theorem mem_S (d : Lay) : d.S ∈ d.own := by simp [Lay.own]
theorem mem_M (d : Lay) : d.M ∈ d.own := by simp [Lay.own]
theorem make_c {w : World} {d : Lay} {σ : Sys} (h : SysAt w d 0 σ) (name : ByteArray) :
    Calls Tryz.prog 16 #[d.ptr, .string name] w fun e w' => e = .returned (.int .i64 (makeC name σ)) ∧ ∃ d', Left w w' d d' (makeS name σ) := by
  refine F16_calls _ name w _ ?_
  refine Calls.mono (enter_c h 0 name) ?_
  rintro e w1 ⟨rfl, h1, hf1⟩
  have hf1' : Fr (· ∈ d.own) w w1 := hf1.mono fun i hi _ => by rw [show i = d.S from hi]; exact mem_S d
  have done : ∀ (d' : Lay) (σ' : Sys) (w2 : World) (n : Int), d'.S = d.S → SysAt w2 d' 1 σ' → Fr (· ∈ d.own) w w2 → (∀ b ∈ d'.own, b ∈ d.own ∨ w.heap.size ≤ b) → n = makeC name σ → σ' = makeS name σ →
      runD Tryz.prog [leaveD d] w2 fun w' => Ending.returned (Value.int .i64 n) = Ending.returned (Value.int .i64 (makeC name σ)) ∧ ∃ d', Left w w' d d' (makeS name σ) := by
    intro d' σ' w2 n hd h2 hf2 ho hn hσ
    have : leaveD d = leaveD d' := by simp [leaveD, Lay.ptr, hd]
    rw [this]
    refine leave_c h2 fun w' h' hf' _ => ⟨by rw [hn], d', by rw [← hσ]; exact h', hf2.trans hf' fun i hi _ => by rw [show i = d'.S from hi, hd]; exact mem_S d, ho, hd⟩
  refine ⟨_, _, rfl, Br.of (fun he => ?_) (fun he => Br.of (fun he1 => ?_) (fun he1 => ?_))⟩
  · have he : enterC 0 name σ = 0 := by simpa using he
    exact done d σ w1 5 rfl h1 hf1' (fun b hb => .inl hb) (by simp [makeC, he]) (by simp [makeS, makeC, he])
  · have he : ¬ enterC 0 name σ = 0 := by simpa using he
    have he1 : ¬ enterC 0 name σ = 4 := by simpa using he1
    have he2 : enterC 0 name σ = 1 := by rcases enterC_cases 0 name σ with h | h | h <;> simp_all
    exact done d σ w1 _ rfl h1 hf1' (fun b hb => .inl hb) (by simp [makeC, he2]) (by simp [makeS, makeC, he2])
  · have he1 : enterC 0 name σ = 4 := by simpa using he1
    refine ⟨some d.M, h1.cellM, _, w1, h1.mp.len (t := 55) (kt := 9) (e := 36) rfl u40, ?_⟩
    rw [h1.fl.length]
    refine Br.of (fun hl => ?_) (fun hl => ?_)
    · have hl : σ.files.length ≥ 8 := by have := dtrue hl; omega
      exact done d σ w1 3 rfl h1 hf1' (fun b hb => .inl hb) (by simp [makeC, he1, hl]) (by simp [makeS, makeC, he1, hl])
    · have hl : ¬ σ.files.length ≥ 8 := by have := dfalse hl; omega
      obtain ⟨w2, hr, hm, hf2, _⟩ := h1.mp.upd keysS u40 name ⟨none, 0, 0⟩
      refine ⟨some d.M, h1.cellM, w2, hr, ?_⟩
      have hs2 := h1.setFile (b' := []) hm hf2 (RowAt.nil _ _ _) (by simp [blkOf]) (by simp [blkOf])
      refine done { d with fs := AL.put d.fs name ⟨none, 0, 0⟩ } _ w2 0 rfl hs2 (hf1'.trans hf2 fun i hi _ => by rw [show i = d.M from hi]; exact mem_M d) (fun b hb => ?_) (by simp [makeC, he1, hl]) (by simp [makeS, makeC, he1, hl])
      rcases Lay.own_put b hb with h | h
      · exact .inl h
      · simp [blkOf] at h
end Go.Proofs.YtnigfiljenfgjaaGreat
