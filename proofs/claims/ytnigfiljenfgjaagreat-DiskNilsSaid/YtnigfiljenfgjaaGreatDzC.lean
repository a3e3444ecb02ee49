/- The disk: names; entering and leaving; a new system. -/
import Derived.Test.YtnigfiljenfgjaaGreatDzB
set_option maxRecDepth 100000
set_option linter.unusedVariables false
set_option linter.unusedSimpArgs false
namespace Go.Proofs.YtnigfiljenfgjaaGreat
open Go.Sh Go.RowKit

/-! ### Names -/
def okc (x : UInt8) : Prop := x.toNat = 46 ∨ (48 ≤ x.toNat ∧ x.toNat ≤ 57) ∨ (65 ≤ x.toNat ∧ x.toNat ≤ 90) ∨ (97 ≤ x.toNat ∧ x.toNat ≤ 122)
instance (x : UInt8) : Decidable (okc x) := by unfold okc; exact inferInstance
def isNm (s : ByteArray) : Prop := s.size ≠ 0 ∧ s.size ≤ 10 ∧ ∀ x ∈ s.data.toList, okc x
instance (s : ByteArray) : Decidable (isNm s) := by unfold isNm; exact inferInstance
theorem toList_nil (s : ByteArray) : (s.toList == (⟨#[]⟩ : ByteArray).toList) = decide (s.size = 0) := by
  rw [← beq_toListBytes, beq_bytes]
  by_cases h : s.size = 0
  · have : s = ⟨#[]⟩ := by
      obtain ⟨⟨l⟩⟩ := s
      cases l with
      | nil => rfl
      | cons a l => simp [ByteArray.size] at h
    simp [this]
    rfl
  · have : s ≠ ⟨#[]⟩ := fun e => h (by rw [e]; rfl)
    simp [this, h]
theorem toList_beq (s t : ByteArray) : (s.toList == t.toList) = decide (s = t) := by rw [← beq_toListBytes, beq_bytes]

theorem isName_c (s : ByteArray) (w : World) : Calls Tryz.prog 94 #[.string s] w fun e w' => e = .returned (.bool (decide (isNm s))) ∧ Pu w w' := by
  refine F94_calls s w _ ?_
  rw [F94_7, toList_nil]
  refine Br.of (fun h => ?_) (fun h0 => Br.of (fun h => ?_) (fun h1 => ?_))
  · have : ¬ isNm s := fun hn => hn.1 (by simpa using h)
    exact ⟨by simp [this], Pu.refl w⟩
  · have : ¬ isNm s := fun hn => by have := hn.2.1; simp at h; omega
    exact ⟨by simp [this], Pu.refl w⟩
  · have h0 := of_decide_eq_false h0
    have h1 := of_decide_eq_false h1
    obtain ⟨l, w1, hc, hp, hl⟩ := conv_bytes (P := Tryz.prog) u9 u29 u5 s (by omega) w
    refine ⟨l, w1, hc, ?_⟩
    have hlen : l.len = s.data.toList.length := hl.len
    refine loopUp s.data.toList.length (fun k t w' => w' = w1 ∧ t = (k : Int) ∧ ∀ j x, j < k → s.data.toList[j]? = some x → okc x) ⟨rfl, rfl, fun j x hj => by omega⟩ ?_
    rintro k J t w' hk ⟨rfl, rfl, hall⟩ hJ
    refine Br.of (fun hlt => ?_) (fun hge => ?_)
    · have hlt' : k < s.data.toList.length := by simpa [hlen] using hlt
      obtain ⟨x, hx⟩ : ∃ x, s.data.toList[k]? = some x := ⟨s.data.toList[k], by simp [hlt']⟩
      obtain ⟨a, ha, hi, hcell⟩ := hl.u8 hx
      have hT : okc x → J (IntKind.i64.wrap ((k : Int) + 1)) w' := fun ho => by
        rw [wrap_in (by omega) (by have : s.data.toList.length = s.size := by simp
                                   omega)]
        refine hJ _ _ hlt' ⟨rfl, by omega, fun j y hj hy => ?_⟩
        by_cases e : j = k
        · subst e; rw [hx] at hy; cases hy; exact ho
        · exact hall j y (by omega) hy
      have hF : ¬ okc x → (Ending.returned (Value.bool false) = Ending.returned (Value.bool (decide (isNm s))) ∧ Pu w w') := fun ho => by
        have : ¬ isNm s := fun hn => ho (hn.2.2 x (List.mem_of_getElem? hx))
        exact ⟨by simp [this], hp⟩
      refine ⟨a, ha, by omega, by omega, _, by simpa using hcell, ?_⟩
      have hu := x.toNat_lt
      unfold okc at hT hF
      repeat' (first | refine Br.of (fun h => ?_) (fun h => ?_))
      all_goals simp only [bne_iff_ne, ne_eq, decide_eq_true_eq, decide_eq_false_iff_not, bne_eq_false_iff_eq] at *
      all_goals first | exact hT (by omega) | exact hF (by omega)
    · have hk' : k = s.data.toList.length := by
        have : ¬ k < s.data.toList.length := by simpa [hlen] using hge
        omega
      have : isNm s := ⟨by omega, by omega, fun x hx => by
        obtain ⟨j, hj, e⟩ := List.getElem_of_mem hx
        exact hall j x (by omega) (by rw [← e]; exact List.getElem?_eq_getElem hj)⟩
      exact ⟨by simp [this], hp⟩

/-! ### Entering and leaving -/
theorem SysAt.cellS {w : World} {d : Lay} {mu : Int} {σ : Sys} (h : SysAt w d mu σ) (o : Nat) : w.cell? ⟨d.S, o, none⟩ = (#[.int .i32 mu, .int .u32 0, .map (some d.M), .map (some (d.c 0)), .map (some (d.c 1)), .map (some (d.c 2)), .map (some (d.c 3)), .slice d.ls.a d.ls.len d.ls.cap] : Array Value)[o]? := cell_blk h.st o
theorem SysAt.cellC {w : World} {d : Lay} {mu : Int} {σ : Sys} (h : SysAt w d mu σ) {u : Nat} (hu : u < 4) : w.cell? (((⟨d.S, 0, none⟩ : Addr).add 3).add (u * 1)) = some (.map (some (d.c u))) := by
  rw [add_def, add_def, h.cellS]
  rcases (by omega : u = 0 ∨ u = 1 ∨ u = 2 ∨ u = 3) with rfl | rfl | rfl | rfl <;> rfl
theorem SysAt.cellM {w : World} {d : Lay} {mu : Int} {σ : Sys} (h : SysAt w d mu σ) : w.cell? ((⟨d.S, 0, none⟩ : Addr).add 2) = some (.map (some d.M)) := by
  rw [add_def, h.cellS]; rfl
theorem SysAt.cellL {w : World} {d : Lay} {mu : Int} {σ : Sys} (h : SysAt w d mu σ) : w.cell? ((⟨d.S, 0, none⟩ : Addr).add 7) = some (.slice d.ls.a d.ls.len d.ls.cap) := by
  rw [add_def, h.cellS]; rfl
theorem SysAt.ne_S {w : World} {d : Lay} {mu : Int} {σ : Sys} (h : SysAt w d mu σ) : d.S ∉ d.M :: d.c 0 :: d.c 1 :: d.c 2 :: d.c 3 :: (blkOf d.ls ++ d.fs.flatMap fun p => blkOf p.2) := (List.nodup_cons.1 h.nd).1
/-- The mutex's cell is set. -/
theorem SysAt.setMu {w : World} {d : Lay} {mu : Int} {σ : Sys} (h : SysAt w d mu σ) (m : Int) : SysAt (w.setCell ⟨d.S, 0, none⟩ (.int .i32 m)) d m σ := by
  have hf := Fr.setCell w ⟨d.S, 0, none⟩ (.int .i32 m)
  have hne : ∀ k ∈ d.M :: d.c 0 :: d.c 1 :: d.c 2 :: d.c 3 :: (blkOf d.ls ++ d.fs.flatMap fun p => blkOf p.2), ¬ k = (⟨d.S, 0, none⟩ : Addr).block := fun k hk e => h.ne_S (by have e : k = d.S := e; rw [← e]; exact hk)
  refine ⟨?_, h.mp.fr hf (hne _ (by simp)), h.fl.fr hf fun p hp k hk => hne k ?_, fun u hu => (h.ca u hu).fr hf (hne _ ?_), h.lk.fr hf fun k hk => hne k ?_, h.nd⟩
  · have := setCell_blk h.st 0 (.int .i32 m)
    rw [this]; rfl
  · simp only [List.mem_cons, List.mem_append, List.mem_flatMap]; exact .inr (.inr (.inr (.inr (.inr (.inr ⟨p, hp, hk⟩)))))
  · rcases (by omega : u = 0 ∨ u = 1 ∨ u = 2 ∨ u = 3) with rfl | rfl | rfl | rfl <;> simp
  · simp only [List.mem_cons, List.mem_append]; exact .inr (.inr (.inr (.inr (.inr (.inl hk)))))

def enterC (u : Int) (name : ByteArray) (σ : Sys) : Int := if u < 0 ∨ u ≥ 4 ∨ ¬ isNm name then 1 else if (AL.get σ.files name).isNone then 4 else 0
def leaveV (d : Lay) : Value := .func (.func 47) #[d.ptr] #[]
/-- The deferred call that unlocks. -/
def leaveD (d : Lay) : Deferred := { target := .fn (.func 47) #[], args := #[d.ptr] }

theorem enter_c {w : World} {d : Lay} {σ : Sys} (h : SysAt w d 0 σ) (u : Int) (name : ByteArray) :
    Calls Tryz.prog 43 #[.pointer (some ⟨d.S, 0, none⟩), .int .i64 u, .string name] w fun e w' => e = .returned (.tuple #[leaveV d, .int .i64 (enterC u name σ)]) ∧ SysAt w' d 1 σ ∧ Fr (· = d.S) w w' := by
  refine F43_calls _ u name w _ ?_
  refine ⟨false, w, ?_, ?_⟩
  · exact eqS_ptr_nil u23 _ _ _ w
  show Calls Tryz.prog 46 #[.pointer (some ⟨d.S, 0, none⟩)] w _
  refine Calls.mono (muLock (by rw [h.cellS]; rfl) (frozen_blk h.st 0)) ?_
  rintro e w1 ⟨rfl, rfl⟩
  have h1 := h.setMu 1
  have hf1 : Fr (· = d.S) w (w.setCell ⟨d.S, 0, none⟩ (.int .i32 1)) := Fr.setCell w ⟨d.S, 0, none⟩ _
  refine ⟨rfl, Br.of (fun hu => ?_) (fun hu => Br.of (fun hu4 => ?_) (fun hu4 => ?_))⟩
  · have hu : u < 0 := by simpa using hu
    exact ⟨by simp [enterC, hu]; rfl, h1, hf1⟩
  · have hu : u ≥ 4 := by simpa using hu4
    exact ⟨by simp [enterC, hu]; rfl, h1, hf1⟩
  · refine Calls.mono (isName_c name _) ?_
    rintro e w2 ⟨rfl, hp⟩
    have h2 := h1.pu hp
    have hf2 : Fr (· = d.S) w w2 := hf1.trans (Fr.pu hp : Fr (· = d.S) _ _) (fun i hi _ => hi)
    refine ⟨_, rfl, Br.of (fun hn => ?_) (fun hn => ?_)⟩
    · have hn : ¬ isNm name := by simpa using hn
      exact ⟨by simp [enterC, hn]; rfl, h2, hf2⟩
    · have hn : isNm name := by simpa using hn
      have hu : ¬ u < 0 := by simpa using hu
      have hu4 : ¬ u ≥ 4 := by simpa using hu4
      refine ⟨some d.M, h2.cellM, ?_⟩
      have hl := h2.mp.look keysS u40 (zval29 w2) name true
      rcases FilesAt.get name h2.fl with ⟨hg1, hg2⟩ | ⟨s, b, hg1, hg2, hr, _⟩
      · rw [hg1] at hl
        refine ⟨⟨none, 0, 0⟩, false, w2, hl, ?_⟩
        exact ⟨by simp [enterC, hn, hu, hu4, hg2]; rfl, h2, hf2⟩
      · rw [hg1] at hl
        refine ⟨s, true, w2, hl, ?_⟩
        exact ⟨by simp [enterC, hn, hu, hu4, hg2]; rfl, h2, hf2⟩

theorem leave_c {w : World} {d : Lay} {σ : Sys} (h : SysAt w d 1 σ) {K : World → Prop} (hK : ∀ w', SysAt w' d 0 σ → Fr (· = d.S) w w' → w'.heap.size = w.heap.size → K w') : runD Tryz.prog [leaveD d] w K := by
  show dcall Tryz.prog (leaveD d) w _
  show CallsD Tryz.prog 47 #[.pointer (some ⟨d.S, 0, none⟩)] .returning w _
  refine CallsD.mono (muUnlock (by rw [h.cellS]; rfl) (frozen_blk h.st 0) .returning) ?_
  rintro e u' w' ⟨rfl, rfl, rfl⟩
  exact ⟨⟨_, rfl⟩, rfl, hK _ (h.setMu 0) (Fr.setCell w ⟨d.S, 0, none⟩ _) (by simp)⟩
end Go.Proofs.YtnigfiljenfgjaaGreat
