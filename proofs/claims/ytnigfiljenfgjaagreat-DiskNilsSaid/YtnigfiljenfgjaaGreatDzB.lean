/- The disk: how a system lies in memory; its mutex; entering and leaving. -/
import Derived.Test.YtnigfiljenfgjaaGreatDzAll
import Derived.Test.YtnigfiljenfgjaaGreatShFourteen
import Derived.Laws.LoneSync
import Derived.Laws.AppendOwn
import Derived.Laws.MakeOwn
import Derived.Laws.StructEq
set_option maxRecDepth 100000
set_option linter.unusedVariables false
set_option linter.unusedSimpArgs false
namespace Go.Proofs.YtnigfiljenfgjaaGreat
open Go.Sh Go.RowKit

/-! ### The program's types -/
theorem u9 : Tryz.prog.underlying 9 = some .string := by kernel_rfl
theorem u5 : Tryz.prog.underlying 5 = some (.int .u8) := by kernel_rfl
theorem u29 : Tryz.prog.underlying 36 = some (.slice 5) := by kernel_rfl
theorem u40 : Tryz.prog.underlying 55 = some (.map 9 36) := by kernel_rfl
theorem u48 : Tryz.prog.underlying 63 = some (.map 92 89) := by kernel_rfl
theorem u50 : Tryz.prog.underlying 65 = some (.slice 95) := by kernel_rfl
theorem u23 : Tryz.prog.underlying 25 = some (.pointer 67) := by kernel_rfl
theorem u83 : Tryz.prog.underlying 156 = some (.pointer 60) := by kernel_rfl
theorem u87 : Tryz.prog.underlying 160 = some .unsafePointer := by kernel_rfl

/-! ### Data -/
structure Page where
  b : Nat → UInt8
  kn : Nat → Bool
  di : Nat → Bool
def Page.zero : Page := ⟨fun _ => 0, fun _ => false, fun _ => false⟩
def u8V (x : UInt8) : Value := .int .u8 ((x.toNat : Nat) : Int)
def Page.list (p : Page) : List Value := ((List.range 32).map fun i => u8V (p.b i)) ++ (((List.range 32).map fun i => Value.bool (p.kn i)) ++ (List.range 32).map fun i => Value.bool (p.di i))
def Page.cells (p : Page) : Array Value := p.list.toArray
abbrev Place := ByteArray × Int
def ekS (s : ByteArray) : Value := .string s
def ekP (p : Place) : Value := .agg #[.string p.1, .int .i64 p.2]
def evP (p : Page) : Value := .agg p.cells
def evS (s : SV) : Value := .slice s.a s.len s.cap
structure Lock where
  u : Int
  name : ByteArray
  at_ : Int
  n : Int
  deriving DecidableEq
def Lock.cells (l : Lock) : List Value := [.int .i64 l.u, .string l.name, .int .i64 l.at_, .int .i64 l.n]
structure Sys where
  files : List (ByteArray × List UInt8)
  caches : Nat → List (Place × Page)
  locks : List Lock

theorem Page.size_cells (p : Page) : p.cells.size = 96 := by simp [Page.cells, Page.list]
theorem Page.get_b (p : Page) {i : Nat} (h : i < 32) : p.cells[i]? = some (u8V (p.b i)) := by
  simp [Page.cells, Page.list, List.getElem?_append, h]
theorem Page.get_kn (p : Page) {i : Nat} (h : i < 32) : p.cells[32 + i]? = some (.bool (p.kn i)) := by
  simp [Page.cells, Page.list, List.getElem?_append, h]
theorem Page.get_di (p : Page) {i : Nat} (h : i < 32) : p.cells[64 + i]? = some (.bool (p.di i)) := by
  have h1 : ¬ 64 + i < 32 := by omega
  have h2 : ¬ 64 + i - 32 < 32 := by omega
  have h3 : 64 + i - 32 - 32 = i := by omega
  simp [Page.cells, Page.list, List.getElem?_append, h, h1, h2, h3]
def upN {α : Type} (f : Nat → α) (i : Nat) (x : α) : Nat → α := fun j => if j = i then x else f j
theorem Page.cells_ext {p : Page} {c : Array Value} (hs : c.size = 96) (hb : ∀ i, i < 32 → c[i]? = some (u8V (p.b i))) (hk : ∀ i, i < 32 → c[32 + i]? = some (.bool (p.kn i))) (hd : ∀ i, i < 32 → c[64 + i]? = some (.bool (p.di i))) : c = p.cells := by
  apply Array.ext_getElem?
  intro i
  by_cases h1 : i < 32
  · rw [hb i h1, p.get_b h1]
  · by_cases h2 : i < 64
    · have := hk (i - 32) (by omega)
      rw [show 32 + (i - 32) = i by omega] at this
      rw [this, ← p.get_kn (i := i - 32) (by omega), show 32 + (i - 32) = i by omega]
    · by_cases h3 : i < 96
      · have := hd (i - 64) (by omega)
        rw [show 64 + (i - 64) = i by omega] at this
        rw [this, ← p.get_di (i := i - 64) (by omega), show 64 + (i - 64) = i by omega]
      · rw [Array.getElem?_eq_none (by omega), Array.getElem?_eq_none (by rw [p.size_cells]; omega)]
theorem Page.set_b (p : Page) {i : Nat} (h : i < 32) (x : UInt8) : p.cells.setIfInBounds i (u8V x) = ({ p with b := upN p.b i x } : Page).cells := by
  refine Page.cells_ext (by simp [p.size_cells]) (fun j hj => ?_) (fun j hj => ?_) (fun j hj => ?_)
  · by_cases e : i = j
    · subst e; rw [Array.getElem?_setIfInBounds_self_of_lt (by rw [p.size_cells]; omega)]; simp [upN]
    · rw [Array.getElem?_setIfInBounds_ne e, p.get_b hj]; simp [upN, Ne.symm e]
  · rw [Array.getElem?_setIfInBounds_ne (by omega), p.get_kn hj]
  · rw [Array.getElem?_setIfInBounds_ne (by omega), p.get_di hj]
theorem Page.set_kn (p : Page) {i : Nat} (h : i < 32) (x : Bool) : p.cells.setIfInBounds (32 + i) (.bool x) = ({ p with kn := upN p.kn i x } : Page).cells := by
  refine Page.cells_ext (by simp [p.size_cells]) (fun j hj => ?_) (fun j hj => ?_) (fun j hj => ?_)
  · rw [Array.getElem?_setIfInBounds_ne (by omega), p.get_b hj]
  · by_cases e : i = j
    · subst e; rw [Array.getElem?_setIfInBounds_self_of_lt (by rw [p.size_cells]; omega)]; simp [upN]
    · rw [Array.getElem?_setIfInBounds_ne (by omega), p.get_kn hj]; simp [upN, Ne.symm e]
  · rw [Array.getElem?_setIfInBounds_ne (by omega), p.get_di hj]
theorem Page.set_di (p : Page) {i : Nat} (h : i < 32) (x : Bool) : p.cells.setIfInBounds (64 + i) (.bool x) = ({ p with di := upN p.di i x } : Page).cells := by
  refine Page.cells_ext (by simp [p.size_cells]) (fun j hj => ?_) (fun j hj => ?_) (fun j hj => ?_)
  · rw [Array.getElem?_setIfInBounds_ne (by omega), p.get_b hj]
  · rw [Array.getElem?_setIfInBounds_ne (by omega), p.get_kn hj]
  · by_cases e : i = j
    · subst e; rw [Array.getElem?_setIfInBounds_self_of_lt (by rw [p.size_cells]; omega)]; simp [upN]
    · rw [Array.getElem?_setIfInBounds_ne (by omega), p.get_di hj]; simp [upN, Ne.symm e]
theorem Page.one (p : Page) : p.cells.toList.all oneC = true := by
  simp [Page.cells, Page.list, u8V, oneC]
theorem zero61 : zc Tryz.prog 89 = Page.zero.cells := by kernel_rfl
theorem zval61 (w : World) : (zeroValue 89).run Tryz.prog w = .ok (evP Page.zero) w := by
  have h : ((Tryz.prog.info? 89).bind (·.zero)) = some (evP Page.zero) := by kernel_rfl
  obtain ⟨i, hi, hz⟩ := Option.bind_eq_some_iff.1 h
  simp [zeroValue, typeInfo, hi, hz]
theorem zval29 (w : World) : (zeroValue 36).run Tryz.prog w = .ok (.slice none 0 0) w := by
  have h : ((Tryz.prog.info? 36).bind (·.zero)) = some (.slice none 0 0) := by kernel_rfl
  obtain ⟨i, hi, hz⟩ := Option.bind_eq_some_iff.1 h
  simp [zeroValue, typeInfo, hi, hz]

/-! ### Keys -/
theorem keysS : Keys Tryz.prog 9 ekS := keys_str u9

theorem keysP : Keys Tryz.prog 92 ekP := keys_struct (ks := [none, some .i64]) (row := fun p : Place => [.string p.1, .int .i64 p.2]) (by kernel_rfl) (fun _ => rfl) (fun _ => rfl)
  (fun x y h => by obtain ⟨a, b⟩ := x; obtain ⟨c, d⟩ := y; simpa using h)

/-! ### How a system lies in memory -/
structure Lay where
  S : Nat
  M : Nat
  c : Nat → Nat
  ls : SV
  fs : List (ByteArray × SV)
def Lay.own (d : Lay) : List Nat := d.S :: d.M :: d.c 0 :: d.c 1 :: d.c 2 :: d.c 3 :: (blkOf d.ls ++ d.fs.flatMap fun p => blkOf p.2)
def FilesAt (w : World) : List (ByteArray × SV) → List (ByteArray × List UInt8) → Prop
  | [], [] => True
  | p :: fs, q :: bs => p.1 = q.1 ∧ RowAt w 5 1 p.2 (q.2.map u8V) ∧ FilesAt w fs bs
  | _, _ => False
theorem FilesAt.fr {w w' : World} {B : Nat → Prop} (hf : Fr B w w') : ∀ {fs : List (ByteArray × SV)} {bs : List (ByteArray × List UInt8)}, FilesAt w fs bs → (∀ p ∈ fs, ∀ k ∈ blkOf p.2, ¬ B k) → FilesAt w' fs bs
  | [], [], _, _ => trivial
  | p :: fs, q :: bs, ⟨h1, h2, h3⟩, hn => ⟨h1, h2.fr hf (hn p (by simp)), FilesAt.fr hf h3 fun p hp => hn p (by simp [hp])⟩
/-- What the locked state's cell is. -/
structure SysAt (w : World) (d : Lay) (mu : Int) (σ : Sys) : Prop where
  st : w.heap[d.S]? = some (.cells #[.int .i32 mu, .int .u32 0, .map (some d.M), .map (some (d.c 0)), .map (some (d.c 1)), .map (some (d.c 2)), .map (some (d.c 3)), .slice d.ls.a d.ls.len d.ls.cap] 67)
  mp : MapAt w ekS evS d.M d.fs
  fl : FilesAt w d.fs σ.files
  ca : ∀ u, u < 4 → MapAt w ekP evP (d.c u) (σ.caches u)
  lk : RowAt w 95 4 d.ls (σ.locks.flatMap Lock.cells)
  nd : d.own.Nodup
theorem Lay.mem_c (d : Lay) {u : Nat} (hu : u < 4) : d.c u ∈ d.own := by
  rcases (by omega : u = 0 ∨ u = 1 ∨ u = 2 ∨ u = 3) with rfl | rfl | rfl | rfl <;> simp [Lay.own]
theorem SysAt.fr {w w' : World} {B : Nat → Prop} {d : Lay} {mu : Int} {σ : Sys} (h : SysAt w d mu σ) (hf : Fr B w w') (hn : ∀ k ∈ d.own, ¬ B k) : SysAt w' d mu σ where
  st := hf.blk h.st (hn _ (by simp [Lay.own]))
  mp := h.mp.fr hf (hn _ (by simp [Lay.own]))
  fl := h.fl.fr hf fun p hp k hk => hn k (by simp only [Lay.own, List.mem_cons, List.mem_append, List.mem_flatMap]; exact .inr (.inr (.inr (.inr (.inr (.inr (.inr ⟨p, hp, hk⟩)))))))
  ca := fun u hu => (h.ca u hu).fr hf (hn _ (d.mem_c hu))
  lk := h.lk.fr hf fun k hk => hn k (by simp only [Lay.own, List.mem_cons, List.mem_append]; exact .inr (.inr (.inr (.inr (.inr (.inr (.inl hk)))))))
  nd := h.nd
theorem FilesAt.lt {w : World} : ∀ {fs : List (ByteArray × SV)} {bs : List (ByteArray × List UInt8)}, FilesAt w fs bs → ∀ p ∈ fs, ∀ k ∈ blkOf p.2, k < w.heap.size
  | [], [], _, _, hp, _, _ => by cases hp
  | p :: fs, q :: bs, ⟨_, h2, h3⟩, p', hp, k, hk => by
    rcases List.mem_cons.1 hp with rfl | hp
    · exact h2.lt k hk
    · exact FilesAt.lt h3 p' hp k hk
theorem SysAt.lt {w : World} {d : Lay} {mu : Int} {σ : Sys} (h : SysAt w d mu σ) : ∀ k ∈ d.own, k < w.heap.size := fun k hk => by
  simp only [Lay.own, List.mem_cons, List.mem_append, List.mem_flatMap] at hk
  rcases hk with rfl | rfl | rfl | rfl | rfl | rfl | hk | ⟨p, hp, hk⟩
  · exact blk_lt h.st
  · exact h.mp.lt
  · exact (h.ca 0 (by omega)).lt
  · exact (h.ca 1 (by omega)).lt
  · exact (h.ca 2 (by omega)).lt
  · exact (h.ca 3 (by omega)).lt
  · exact h.lk.lt k hk
  · exact h.fl.lt p hp k hk
/-- What the system keeps while what is new is changed. -/
theorem SysAt.new {w w' : World} {d : Lay} {mu : Int} {σ : Sys} (h : SysAt w d mu σ) {B : Nat → Prop} (hf : Fr B w w') (hn : ∀ k, B k → w.heap.size ≤ k) : SysAt w' d mu σ :=
  h.fr hf fun k hk hb => absurd (h.lt k hk) (Nat.not_lt.2 (hn k hb))
theorem SysAt.pu {w w' : World} {d : Lay} {mu : Int} {σ : Sys} (h : SysAt w d mu σ) (hp : Pu w w') : SysAt w' d mu σ := h.new (Fr.pu hp : Fr (fun _ => False) w w') (fun _ h => h.elim)
def Lay.ptr (d : Lay) : Value := .pointer (some ⟨d.S, 0, none⟩)

theorem FilesAt.get {w : World} (k : ByteArray) : ∀ {fs : List (ByteArray × SV)} {bs : List (ByteArray × List UInt8)}, FilesAt w fs bs →
    (AL.get fs k = none ∧ AL.get bs k = none) ∨ ∃ s b, AL.get fs k = some s ∧ AL.get bs k = some b ∧ RowAt w 5 1 s (b.map u8V) ∧ (k, s) ∈ fs
  | [], [], _ => .inl ⟨rfl, rfl⟩
  | (n, s) :: fs, (m, b) :: bs, ⟨h1, h2, h3⟩ => by
    have h1 : n = m := h1
    subst h1
    simp only [AL.get]
    by_cases e : n = k
    · subst e; exact .inr ⟨s, b, by simp, by simp, h2, by simp⟩
    · simp only [if_neg e]
      rcases FilesAt.get k h3 with h | ⟨s', b', h4, h5, h6, h7⟩
      · exact .inl h
      · exact .inr ⟨s', b', h4, h5, h6, List.mem_cons_of_mem _ h7⟩
theorem FilesAt.put {w : World} (k : ByteArray) {s' : SV} {b' : List UInt8} (hr : RowAt w 5 1 s' (b'.map u8V)) : ∀ {fs : List (ByteArray × SV)} {bs : List (ByteArray × List UInt8)}, FilesAt w fs bs → FilesAt w (AL.put fs k s') (AL.put bs k b')
  | [], [], _ => ⟨rfl, hr, trivial⟩
  | (n, s) :: fs, (m, b) :: bs, ⟨h1, h2, h3⟩ => by
    have h1 : n = m := h1
    subst h1
    simp only [AL.put]
    by_cases e : n = k
    · subst e; simp only [if_true]; exact ⟨rfl, hr, h3⟩
    · simp only [if_neg e]; exact ⟨rfl, h2, FilesAt.put k hr h3⟩
theorem FilesAt.length {w : World} : ∀ {fs : List (ByteArray × SV)} {bs : List (ByteArray × List UInt8)}, FilesAt w fs bs → fs.length = bs.length
  | [], [], _ => rfl
  | p :: fs, q :: bs, ⟨_, _, h3⟩ => by simp [FilesAt.length h3]
theorem u8V_map_len (b : List UInt8) {w : World} {s : SV} (h : RowAt w 5 1 s (b.map u8V)) : s.len = b.length := by have := h.1; simpa using this.symm

/-! ### The mutex -/
theorem disable (w : World) : (callFunc 114 #[]).run Tryz.prog w = .ok (.value (.tuple #[])) w := run_call_mark0 Tryz.func114 (by kernel_rfl) (by kernel_rfl) (by kernel_rfl) .disable (by kernel_rfl) w
theorem enable (w : World) : (callFunc 116 #[]).run Tryz.prog w = .ok (.value (.tuple #[])) w := run_call_mark0 Tryz.func116 (by kernel_rfl) (by kernel_rfl) (by kernel_rfl) .enable (by kernel_rfl) w
theorem acquire (a : Addr) (w : World) : (callFunc 117 #[.pointer (some a)]).run Tryz.prog w = .ok (.value (.tuple #[])) w := run_call_marked Tryz.func117 (by kernel_rfl) (by kernel_rfl) (by kernel_rfl) .acquire (by kernel_rfl) a w
theorem relMerge (a : Addr) (w : World) : (callFunc 119 #[.pointer (some a)]).run Tryz.prog w = .ok (.value (.tuple #[])) w := run_call_marked Tryz.func119 (by kernel_rfl) (by kernel_rfl) (by kernel_rfl) .releaseMerge (by kernel_rfl) a w
theorem sz45 : (Tryz.prog.info? 60).map (fun i => decide (i.size = 0)) = some false := by kernel_rfl
theorem sz82 : (Tryz.prog.info? 155).map (fun i => decide (i.size = 0)) = some false := by kernel_rfl

theorem muLock {a : Addr} {w : World} (hc : w.cell? a = some (.int .i32 0)) (hz : w.frozen? a = false) :
    Calls Tryz.prog 46 #[.pointer (some a)] w fun e w' => e = .returned (.tuple #[]) ∧ w' = w.setCell a (.int .i32 1) := by
  refine F46_calls _ w _ ?_
  refine Calls.mono (R := fun e w' => e = .returned (.tuple #[]) ∧ w' = w.setCell a (.int .i32 1)) ?_ fun e w' h => ⟨h.1, rfl, h.2⟩
  refine F96_calls _ w _ ?_
  refine ⟨w, disable w, true, w.setCell a (.int .i32 1), run_call_cas_hit Tryz.func115 (by kernel_rfl) (by kernel_rfl) (by kernel_rfl) .i32 (by kernel_rfl) hc hz, ?_⟩
  have hc' : (w.setCell a (.int .i32 1)).cell? a = some (.int .i32 1) := World.cell?_setCell_same _ _ _ hc
  exact ⟨_, enable _, _, _, run_convert_to_unsafe u83 u87 sz45 hc', _, acquire a _, rfl, rfl⟩
theorem muUnlock {a : Addr} {w : World} (hc : w.cell? a = some (.int .i32 1)) (hz : w.frozen? a = false) (u : FrameMode) :
    CallsD Tryz.prog 47 #[.pointer (some a)] u w fun e u' w' => u' = u ∧ e = .returned (.tuple #[]) ∧ w' = w.setCell a (.int .i32 0) := by
  refine F47_callsD _ w (fun e w' => e = .returned (.tuple #[]) ∧ w' = w.setCell a (.int .i32 0)) u ?_
  refine Calls.mono (R := fun e w' => e = .returned (.tuple #[]) ∧ w' = w.setCell a (.int .i32 0)) ?_ fun e w' h => ⟨h.1, rfl, h.2⟩
  refine F97_calls _ w _ ?_
  refine ⟨1, hc, _, _, run_convert_to_unsafe u83 u87 sz45 hc, _, relMerge a _, _, disable _, 0, w.setCell a (.int .i32 0),
    run_call_add Tryz.func120 (by kernel_rfl) (by kernel_rfl) (by kernel_rfl) .i32 (by kernel_rfl) hc hz (by simp [go_sem]; rfl), w.setCell a (.int .i32 0), enable _, rfl, rfl⟩
end Go.Proofs.YtnigfiljenfgjaaGreat
