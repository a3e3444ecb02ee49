import Derived.Test.YtnigfiljenfgjaaGreatDzPrA
import Derived.Test.YtnigfiljenfgjaaGreatShFourteen
import Derived.Laws.LoneSync
import Derived.Laws.AppendOwn
import Derived.Laws.MakeOwn
import Derived.Laws.StructEq
/- The disk: how a system lies in memory; its mutex; entering and leaving. -/
set_option maxRecDepth 100000
set_option linter.unusedVariables false
set_option linter.unusedSimpArgs false
namespace Go.Proofs.YtnigfiljenfgjaaGreat
open Go.Sh Go.RowKit
theorem u9 : Tryz.prog.underlying 9 = some .string := by kernel_rfl
theorem u5 : Tryz.prog.underlying 5 = some (.int .u8) := by kernel_rfl
theorem u29 : Tryz.prog.underlying 36 = some (.slice 5) := by kernel_rfl
theorem u40 : Tryz.prog.underlying 55 = some (.map 9 36) := by kernel_rfl
theorem u48 : Tryz.prog.underlying 63 = some (.map 92 89) := by kernel_rfl
theorem u50 : Tryz.prog.underlying 65 = some (.slice 95) := by kernel_rfl
theorem u23 : Tryz.prog.underlying 25 = some (.pointer 67) := by kernel_rfl
theorem u83 : Tryz.prog.underlying 156 = some (.pointer 60) := by kernel_rfl
theorem u87 : Tryz.prog.underlying 160 = some .unsafePointer := by kernel_rfl
structure Page where
  b : Nat -> UInt8
  kn : Nat -> Bool
  di : Nat -> Bool
def Page.zero : Page := ⟨fun _ => 0, fun _ => false, fun _ => false⟩
def u8V (x : UInt8) : Value := .int .u8 ((x.toNat : Nat) : Int)
def Page.list (p : Page) : List Value := ((List.range 32).map fun i => u8V (p.b i)) ++ (((List.range 32).map fun i => Value.bool (p.kn i)) ++ (List.range 32).map fun i => Value.bool (p.di i))
def Page.cells (p : Page) : Array Value := p.list.toArray
abbrev Place := ByteArray × Int
def ekS (s : ByteArray) : Value := .string s
def ekP (p : Place) : Value := .agg #[.string p.1, .int .i64 p.2]
def evP (p : Page) : Value := .agg p.cells
def evS (s : SV) : Value := .slice s.a s.len s.cap
structure Lock where
  u : Int
  name : ByteArray
  at_ : Int
  n : Int
  deriving DecidableEq
def Lock.cells (l : Lock) : List Value := [.int .i64 l.u, .string l.name, .int .i64 l.at_, .int .i64 l.n]
structure Sys where
  files : List (ByteArray × List UInt8)
  caches : Nat -> List (Place × Page)
  locks : List Lock
theorem Page.size_cells (p : Page) : p.cells.size = 96 := by simp [Page.cells, Page.list]
theorem Page.get_b (p : Page) {i : Nat} (h : i < 32) : p.cells[i]? = some (u8V (p.b i)) := by
  simp [Page.cells, Page.list, List.getElem?_append, h]
theorem Page.get_kn (p : Page) {i : Nat} (h : i < 32) : p.cells[32 + i]? = some (.bool (p.kn i)) := by
  simp [Page.cells, Page.list, List.getElem?_append, h]
theorem Page.get_di (p : Page) {i : Nat} (h : i < 32) : p.cells[64 + i]? = some (.bool (p.di i)) := by
  have h1 : ¬ 64 + i < 32 := by omega
  have h2 : ¬ 64 + i - 32 < 32 := by omega
  have h3 : 64 + i - 32 - 32 = i := by omega
  simp [Page.cells, Page.list, List.getElem?_append, h, h1, h2, h3]
def upN {α : Type} (f : Nat -> α) (i : Nat) (x : α) : Nat -> α := fun j => if j = i then x else f j
theorem Page.cells_ext {p : Page} {c : Array Value} (hs : c.size = 96) (hb : ∀ i, i < 32 -> c[i]? = some (u8V (p.b i))) (hk : ∀ i, i < 32 -> c[32 + i]? = some (.bool (p.kn i))) (hd : ∀ i, i < 32 -> c[64 + i]? = some (.bool (p.di i))) : c = p.cells := by
  apply Array.ext_getElem?
  intro i
  by_cases h1 : i < 32
  · rw [hb i h1, p.get_b h1]
  · by_cases h2 : i < 64
    · have := hk (i - 32) (by omega)
      rw [show 32 + (i - 32) = i by omega] at this
      rw [this, ← p.get_kn (i := i - 32) (by omega), show 32 + (i - 32) = i by omega]
    · by_cases h3 : i < 96
      · have := hd (i - 64) (by omega)
        rw [show 64 + (i - 64) = i by omega] at this
        rw [this, ← p.get_di (i := i - 64) (by omega), show 64 + (i - 64) = i by omega]
      · rw [Array.getElem?_eq_none (by omega), Array.getElem?_eq_none (by rw [p.size_cells]; omega)]
theorem Page.set_b (p : Page) {i : Nat} (h : i < 32) (x : UInt8) : p.cells.setIfInBounds i (u8V x) = ({ p with b := upN p.b i x } : Page).cells := by
  refine Page.cells_ext (by simp [p.size_cells]) (fun j hj => ?_) (fun j hj => ?_) (fun j hj => ?_)
  · by_cases e : i = j
    · subst e; rw [Array.getElem?_setIfInBounds_self_of_lt (by rw [p.size_cells]; omega)]; simp [upN]
    · rw [Array.getElem?_setIfInBounds_ne e, p.get_b hj]; simp [upN, Ne.symm e]
  · rw [Array.getElem?_setIfInBounds_ne (by omega), p.get_kn hj]
  · rw [Array.getElem?_setIfInBounds_ne (by omega), p.get_di hj]
theorem Page.set_kn (p : Page) {i : Nat} (h : i < 32) (x : Bool) : p.cells.setIfInBounds (32 + i) (.bool x) = ({ p with kn := upN p.kn i x } : Page).cells := by
  refine Page.cells_ext (by simp [p.size_cells]) (fun j hj => ?_) (fun j hj => ?_) (fun j hj => ?_)
  · rw [Array.getElem?_setIfInBounds_ne (by omega), p.get_b hj]
  · by_cases e : i = j
    · subst e; rw [Array.getElem?_setIfInBounds_self_of_lt (by rw [p.size_cells]; omega)]; simp [upN]
    · rw [Array.getElem?_setIfInBounds_ne (by omega), p.get_kn hj]; simp [upN, Ne.symm e]
  · rw [Array.getElem?_setIfInBounds_ne (by omega), p.get_di hj]
theorem Page.set_di (p : Page) {i : Nat} (h : i < 32) (x : Bool) : p.cells.setIfInBounds (64 + i) (.bool x) = ({ p with di := upN p.di i x } : Page).cells := by
  refine Page.cells_ext (by simp [p.size_cells]) (fun j hj => ?_) (fun j hj => ?_) (fun j hj => ?_)
  · rw [Array.getElem?_setIfInBounds_ne (by omega), p.get_b hj]
  · rw [Array.getElem?_setIfInBounds_ne (by omega), p.get_kn hj]
  · by_cases e : i = j
    · subst e; rw [Array.getElem?_setIfInBounds_self_of_lt (by rw [p.size_cells]; omega)]; simp [upN]
    · rw [Array.getElem?_setIfInBounds_ne (by omega), p.get_di hj]; simp [upN, Ne.symm e]
theorem Page.one (p : Page) : p.cells.toList.all oneC = true := by
  simp [Page.cells, Page.list, u8V, oneC]
theorem zero61 : zc Tryz.prog 89 = Page.zero.cells := by kernel_rfl
theorem zval61 (w : World) : (zeroValue 89).run Tryz.prog w = .ok (evP Page.zero) w := by
  have h : ((Tryz.prog.info? 89).bind (·.zero)) = some (evP Page.zero) := by kernel_rfl
  obtain ⟨i, hi, hz⟩ := Option.bind_eq_some_iff.1 h
  simp [zeroValue, typeInfo, hi, hz]
theorem zval29 (w : World) : (zeroValue 36).run Tryz.prog w = .ok (.slice none 0 0) w := by
  have h : ((Tryz.prog.info? 36).bind (·.zero)) = some (.slice none 0 0) := by kernel_rfl
  obtain ⟨i, hi, hz⟩ := Option.bind_eq_some_iff.1 h
  simp [zeroValue, typeInfo, hi, hz]
theorem keysS : Keys Tryz.prog 9 ekS := keys_str u9
theorem keysP : Keys Tryz.prog 92 ekP := keys_struct (ks := [none, some .i64]) (row := fun p : Place => [.string p.1, .int .i64 p.2]) (by kernel_rfl) (fun _ => rfl) (fun _ => rfl)
  (fun x y h => by obtain ⟨a, b⟩ := x; obtain ⟨c, d⟩ := y; simpa using h)
structure Lay where
  S : Nat
  M : Nat
  c : Nat -> Nat
  ls : SV
  fs : List (ByteArray × SV)
def Lay.own (d : Lay) : List Nat := d.S :: d.M :: d.c 0 :: d.c 1 :: d.c 2 :: d.c 3 :: (blkOf d.ls ++ d.fs.flatMap fun p => blkOf p.2)
def FilesAt (w : World) : List (ByteArray × SV) -> List (ByteArray × List UInt8) -> Prop
  | [], [] => True
  | p :: fs, q :: bs => p.1 = q.1 /\ RowAt w 5 1 p.2 (q.2.map u8V) /\ FilesAt w fs bs
  | _, _ => False
theorem FilesAt.fr {w w' : World} {B : Nat -> Prop} (hf : Fr B w w') : ∀ {fs : List (ByteArray × SV)} {bs : List (ByteArray × List UInt8)}, FilesAt w fs bs -> (∀ p ∈ fs, ∀ k ∈ blkOf p.2, ¬ B k) -> FilesAt w' fs bs
  | [], [], _, _ => trivial
  | p :: fs, q :: bs, ⟨h1, h2, h3⟩, hn => ⟨h1, h2.fr hf (hn p (by simp)), FilesAt.fr hf h3 fun p hp => hn p (by simp [hp])⟩
structure SysAt (w : World) (d : Lay) (mu : Int) (σ : Sys) : Prop where
  st : w.heap[d.S]? = some (.cells #[.int .i32 mu, .int .u32 0, .map (some d.M), .map (some (d.c 0)), .map (some (d.c 1)), .map (some (d.c 2)), .map (some (d.c 3)), .slice d.ls.a d.ls.len d.ls.cap] 67)
  mp : MapAt w ekS evS d.M d.fs
  fl : FilesAt w d.fs σ.files
  ca : ∀ u, u < 4 -> MapAt w ekP evP (d.c u) (σ.caches u)
  lk : RowAt w 95 4 d.ls (σ.locks.flatMap Lock.cells)
  nd : d.own.Nodup
theorem Lay.mem_c (d : Lay) {u : Nat} (hu : u < 4) : d.c u ∈ d.own := by
  rcases (by omega : u = 0 ∨ u = 1 ∨ u = 2 ∨ u = 3) with rfl | rfl | rfl | rfl <;> simp [Lay.own]
theorem SysAt.fr {w w' : World} {B : Nat -> Prop} {d : Lay} {mu : Int} {σ : Sys} (h : SysAt w d mu σ) (hf : Fr B w w') (hn : ∀ k ∈ d.own, ¬ B k) : SysAt w' d mu σ where
  st := hf.blk h.st (hn _ (by simp [Lay.own]))
  mp := h.mp.fr hf (hn _ (by simp [Lay.own]))
  fl := h.fl.fr hf fun p hp k hk => hn k (by simp only [Lay.own, List.mem_cons, List.mem_append, List.mem_flatMap]; exact .inr (.inr (.inr (.inr (.inr (.inr (.inr ⟨p, hp, hk⟩)))))))
  ca := fun u hu => (h.ca u hu).fr hf (hn _ (d.mem_c hu))
  lk := h.lk.fr hf fun k hk => hn k (by simp only [Lay.own, List.mem_cons, List.mem_append]; exact .inr (.inr (.inr (.inr (.inr (.inr (.inl hk)))))))
  nd := h.nd
theorem FilesAt.lt {w : World} : ∀ {fs : List (ByteArray × SV)} {bs : List (ByteArray × List UInt8)}, FilesAt w fs bs -> ∀ p ∈ fs, ∀ k ∈ blkOf p.2, k < w.heap.size
  | [], [], _, _, hp, _, _ => by cases hp
  | p :: fs, q :: bs, ⟨_, h2, h3⟩, p', hp, k, hk => by
    rcases List.mem_cons.1 hp with rfl | hp
    · exact h2.lt k hk
    · exact FilesAt.lt h3 p' hp k hk
theorem SysAt.lt {w : World} {d : Lay} {mu : Int} {σ : Sys} (h : SysAt w d mu σ) : ∀ k ∈ d.own, k < w.heap.size := fun k hk => by
  simp only [Lay.own, List.mem_cons, List.mem_append, List.mem_flatMap] at hk
  rcases hk with rfl | rfl | rfl | rfl | rfl | rfl | hk | ⟨p, hp, hk⟩
  · exact blk_lt h.st
  · exact h.mp.lt
  · exact (h.ca 0 (by omega)).lt
  · exact (h.ca 1 (by omega)).lt
  · exact (h.ca 2 (by omega)).lt
  · exact (h.ca 3 (by omega)).lt
  · exact h.lk.lt k hk
  · exact h.fl.lt p hp k hk
theorem SysAt.new {w w' : World} {d : Lay} {mu : Int} {σ : Sys} (h : SysAt w d mu σ) {B : Nat -> Prop} (hf : Fr B w w') (hn : ∀ k, B k -> w.heap.size <= k) : SysAt w' d mu σ :=
  h.fr hf fun k hk hb => absurd (h.lt k hk) (Nat.not_lt.2 (hn k hb))
theorem SysAt.pu {w w' : World} {d : Lay} {mu : Int} {σ : Sys} (h : SysAt w d mu σ) (hp : Pu w w') : SysAt w' d mu σ := h.new (Fr.pu hp : Fr (fun _ => False) w w') (fun _ h => h.elim)
def Lay.ptr (d : Lay) : Value := .pointer (some ⟨d.S, 0, none⟩)
theorem FilesAt.get {w : World} (k : ByteArray) : ∀ {fs : List (ByteArray × SV)} {bs : List (ByteArray × List UInt8)}, FilesAt w fs bs ->
    (AL.get fs k = none /\ AL.get bs k = none) ∨ ∃ s b, AL.get fs k = some s /\ AL.get bs k = some b /\ RowAt w 5 1 s (b.map u8V) /\ (k, s) ∈ fs
  | [], [], _ => .inl ⟨rfl, rfl⟩
  | (n, s) :: fs, (m, b) :: bs, ⟨h1, h2, h3⟩ => by
    have h1 : n = m := h1
    subst h1
    simp only [AL.get]
    by_cases e : n = k
    · subst e; exact .inr ⟨s, b, by simp, by simp, h2, by simp⟩
    · simp only [if_neg e]
      rcases FilesAt.get k h3 with h | ⟨s', b', h4, h5, h6, h7⟩
      · exact .inl h
      · exact .inr ⟨s', b', h4, h5, h6, List.mem_cons_of_mem _ h7⟩
theorem FilesAt.put {w : World} (k : ByteArray) {s' : SV} {b' : List UInt8} (hr : RowAt w 5 1 s' (b'.map u8V)) : ∀ {fs : List (ByteArray × SV)} {bs : List (ByteArray × List UInt8)}, FilesAt w fs bs -> FilesAt w (AL.put fs k s') (AL.put bs k b')
  | [], [], _ => ⟨rfl, hr, trivial⟩
  | (n, s) :: fs, (m, b) :: bs, ⟨h1, h2, h3⟩ => by
    have h1 : n = m := h1
    subst h1
    simp only [AL.put]
    by_cases e : n = k
    · subst e; simp only [if_true]; exact ⟨rfl, hr, h3⟩
    · simp only [if_neg e]; exact ⟨rfl, h2, FilesAt.put k hr h3⟩
theorem FilesAt.length {w : World} : ∀ {fs : List (ByteArray × SV)} {bs : List (ByteArray × List UInt8)}, FilesAt w fs bs -> fs.length = bs.length
  | [], [], _ => rfl
  | p :: fs, q :: bs, ⟨_, _, h3⟩ => by simp [FilesAt.length h3]
theorem u8V_map_len (b : List UInt8) {w : World} {s : SV} (h : RowAt w 5 1 s (b.map u8V)) : s.len = b.length := by have := h.1; simpa using this.symm
theorem disable (w : World) : (callFunc 114 #[]).run Tryz.prog w = .ok (.value (.tuple #[])) w := run_call_mark0 Tryz.func114 (by kernel_rfl) (by kernel_rfl) (by kernel_rfl) .disable (by kernel_rfl) w
theorem enable (w : World) : (callFunc 116 #[]).run Tryz.prog w = .ok (.value (.tuple #[])) w := run_call_mark0 Tryz.func116 (by kernel_rfl) (by kernel_rfl) (by kernel_rfl) .enable (by kernel_rfl) w
theorem acquire (a : Addr) (w : World) : (callFunc 117 #[.pointer (some a)]).run Tryz.prog w = .ok (.value (.tuple #[])) w := run_call_marked Tryz.func117 (by kernel_rfl) (by kernel_rfl) (by kernel_rfl) .acquire (by kernel_rfl) a w
theorem relMerge (a : Addr) (w : World) : (callFunc 119 #[.pointer (some a)]).run Tryz.prog w = .ok (.value (.tuple #[])) w := run_call_marked Tryz.func119 (by kernel_rfl) (by kernel_rfl) (by kernel_rfl) .releaseMerge (by kernel_rfl) a w
theorem sz45 : (Tryz.prog.info? 60).map (fun i => decide (i.size = 0)) = some false := by kernel_rfl
theorem muLock {a : Addr} {w : World} (hc : w.cell? a = some (.int .i32 0)) (hz : w.frozen? a = false) :
    Calls Tryz.prog 46 #[.pointer (some a)] w fun e w' => e = .returned (.tuple #[]) /\ w' = w.setCell a (.int .i32 1) := by
  refine F46_calls _ w _ ?_
  refine Calls.mono (R := fun e w' => e = .returned (.tuple #[]) /\ w' = w.setCell a (.int .i32 1)) ?_ fun e w' h => ⟨h.1, rfl, h.2⟩
  refine F96_calls _ w _ ?_
  refine ⟨w, disable w, true, w.setCell a (.int .i32 1), run_call_cas_hit Tryz.func115 (by kernel_rfl) (by kernel_rfl) (by kernel_rfl) .i32 (by kernel_rfl) hc hz, ?_⟩
  have hc' : (w.setCell a (.int .i32 1)).cell? a = some (.int .i32 1) := World.cell?_setCell_same _ _ _ hc
  exact ⟨_, enable _, _, _, run_convert_to_unsafe u83 u87 sz45 hc', _, acquire a _, rfl, rfl⟩
theorem muUnlock {a : Addr} {w : World} (hc : w.cell? a = some (.int .i32 1)) (hz : w.frozen? a = false) (u : FrameMode) :
    CallsD Tryz.prog 47 #[.pointer (some a)] u w fun e u' w' => u' = u /\ e = .returned (.tuple #[]) /\ w' = w.setCell a (.int .i32 0) := by
  refine F47_callsD _ w (fun e w' => e = .returned (.tuple #[]) /\ w' = w.setCell a (.int .i32 0)) u ?_
  refine Calls.mono (R := fun e w' => e = .returned (.tuple #[]) /\ w' = w.setCell a (.int .i32 0)) ?_ fun e w' h => ⟨h.1, rfl, h.2⟩
  refine F97_calls _ w _ ?_
  refine ⟨1, hc, _, _, run_convert_to_unsafe u83 u87 sz45 hc, _, relMerge a _, _, disable _, 0, w.setCell a (.int .i32 0),
    run_call_add Tryz.func120 (by kernel_rfl) (by kernel_rfl) (by kernel_rfl) .i32 (by kernel_rfl) hc hz (by simp [go_sem]; rfl), w.setCell a (.int .i32 0), enable _, rfl, rfl⟩
end Go.Proofs.YtnigfiljenfgjaaGreat

/- The disk: names; entering and leaving; a new system. -/
set_option maxRecDepth 100000
set_option linter.unusedVariables false
set_option linter.unusedSimpArgs false
namespace Go.Proofs.YtnigfiljenfgjaaGreat
open Go.Sh Go.RowKit
def okc (x : UInt8) : Prop := x.toNat = 46 ∨ (48 <= x.toNat /\ x.toNat <= 57) ∨ (65 <= x.toNat /\ x.toNat <= 90) ∨ (97 <= x.toNat /\ x.toNat <= 122)
instance (x : UInt8) : Decidable (okc x) := by unfold okc; exact inferInstance
def isNm (s : ByteArray) : Prop := s.size ≠ 0 /\ s.size <= 10 /\ ∀ x ∈ s.data.toList, okc x
instance (s : ByteArray) : Decidable (isNm s) := by unfold isNm; exact inferInstance
theorem toList_nil (s : ByteArray) : (s.toList == (⟨#[]⟩ : ByteArray).toList) = decide (s.size = 0) := by
  rw [← beq_toListBytes, beq_bytes]
  by_cases h : s.size = 0
  · have : s = ⟨#[]⟩ := by
      obtain ⟨⟨l⟩⟩ := s
      cases l with
      | nil => rfl
      | cons a l => simp [ByteArray.size] at h
    simp [this]
    rfl
  · have : s ≠ ⟨#[]⟩ := fun e => h (by rw [e]; rfl)
    simp [this, h]
theorem toList_beq (s t : ByteArray) : (s.toList == t.toList) = decide (s = t) := by rw [← beq_toListBytes, beq_bytes]
theorem isName_c (s : ByteArray) (w : World) : Calls Tryz.prog 94 #[.string s] w fun e w' => e = .returned (.bool (decide (isNm s))) /\ Pu w w' := by
  refine F94_calls s w _ ?_
  rw [F94_7, toList_nil]
  refine Br.of (fun h => ?_) (fun h0 => Br.of (fun h => ?_) (fun h1 => ?_))
  · have : ¬ isNm s := fun hn => hn.1 (by simpa using h)
    exact ⟨by simp [this], Pu.refl w⟩
  · have : ¬ isNm s := fun hn => by have := hn.2.1; simp at h; omega
    exact ⟨by simp [this], Pu.refl w⟩
  · have h0 := of_decide_eq_false h0
    have h1 := of_decide_eq_false h1
    obtain ⟨l, w1, hc, hp, hl⟩ := conv_bytes (P := Tryz.prog) u9 u29 u5 s (by omega) w
    refine ⟨l, w1, hc, ?_⟩
    have hlen : l.len = s.data.toList.length := hl.len
    refine loopUp s.data.toList.length (fun k t w' => w' = w1 /\ t = (k : Int) /\ ∀ j x, j < k -> s.data.toList[j]? = some x -> okc x) ⟨rfl, rfl, fun j x hj => by omega⟩ ?_
    rintro k J t w' hk ⟨rfl, rfl, hall⟩ hJ
    refine Br.of (fun hlt => ?_) (fun hge => ?_)
    · have hlt' : k < s.data.toList.length := by simpa [hlen] using hlt
      obtain ⟨x, hx⟩ : ∃ x, s.data.toList[k]? = some x := ⟨s.data.toList[k], by simp [hlt']⟩
      obtain ⟨a, ha, hi, hcell⟩ := hl.u8 hx
      have hT : okc x -> J (IntKind.i64.wrap ((k : Int) + 1)) w' := fun ho => by
        rw [wrap_in (by omega) (by have : s.data.toList.length = s.size := by simp
                                   omega)]
        refine hJ _ _ hlt' ⟨rfl, by omega, fun j y hj hy => ?_⟩
        by_cases e : j = k
        · subst e; rw [hx] at hy; cases hy; exact ho
        · exact hall j y (by omega) hy
      have hF : ¬ okc x -> (Ending.returned (Value.bool false) = Ending.returned (Value.bool (decide (isNm s))) /\ Pu w w') := fun ho => by
        have : ¬ isNm s := fun hn => ho (hn.2.2 x (List.mem_of_getElem? hx))
        exact ⟨by simp [this], hp⟩
      refine ⟨a, ha, by omega, by omega, _, by simpa using hcell, ?_⟩
      have hu := x.toNat_lt
      unfold okc at hT hF
      repeat' (first | refine Br.of (fun h => ?_) (fun h => ?_))
      all_goals simp only [bne_iff_ne, ne_eq, decide_eq_true_eq, decide_eq_false_iff_not, bne_eq_false_iff_eq] at *
      all_goals first | exact hT (by omega) | exact hF (by omega)
    · have hk' : k = s.data.toList.length := by
        have : ¬ k < s.data.toList.length := by simpa [hlen] using hge
        omega
      have : isNm s := ⟨by omega, by omega, fun x hx => by
        obtain ⟨j, hj, e⟩ := List.getElem_of_mem hx
        exact hall j x (by omega) (by rw [← e]; exact List.getElem?_eq_getElem hj)⟩
      exact ⟨by simp [this], hp⟩
theorem SysAt.cellS {w : World} {d : Lay} {mu : Int} {σ : Sys} (h : SysAt w d mu σ) (o : Nat) : w.cell? ⟨d.S, o, none⟩ = (#[.int .i32 mu, .int .u32 0, .map (some d.M), .map (some (d.c 0)), .map (some (d.c 1)), .map (some (d.c 2)), .map (some (d.c 3)), .slice d.ls.a d.ls.len d.ls.cap] : Array Value)[o]? := cell_blk h.st o
theorem SysAt.cellC {w : World} {d : Lay} {mu : Int} {σ : Sys} (h : SysAt w d mu σ) {u : Nat} (hu : u < 4) : w.cell? (((⟨d.S, 0, none⟩ : Addr).add 3).add (u * 1)) = some (.map (some (d.c u))) := by
  rw [add_def, add_def, h.cellS]
  rcases (by omega : u = 0 ∨ u = 1 ∨ u = 2 ∨ u = 3) with rfl | rfl | rfl | rfl <;> rfl
theorem SysAt.cellM {w : World} {d : Lay} {mu : Int} {σ : Sys} (h : SysAt w d mu σ) : w.cell? ((⟨d.S, 0, none⟩ : Addr).add 2) = some (.map (some d.M)) := by
  rw [add_def, h.cellS]; rfl
theorem SysAt.cellL {w : World} {d : Lay} {mu : Int} {σ : Sys} (h : SysAt w d mu σ) : w.cell? ((⟨d.S, 0, none⟩ : Addr).add 7) = some (.slice d.ls.a d.ls.len d.ls.cap) := by
  rw [add_def, h.cellS]; rfl
theorem SysAt.ne_S {w : World} {d : Lay} {mu : Int} {σ : Sys} (h : SysAt w d mu σ) : d.S ∉ d.M :: d.c 0 :: d.c 1 :: d.c 2 :: d.c 3 :: (blkOf d.ls ++ d.fs.flatMap fun p => blkOf p.2) := (List.nodup_cons.1 h.nd).1
theorem SysAt.setMu {w : World} {d : Lay} {mu : Int} {σ : Sys} (h : SysAt w d mu σ) (m : Int) : SysAt (w.setCell ⟨d.S, 0, none⟩ (.int .i32 m)) d m σ := by
  have hf := Fr.setCell w ⟨d.S, 0, none⟩ (.int .i32 m)
  have hne : ∀ k ∈ d.M :: d.c 0 :: d.c 1 :: d.c 2 :: d.c 3 :: (blkOf d.ls ++ d.fs.flatMap fun p => blkOf p.2), ¬ k = (⟨d.S, 0, none⟩ : Addr).block := fun k hk e => h.ne_S (by have e : k = d.S := e; rw [← e]; exact hk)
  refine ⟨?_, h.mp.fr hf (hne _ (by simp)), h.fl.fr hf fun p hp k hk => hne k ?_, fun u hu => (h.ca u hu).fr hf (hne _ ?_), h.lk.fr hf fun k hk => hne k ?_, h.nd⟩
  · have := setCell_blk h.st 0 (.int .i32 m)
    rw [this]; rfl
  · simp only [List.mem_cons, List.mem_append, List.mem_flatMap]; exact .inr (.inr (.inr (.inr (.inr (.inr ⟨p, hp, hk⟩)))))
  · rcases (by omega : u = 0 ∨ u = 1 ∨ u = 2 ∨ u = 3) with rfl | rfl | rfl | rfl <;> simp
  · simp only [List.mem_cons, List.mem_append]; exact .inr (.inr (.inr (.inr (.inr (.inl hk)))))
def enterC (u : Int) (name : ByteArray) (σ : Sys) : Int := if u < 0 ∨ u ≥ 4 ∨ ¬ isNm name then 1 else if (AL.get σ.files name).isNone then 4 else 0
def leaveV (d : Lay) : Value := .func (.func 47) #[d.ptr] #[]
def leaveD (d : Lay) : Deferred := { target := .fn (.func 47) #[], args := #[d.ptr] }
theorem enter_c {w : World} {d : Lay} {σ : Sys} (h : SysAt w d 0 σ) (u : Int) (name : ByteArray) :
    Calls Tryz.prog 43 #[.pointer (some ⟨d.S, 0, none⟩), .int .i64 u, .string name] w fun e w' => e = .returned (.tuple #[leaveV d, .int .i64 (enterC u name σ)]) /\ SysAt w' d 1 σ /\ Fr (· = d.S) w w' := by
  refine F43_calls _ u name w _ ?_
  refine ⟨false, w, ?_, ?_⟩
  · exact eqS_ptr_nil u23 _ _ _ w
  show Calls Tryz.prog 46 #[.pointer (some ⟨d.S, 0, none⟩)] w _
  refine Calls.mono (muLock (by rw [h.cellS]; rfl) (frozen_blk h.st 0)) ?_
  rintro e w1 ⟨rfl, rfl⟩
  have h1 := h.setMu 1
  have hf1 : Fr (· = d.S) w (w.setCell ⟨d.S, 0, none⟩ (.int .i32 1)) := Fr.setCell w ⟨d.S, 0, none⟩ _
  refine ⟨rfl, Br.of (fun hu => ?_) (fun hu => Br.of (fun hu4 => ?_) (fun hu4 => ?_))⟩
  · have hu : u < 0 := by simpa using hu
    exact ⟨by simp [enterC, hu]; rfl, h1, hf1⟩
  · have hu : u ≥ 4 := by simpa using hu4
    exact ⟨by simp [enterC, hu]; rfl, h1, hf1⟩
  · refine Calls.mono (isName_c name _) ?_
    rintro e w2 ⟨rfl, hp⟩
    have h2 := h1.pu hp
    have hf2 : Fr (· = d.S) w w2 := hf1.trans (Fr.pu hp : Fr (· = d.S) _ _) (fun i hi _ => hi)
    refine ⟨_, rfl, Br.of (fun hn => ?_) (fun hn => ?_)⟩
    · have hn : ¬ isNm name := by simpa using hn
      exact ⟨by simp [enterC, hn]; rfl, h2, hf2⟩
    · have hn : isNm name := by simpa using hn
      have hu : ¬ u < 0 := by simpa using hu
      have hu4 : ¬ u ≥ 4 := by simpa using hu4
      refine ⟨some d.M, h2.cellM, ?_⟩
      have hl := h2.mp.look keysS u40 (zval29 w2) name true
      rcases FilesAt.get name h2.fl with ⟨hg1, hg2⟩ | ⟨s, b, hg1, hg2, hr, _⟩
      · rw [hg1] at hl
        refine ⟨⟨none, 0, 0⟩, false, w2, hl, ?_⟩
        exact ⟨by simp [enterC, hn, hu, hu4, hg2]; rfl, h2, hf2⟩
      · rw [hg1] at hl
        refine ⟨s, true, w2, hl, ?_⟩
        exact ⟨by simp [enterC, hn, hu, hu4, hg2]; rfl, h2, hf2⟩
theorem leave_c {w : World} {d : Lay} {σ : Sys} (h : SysAt w d 1 σ) {K : World -> Prop} (hK : ∀ w', SysAt w' d 0 σ -> Fr (· = d.S) w w' -> w'.heap.size = w.heap.size -> K w') : runD Tryz.prog [leaveD d] w K := by
  show dcall Tryz.prog (leaveD d) w _
  show CallsD Tryz.prog 47 #[.pointer (some ⟨d.S, 0, none⟩)] .returning w _
  refine CallsD.mono (muUnlock (by rw [h.cellS]; rfl) (frozen_blk h.st 0) .returning) ?_
  rintro e u' w' ⟨rfl, rfl, rfl⟩
  exact ⟨⟨_, rfl⟩, rfl, hK _ (h.setMu 0) (Fr.setCell w ⟨d.S, 0, none⟩ _) (by simp)⟩
end Go.Proofs.YtnigfiljenfgjaaGreat

/- The disk: a new system, making a file, cloning bytes, the bytes on the disk. -/
set_option maxRecDepth 100000
set_option linter.unusedVariables false
set_option linter.unusedSimpArgs false
namespace Go.Proofs.YtnigfiljenfgjaaGreat
open Go.Sh Go.RowKit
def Sys.new : Sys := ⟨[], fun _ => [], []⟩
def newArr (n k : Nat) : Array Value := #[.int .i32 0, .int .u32 0, .map (some n), .map (if 0 < k then some (n + 2) else none), .map (if 1 < k then some (n + 3) else none), .map (if 2 < k then some (n + 4) else none), .map (if 3 < k then some (n + 5) else none), .slice none 0 0]
def newLay (n : Nat) : Lay := ⟨n + 1, n, fun u => n + 2 + u, ⟨none, 0, 0⟩, []⟩
theorem new_c (w : World) : Calls Tryz.prog 9 #[] w fun e w' => e = .returned (newLay w.heap.size).ptr /\ SysAt w' (newLay w.heap.size) 0 Sys.new /\ Pu w w' := by
  refine F9_calls w _ ?_
  refine alE_intro fun w1 hw1 => ?_
  refine alE_intro fun w2 hw2 => ?_
  have hs1 : w1.heap.size = w.heap.size + 1 := by rw [hw1]; simp
  have hs2 : w2.heap.size = w.heap.size + 2 := by rw [hw2]; simp [hs1]
  have hp1 : Pu w w1 := by rw [hw1]; exact Pu.alloc w _
  have hp2 : Pu w1 w2 := by rw [hw2]; exact Pu.alloc w1 _
  have hm : MapAt w1 ekS evS w.heap.size [] := by rw [hw1]; exact MapAt.new w ekS evS
  refine loopUp 4 (fun k t w' => t = (k : Int) /\ w'.heap.size = w.heap.size + 2 + k /\ w'.heap[w.heap.size + 1]? = some (.cells (newArr w.heap.size k) 67) /\ MapAt w' ekS evS w.heap.size [] /\
    (∀ j, j < k -> MapAt w' ekP evP (w.heap.size + 2 + j) []) /\ Pu w w') ⟨rfl, hs2, ?_, ?_, fun j hj => by omega, hp1.trans hp2⟩ ?_
  · rw [hw2, ← hs1]; exact alloc_new w1 _
  · exact hm.pu hp2
  rintro k J t w' hk ⟨rfl, hsz, hS, hM, hC, hp⟩ hJ
  refine Br.of (fun hlt => ?_) (fun hge => ?_)
  · have hlt' : k < 4 := by have := dtrue hlt; omega
    refine alE_intro fun w3 hw3 => ?_
    have hs3 : w3.heap.size = w'.heap.size + 1 := by rw [hw3]; simp
    have hp3 : Pu w' w3 := by rw [hw3]; exact Pu.alloc w' _
    have hS3 : w3.heap[w1.heap.size]? = some (.cells (newArr w.heap.size k) 67) := by rw [hs1]; exact hp3.blk hS
    refine ⟨by omega, by omega, ?_⟩
    rw [add_def, add_def]
    refine st1_intro hS3 (by simp [newArr]; omega) fun w4 hw4 hb4 => ?_
    have hf4 : Fr (· = w1.heap.size) w3 w4 := by rw [hw4]; exact Fr.cell w3 _ _ _
    rw [wrap_in (by omega) (by omega)]
    refine hJ _ _ hlt' ⟨by omega, by rw [hw4]; simp; omega, ?_, ?_, fun j hj => ?_, ?_⟩
    · rw [hs1] at hb4; rw [hb4, hsz]
      rcases (by omega : k = 0 ∨ k = 1 ∨ k = 2 ∨ k = 3) with rfl | rfl | rfl | rfl <;> rfl
    · exact (hM.pu hp3).fr hf4 (by omega)
    · by_cases e : j = k
      · subst e
        have := (MapAt.new w' ekP evP)
        rw [← hw3] at this
        have := this.fr hf4 (by omega)
        rw [hsz] at this; exact this
      · exact ((hC j (by omega)).pu hp3).fr hf4 (by omega)
    · exact (hp.trans hp3).andNew hf4 fun i hi => by omega
  · have hk4 : k = 4 := by have := dfalse hge; omega
    subst hk4
    refine ⟨by rw [hs1]; rfl, ⟨hS, hM, trivial, fun u hu => hC u hu, RowAt.nil _ _ _, ?_⟩, hp⟩
    simp [newLay, Lay.own, blkOf]
    omega
theorem AL.put_split {κ ν : Type} [DecidableEq κ] {l : List (κ × ν)} {k : κ} {v : ν} (h : AL.get l k = some v) : ∃ l1 l2, l = l1 ++ (k, v) :: l2 /\ ∀ v', AL.put l k v' = l1 ++ (k, v') :: l2 := by
  induction l with
  | nil => simp [AL.get] at h
  | cons p l ih =>
    obtain ⟨a, b⟩ := p
    simp only [AL.get] at h
    by_cases e : a = k
    · subst e
      simp at h; subst h
      exact ⟨[], l, rfl, fun v' => by simp [AL.put]⟩
    · simp only [if_neg e] at h
      obtain ⟨l1, l2, h1, h2⟩ := ih h
      exact ⟨(a, b) :: l1, l2, by rw [h1]; rfl, fun v' => by simp [AL.put, e, h2]⟩
theorem Lay.nodup_put {d : Lay} (h : d.own.Nodup) {k : ByteArray} {s' : SV} (hs : ∀ b ∈ blkOf s', b ∉ d.own) (hn : (blkOf s').Nodup) : ({ d with fs := AL.put d.fs k s' } : Lay).own.Nodup := by
  cases hg : AL.get d.fs k with
  | none =>
    rw [AL.put_new hg]
    simp only [Lay.own, List.flatMap_append, List.flatMap_cons, List.flatMap_nil, List.append_nil] at h ⊢
    rw [show d.S :: d.M :: d.c 0 :: d.c 1 :: d.c 2 :: d.c 3 :: (blkOf d.ls ++ ((d.fs.flatMap fun p => blkOf p.2) ++ blkOf s')) = (d.S :: d.M :: d.c 0 :: d.c 1 :: d.c 2 :: d.c 3 :: (blkOf d.ls ++ (d.fs.flatMap fun p => blkOf p.2))) ++ blkOf s' by simp]
    refine List.nodup_append.2 ⟨h, hn, fun a ha b hb e => hs b hb (by subst e; exact ha)⟩
  | some s =>
    obtain ⟨l1, l2, h1, h2⟩ := AL.put_split hg
    rw [h2]
    have hm : ∀ b, b ∈ (d.S :: d.M :: d.c 0 :: d.c 1 :: d.c 2 :: d.c 3 :: (blkOf d.ls ++ l1.flatMap fun p => blkOf p.2)) ++ l2.flatMap (fun p => blkOf p.2) -> b ∈ d.own := by
      intro b hb
      simp only [Lay.own, h1, List.flatMap_append, List.flatMap_cons, List.mem_append, List.mem_cons] at hb ⊢
      rcases hb with hb | hb
      · rcases hb with h | h | h | h | h | h | h | h <;> simp [h]
      · simp [hb]
    simp only [Lay.own, h1, List.flatMap_append, List.flatMap_cons] at h
    simp only [Lay.own, List.flatMap_append, List.flatMap_cons]
    rw [show d.S :: d.M :: d.c 0 :: d.c 1 :: d.c 2 :: d.c 3 :: (blkOf d.ls ++ ((l1.flatMap fun p => blkOf p.2) ++ (blkOf s ++ l2.flatMap fun p => blkOf p.2))) = (d.S :: d.M :: d.c 0 :: d.c 1 :: d.c 2 :: d.c 3 :: (blkOf d.ls ++ l1.flatMap fun p => blkOf p.2)) ++ (blkOf s ++ l2.flatMap fun p => blkOf p.2) by simp] at h
    rw [show d.S :: d.M :: d.c 0 :: d.c 1 :: d.c 2 :: d.c 3 :: (blkOf d.ls ++ ((l1.flatMap fun p => blkOf p.2) ++ (blkOf s' ++ l2.flatMap fun p => blkOf p.2))) = (d.S :: d.M :: d.c 0 :: d.c 1 :: d.c 2 :: d.c 3 :: (blkOf d.ls ++ l1.flatMap fun p => blkOf p.2)) ++ (blkOf s' ++ l2.flatMap fun p => blkOf p.2) by simp]
    obtain ⟨a1, a2, a3⟩ := List.nodup_append.1 h
    obtain ⟨b1, b2, b3⟩ := List.nodup_append.1 a2
    refine List.nodup_append.2 ⟨a1, List.nodup_append.2 ⟨hn, b2, fun a ha b hb e => hs a ha (hm a (by subst e; exact List.mem_append_right _ hb))⟩, fun a ha b hb e => ?_⟩
    rcases List.mem_append.1 hb with hb | hb
    · exact hs b hb (hm b (by subst e; exact List.mem_append_left _ ha))
    · exact a3 a ha b (List.mem_append_right _ hb) e
theorem Lay.own_put {d : Lay} {k : ByteArray} {s' : SV} : ∀ b ∈ ({ d with fs := AL.put d.fs k s' } : Lay).own, b ∈ d.own ∨ b ∈ blkOf s' := by
  intro b hb
  cases hg : AL.get d.fs k with
  | none =>
    rw [AL.put_new hg] at hb
    simp only [Lay.own, List.flatMap_append, List.flatMap_cons, List.flatMap_nil, List.append_nil, List.mem_append, List.mem_cons] at hb ⊢
    rcases hb with h | h | h | h | h | h | h | h | h <;> simp [h]
  | some s =>
    obtain ⟨l1, l2, h1, h2⟩ := AL.put_split hg
    rw [h2] at hb
    simp only [Lay.own, h1, List.flatMap_append, List.flatMap_cons, List.mem_append, List.mem_cons] at hb ⊢
    rcases hb with h | h | h | h | h | h | h | h | h | h <;> simp [h]
theorem SysAt.ne {w : World} {d : Lay} {mu : Int} {σ : Sys} (h : SysAt w d mu σ) : d.S ≠ d.M /\ (∀ u, u < 4 -> d.S ≠ d.c u /\ d.M ≠ d.c u) /\ (∀ u v, u < 4 -> v < 4 -> u ≠ v -> d.c u ≠ d.c v) /\
    (∀ k ∈ blkOf d.ls, k ≠ d.S /\ k ≠ d.M /\ (∀ u, u < 4 -> k ≠ d.c u) /\ ∀ p ∈ d.fs, k ∉ blkOf p.2) /\ (∀ p ∈ d.fs, ∀ k ∈ blkOf p.2, k ≠ d.S /\ k ≠ d.M /\ (∀ u, u < 4 -> k ≠ d.c u)) := by
  have hn := h.nd
  simp only [Lay.own, List.nodup_cons, List.mem_cons, List.mem_append, List.mem_flatMap, not_or, not_exists, not_and, List.nodup_append] at hn
  obtain ⟨⟨a1, a2, a3, a4, a5, a6, a7⟩, ⟨b1, b2, b3, b4, b5, b6⟩, ⟨c1, c2, c3, c4, c5⟩, ⟨d1, d2, d3, d4⟩, ⟨e1, e2, e3⟩, ⟨f1, f2⟩, g1, g2, g3⟩ := hn
  have four : ∀ (Q : Nat -> Prop), Q 0 -> Q 1 -> Q 2 -> Q 3 -> ∀ u, u < 4 -> Q u := fun Q q0 q1 q2 q3 u hu => by
    rcases (by omega : u = 0 ∨ u = 1 ∨ u = 2 ∨ u = 3) with rfl | rfl | rfl | rfl <;> assumption
  refine ⟨a1, four _ ⟨a2, b1⟩ ⟨a3, b2⟩ ⟨a4, b3⟩ ⟨a5, b4⟩, ?_, fun k hk => ⟨fun e => a6 (e ▸ hk), fun e => b5 (e ▸ hk), four _ (fun e => c4 (e ▸ hk)) (fun e => d3 (e ▸ hk)) (fun e => e2 (e ▸ hk)) (fun e => f1 (e ▸ hk)), fun p hp hk' => g3 k hk k ⟨p, hp, hk'⟩ rfl⟩,
    fun p hp k hk => ⟨fun e => a7 p hp (e ▸ hk), fun e => b6 p hp (e ▸ hk), four _ (fun e => c5 p hp (e ▸ hk)) (fun e => d4 p hp (e ▸ hk)) (fun e => e3 p hp (e ▸ hk)) (fun e => f2 p hp (e ▸ hk))⟩⟩
  intro u v hu hv huv
  rcases (by omega : u = 0 ∨ u = 1 ∨ u = 2 ∨ u = 3) with rfl | rfl | rfl | rfl <;> rcases (by omega : v = 0 ∨ v = 1 ∨ v = 2 ∨ v = 3) with rfl | rfl | rfl | rfl <;> first | exact absurd rfl huv | assumption | exact Ne.symm (by assumption)
theorem SysAt.setFile {w w' : World} {d : Lay} {mu : Int} {σ : Sys} (h : SysAt w d mu σ) {name : ByteArray} {s' : SV} {b' : List UInt8} (hm : MapAt w' ekS evS d.M (AL.put d.fs name s')) (hf : Fr (· = d.M) w w') (hr : RowAt w 5 1 s' (b'.map u8V))
    (hs : ∀ b ∈ blkOf s', b ∉ d.own) (hn : (blkOf s').Nodup) : SysAt w' { d with fs := AL.put d.fs name s' } mu { σ with files := AL.put σ.files name b' } := by
  obtain ⟨n1, n2, n3, n4, n5⟩ := h.ne
  have hr' : RowAt w' 5 1 s' (b'.map u8V) := hr.fr hf fun k hk e => hs k hk (by rw [show k = d.M from e]; simp [Lay.own])
  exact ⟨hf.blk h.st n1, hm, (h.fl.fr hf fun p hp k hk => (n5 p hp k hk).2.1).put name hr', fun u hu => (h.ca u hu).fr hf (fun e => (n2 u hu).2 e.symm), h.lk.fr hf fun k hk => (n4 k hk).2.1, Lay.nodup_put h.nd hs hn⟩
def makeC (name : ByteArray) (σ : Sys) : Int := if enterC 0 name σ = 0 then 5 else if enterC 0 name σ = 1 then 1 else if σ.files.length ≥ 8 then 3 else 0
def makeS (name : ByteArray) (σ : Sys) : Sys := if makeC name σ = 0 then { σ with files := AL.put σ.files name [] } else σ
theorem enterC_cases (u : Int) (name : ByteArray) (σ : Sys) : enterC u name σ = 0 ∨ enterC u name σ = 1 ∨ enterC u name σ = 4 := by
  unfold enterC; split
  · exact .inr (.inl rfl)
  · split
    · exact .inr (.inr rfl)
    · exact .inl rfl
structure Left (w w' : World) (d d' : Lay) (σ' : Sys) : Prop where
  sys : SysAt w' d' 0 σ'
  fr : Fr (· ∈ d.own) w w'
  own : ∀ b ∈ d'.own, b ∈ d.own ∨ w.heap.size <= b
  ptr : d'.S = d.S
theorem mem_S (d : Lay) : d.S ∈ d.own := by simp [Lay.own]
theorem mem_M (d : Lay) : d.M ∈ d.own := by simp [Lay.own]
theorem make_c {w : World} {d : Lay} {σ : Sys} (h : SysAt w d 0 σ) (name : ByteArray) :
    Calls Tryz.prog 16 #[d.ptr, .string name] w fun e w' => e = .returned (.int .i64 (makeC name σ)) /\ ∃ d', Left w w' d d' (makeS name σ) := by
  refine F16_calls _ name w _ ?_
  refine Calls.mono (enter_c h 0 name) ?_
  rintro e w1 ⟨rfl, h1, hf1⟩
  have hf1' : Fr (· ∈ d.own) w w1 := hf1.mono fun i hi _ => by rw [show i = d.S from hi]; exact mem_S d
  have done : ∀ (d' : Lay) (σ' : Sys) (w2 : World) (n : Int), d'.S = d.S -> SysAt w2 d' 1 σ' -> Fr (· ∈ d.own) w w2 -> (∀ b ∈ d'.own, b ∈ d.own ∨ w.heap.size <= b) -> n = makeC name σ -> σ' = makeS name σ ->
      runD Tryz.prog [leaveD d] w2 fun w' => Ending.returned (Value.int .i64 n) = Ending.returned (Value.int .i64 (makeC name σ)) /\ ∃ d', Left w w' d d' (makeS name σ) := by
    intro d' σ' w2 n hd h2 hf2 ho hn hσ
    have : leaveD d = leaveD d' := by simp [leaveD, Lay.ptr, hd]
    rw [this]
    refine leave_c h2 fun w' h' hf' _ => ⟨by rw [hn], d', by rw [← hσ]; exact h', hf2.trans hf' fun i hi _ => by rw [show i = d'.S from hi, hd]; exact mem_S d, ho, hd⟩
  refine ⟨_, _, rfl, Br.of (fun he => ?_) (fun he => Br.of (fun he1 => ?_) (fun he1 => ?_))⟩
  · have he : enterC 0 name σ = 0 := by simpa using he
    exact done d σ w1 5 rfl h1 hf1' (fun b hb => .inl hb) (by simp [makeC, he]) (by simp [makeS, makeC, he])
  · have he : ¬ enterC 0 name σ = 0 := by simpa using he
    have he1 : ¬ enterC 0 name σ = 4 := by simpa using he1
    have he2 : enterC 0 name σ = 1 := by rcases enterC_cases 0 name σ with h | h | h <;> simp_all
    exact done d σ w1 _ rfl h1 hf1' (fun b hb => .inl hb) (by simp [makeC, he2]) (by simp [makeS, makeC, he2])
  · have he1 : enterC 0 name σ = 4 := by simpa using he1
    refine ⟨some d.M, h1.cellM, _, w1, h1.mp.len (t := 55) (kt := 9) (e := 36) rfl u40, ?_⟩
    rw [h1.fl.length]
    refine Br.of (fun hl => ?_) (fun hl => ?_)
    · have hl : σ.files.length ≥ 8 := by have := dtrue hl; omega
      exact done d σ w1 3 rfl h1 hf1' (fun b hb => .inl hb) (by simp [makeC, he1, hl]) (by simp [makeS, makeC, he1, hl])
    · have hl : ¬ σ.files.length ≥ 8 := by have := dfalse hl; omega
      obtain ⟨w2, hr, hm, hf2, _⟩ := h1.mp.upd keysS u40 name ⟨none, 0, 0⟩
      refine ⟨some d.M, h1.cellM, w2, hr, ?_⟩
      have hs2 := h1.setFile (b' := []) hm hf2 (RowAt.nil _ _ _) (by simp [blkOf]) (by simp [blkOf])
      refine done { d with fs := AL.put d.fs name ⟨none, 0, 0⟩ } _ w2 0 rfl hs2 (hf1'.trans hf2 fun i hi _ => by rw [show i = d.M from hi]; exact mem_M d) (fun b hb => ?_) (by simp [makeC, he1, hl]) (by simp [makeS, makeC, he1, hl])
      rcases Lay.own_put b hb with h | h
      · exact .inl h
      · simp [blkOf] at h
end Go.Proofs.YtnigfiljenfgjaaGreat

/- The disk: fetching a page. -/
set_option maxRecDepth 100000
set_option linter.unusedVariables false
set_option linter.unusedSimpArgs false
namespace Go.Proofs.YtnigfiljenfgjaaGreat
open Go.Sh Go.RowKit
theorem Page.ext' {p q : Page} (hb : ∀ j, p.b j = q.b j) (hk : ∀ j, p.kn j = q.kn j) (hd : ∀ j, p.di j = q.di j) : p = q := by
  cases p; cases q; simp only [Page.mk.injEq]; exact ⟨funext hb, funext hk, funext hd⟩
def fetchP (f : List UInt8) (kk m : Nat) (p : Page) : Page where
  b := fun j => if j < m /\ kk * 32 + j < f.length /\ p.kn j = false then f.getD (kk * 32 + j) 0 else p.b j
  kn := fun j => p.kn j || decide (j < m /\ kk * 32 + j < f.length)
  di := p.di
theorem fetchP_zero (f : List UInt8) (kk : Nat) (p : Page) : fetchP f kk 0 p = p := Page.ext' (fun j => by simp [fetchP]) (fun j => by simp [fetchP]) (fun j => rfl)
theorem fetchP_step (f : List UInt8) (kk m : Nat) (p : Page) {x : UInt8} (hx : f[kk * 32 + m]? = some x) (hk : p.kn m = false) :
    ({ (fetchP f kk m p) with b := upN (fetchP f kk m p).b m x, kn := upN (fetchP f kk m p).kn m true } : Page) = fetchP f kk (m + 1) p := by
  have hl := (List.getElem?_eq_some_iff.1 hx).1
  refine Page.ext' (fun j => ?_) (fun j => ?_) (fun j => rfl)
  · simp only [upN, fetchP]
    by_cases e : j = m
    · subst e; simp [hl, hk, hx, (List.getElem?_eq_some_iff.1 hx).2]
    · have : j < m + 1 ↔ j < m := by omega
      simp [e, this]
  · simp only [upN, fetchP]
    by_cases e : j = m
    · subst e; simp [hl]
    · have : j < m + 1 ↔ j < m := by omega
      simp [e, this]
theorem fetchP_skip (f : List UInt8) (kk m : Nat) (p : Page) (hk : p.kn m = true ∨ ¬ kk * 32 + m < f.length) : fetchP f kk m p = fetchP f kk (m + 1) p := by
  refine Page.ext' (fun j => ?_) (fun j => ?_) (fun j => rfl)
  · simp only [fetchP]
    by_cases e : j = m
    · subst e; rcases hk with h | h <;> simp [h]
    · have : j < m + 1 ↔ j < m := by omega
      simp [this]
  · simp only [fetchP]
    by_cases e : j = m
    · subst e; rcases hk with h | h <;> simp [h]
    · have : j < m + 1 ↔ j < m := by omega
      simp [this]
theorem fetchP_end (f : List UInt8) (kk m : Nat) (p : Page) (hm : ¬ kk * 32 + m < f.length) (hm2 : m <= 32) : fetchP f kk m p = fetchP f kk 32 p := by
  have key : ∀ n, m + n <= 32 -> fetchP f kk m p = fetchP f kk (m + n) p := by
    intro n
    induction n with
    | zero => intro _; rfl
    | succ n ih => intro h; rw [ih (by omega), ← Nat.add_assoc]; exact fetchP_skip f kk (m + n) p (.inr (by omega))
  rw [key (32 - m) (by omega)]
  congr 1; omega
theorem fetchP_kn (f : List UInt8) (kk m : Nat) (p : Page) : (fetchP f kk m p).kn m = p.kn m := by simp [fetchP]
def pageOf (σ : Sys) (u : Nat) (p : Place) : Page := (AL.get (σ.caches u) p).getD Page.zero
theorem size61 : sizeB Tryz.prog 89 = 96 := by kernel_rfl
theorem size66 : sizeB Tryz.prog 92 = 2 := by kernel_rfl
theorem look_page {w : World} {d : Lay} {mu : Int} {σ : Sys} (h : SysAt w d mu σ) {u : Nat} (hu : u < 4) (p : Place) : (Instr.lookup 63 (.map (some (d.c u))) (ekP p) false).run Tryz.prog w = .ok (evP (pageOf σ u p)) w := by
  have := (h.ca u hu).look keysP u48 (zval61 w) p false
  rw [this]
  unfold pageOf
  cases AL.get (σ.caches u) p <;> rfl
theorem look_page_ok {w : World} {d : Lay} {mu : Int} {σ : Sys} (h : SysAt w d mu σ) {u : Nat} (hu : u < 4) (p : Place) : (Instr.lookup 63 (.map (some (d.c u))) (ekP p) true).run Tryz.prog w = .ok (.tuple #[evP (pageOf σ u p), .bool (AL.get (σ.caches u) p).isSome]) w := by
  have := (h.ca u hu).look keysP u48 (zval61 w) p true
  rw [this]
  unfold pageOf
  cases AL.get (σ.caches u) p <;> rfl
theorem look_file {w : World} {d : Lay} {mu : Int} {σ : Sys} (h : SysAt w d mu σ) {name : ByteArray} {f : List UInt8} (hf : AL.get σ.files name = some f) :
    ∃ s, (Instr.lookup 55 (.map (some d.M)) (.string name) false).run Tryz.prog w = .ok (.slice s.a s.len s.cap) w /\ RowAt w 5 1 s (f.map u8V) /\ AL.get d.fs name = some s /\ (name, s) ∈ d.fs /\ s.len = f.length := by
  rcases h.fl.get name with ⟨_, h2⟩ | ⟨s, b, h1, h2, h3, h4⟩
  · rw [hf] at h2; cases h2
  · rw [hf] at h2; cases h2
    have := h.mp.look keysS u40 (zval29 w) name false
    rw [h1] at this
    exact ⟨s, this, h3, h1, h4, u8V_map_len f h3⟩
theorem Lay.mem_file {d : Lay} {name : ByteArray} {s : SV} (h : (name, s) ∈ d.fs) : ∀ b ∈ blkOf s, b ∈ d.own := fun b hb => by
  simp only [Lay.own, List.mem_cons, List.mem_append, List.mem_flatMap]
  exact .inr (.inr (.inr (.inr (.inr (.inr (.inr ⟨_, h, hb⟩))))))
theorem cells_at {w : World} {b : Nat} {c : Array Value} {e : TypeId} (h : w.heap[b]? = some (.cells c e)) (n : Nat) : ∀ i, i < n -> w.cell? ((⟨b, 0, none⟩ : Addr).add i) = c[i]? := fun i _ => by rw [add_def, cell_blk h, Nat.zero_add]
theorem fetched_c {w : World} {d : Lay} {mu : Int} {σ : Sys} (h : SysAt w d mu σ) {u : Nat} (hu : u < 4) {name : ByteArray} {kk : Nat} (hkk : kk <= 1000000) {f : List UInt8} (hf : AL.get σ.files name = some f) (hfl : f.length <= 1000000) :
    Calls Tryz.prog 113 #[d.ptr, .int .i64 (u : Int), ekP (name, (kk : Int))] w fun e w' => e = .returned (evP (fetchP f kk 32 (pageOf σ u (name, (kk : Int))))) /\ Pu w w' := by
  refine F113_calls _ _ name (kk : Int) w _ ?_
  refine alE_intro fun w1 hw1 => alE_intro fun w2 hw2 => dwE_intro fun w3 hp3 hh3 => ?_
  have hp1 : Pu w w1 := by rw [hw1]; exact Pu.alloc w _
  have hp2 : Pu w1 w2 := by rw [hw2]; exact Pu.alloc w1 _
  have hb1 : w1.heap[w.heap.size]? = some (.cells #[.string name, .int .i64 (kk : Int)] 92) := by rw [hw1]; exact alloc_new w _
  have hs1 : w1.heap.size = w.heap.size + 1 := by rw [hw1]; simp
  have hb2 : w2.heap[w1.heap.size]? = some (.cells (zc Tryz.prog 89) 89) := by rw [hw2]; exact alloc_new w1 _
  have hs2 : w2.heap.size = w.heap.size + 2 := by rw [hw2]; simp [hs1]
  have hs3 : w3.heap.size = w.heap.size + 2 := by rw [hh3]; exact hs2
  have h3 : SysAt w3 d mu σ := h.pu ((hp1.trans hp2).trans hp3)
  have hb13 := hp3.blk (hp2.blk hb1)
  refine ⟨fun w' => SysAt w' d mu σ /\ w'.heap[w.heap.size]? = some (.cells #[.string name, .int .i64 (kk : Int)] 92), ⟨h3, hb13⟩, ?_⟩
  refine ⟨by omega, by omega, some (d.c u), fun w' h' => h'.1.cellC hu, name, fun w' h' => ?_, (kk : Int), fun w' h' => ?_, (pageOf σ u (name, (kk : Int))).cells, Page.size_cells _, fun w' h' => look_page h'.1 hu (name, (kk : Int)), ?_⟩
  · rw [add_def, cell_blk h'.2]; rfl
  · rw [add_def, cell_blk h'.2]; rfl
  refine alE_intro fun w4 hw4 => ?_
  have hp4 : Pu w3 w4 := by rw [hw4]; exact Pu.alloc w3 _
  have hs4 : w4.heap.size = w.heap.size + 3 := by rw [hw4]; simp [hs3]
  have hb4 : w4.heap[w3.heap.size]? = some (.cells (zc Tryz.prog 89) 89) := by rw [hw4]; exact alloc_new w3 _
  refine ⟨⟨h3.pu hp4, hp4.blk hb13⟩, ?_⟩
  refine stA_fill hb4 (by rw [Page.size_cells, size61]) (by rw [zero61, Page.size_cells, Page.size_cells]) (Page.one _) fun w5 hb5 hf5 hs5 => ?_
  refine dwE_intro fun w6 hp6 hh6 => ?_
  have hP6 : Pu w w6 := (((hp1.trans hp2).trans hp3).trans hp4).andNew (hf5.trans (Fr.pu hp6 : Fr (· = w3.heap.size) w5 w6) fun i hi _ => hi) fun i hi => by omega
  have h6 := h.pu hP6
  have hb16 : w6.heap[w.heap.size]? = some (.cells #[.string name, .int .i64 (kk : Int)] 92) := hp6.blk (hf5.blk (hp4.blk hb13) (by omega))
  have hb26 : w6.heap[w1.heap.size]? = some (.cells (zc Tryz.prog 89) 89) := hp6.blk (hf5.blk (hp4.blk (hp3.blk hb2)) (by omega))
  have hb36 := hp6.blk hb5
  obtain ⟨s, hl, hr, _, hmem, hsl⟩ := look_file h6 hf
  have hbo : ∀ b ∈ blkOf s, b < w.heap.size := fun b hb => h.lt b (Lay.mem_file hmem b hb)
  refine ⟨some d.M, h6.cellM, name, by rw [cell_blk hb16]; rfl, s, hl, ?_⟩
  have hs6 : w6.heap.size = w.heap.size + 3 := by rw [hh6, hs5, hs4]
  refine loopUp 32 (fun k t w' => t = (k : Int) /\ Fr (· = w3.heap.size) w6 w' /\ w'.heap.size = w6.heap.size /\ w'.heap[w3.heap.size]? = some (.cells (fetchP f kk k (pageOf σ u (name, (kk : Int)))).cells 89)) ⟨rfl, Fr.refl _ _, rfl, by rw [fetchP_zero]; exact hb36⟩ ?_
  rintro k J t w' hk ⟨rfl, hfr, hsz, hpg⟩ hJ
  have hrw : RowAt w' 5 1 s (f.map u8V) := hr.fr hfr fun b hb e => by have := hbo b hb; omega
  have hb1w : w'.heap[w.heap.size]? = some (.cells #[.string name, .int .i64 (kk : Int)] 92) := hfr.blk hb16 (by omega)
  have finish : ∀ m, m <= 32 -> fetchP f kk k (pageOf σ u (name, (kk : Int))) = fetchP f kk 32 (pageOf σ u (name, (kk : Int))) ->
      F113_1 (fun e w' => e = .returned (evP (fetchP f kk 32 (pageOf σ u (name, (kk : Int))))) /\ Pu w w') (some ⟨w1.heap.size, 0, none⟩) (some ⟨w3.heap.size, 0, none⟩) [] w' := fun m _ he => by
    have hb26w : w'.heap[w1.heap.size]? = some (.cells (zc Tryz.prog 89) 89) := hfr.blk hb26 (by omega)
    refine ⟨_, Page.size_cells _, cells_at hpg 96, ?_⟩
    refine stA_fill hb26w (by rw [Page.size_cells, size61]) (by rw [zero61, Page.size_cells, Page.size_cells]) (Page.one _) fun w9 hb9 hf9 hs9 => ?_
    refine ⟨_, Page.size_cells _, cells_at hb9 96, ?_, ?_⟩
    · rw [he]; rfl
    · exact (hP6.andNew hfr fun i hi => by omega).andNew hf9 fun i hi => by omega
  refine Br.of (fun hlt => ?_) (fun hge => ?_)
  · have hlt' : k < 32 := by have := dtrue hlt; omega
    refine ⟨(kk : Int), by rw [add_def, cell_blk hb1w]; rfl, ?_⟩
    rw [wrap_in (n := (kk : Int) * 32) (by omega) (by omega), wrap_in (n := (kk : Int) * 32 + (k : Int)) (by omega) (by omega), hsl]
    refine Br.of (fun hin => ?_) (fun hout => ?_)
    · have hin' : kk * 32 + k < f.length := by have := dtrue hin; omega
      refine ⟨by omega, by omega, _, by rw [add_def, add_def, cell_blk hpg]; simpa using Page.get_kn _ hlt', ?_⟩
      rw [fetchP_kn]
      refine Br.of (fun hkn => ?_) (fun hkn => ?_)
      · have hkn : (pageOf σ u (name, (kk : Int))).kn k = false := by simpa using hkn
        refine dwE_intro fun w7 hp7 hh7 => ?_
        obtain ⟨x, hx⟩ : ∃ x, f[kk * 32 + k]? = some x := ⟨_, List.getElem?_eq_getElem hin'⟩
        obtain ⟨a, ha, hca, hba⟩ := hrw.cell (j := kk * 32 + k) (v := u8V x) (by rw [List.getElem?_map, hx]; rfl)
        have hba' := hbo _ hba
        refine ⟨fun v => v.heap[w.heap.size]? = some (.cells #[.string name, .int .i64 (kk : Int)] 92) /\ v.cell? (a.add (kk * 32 + k)) = some (u8V x), ⟨hp7.blk hb1w, hp7.cell hca⟩, ?_⟩
        refine ⟨(kk : Int), fun v hv => by rw [add_def, cell_blk hv.1]; rfl, a, ha, ?_⟩
        rw [wrap_in (n := (kk : Int) * 32) (by omega) (by omega), wrap_in (n := (kk : Int) * 32 + (k : Int)) (by omega) (by omega)]
        refine ⟨by omega, by omega, _, fun v hv => by rw [show ((kk : Int) * 32 + (k : Int)).toNat * 1 = kk * 32 + k by omega]; exact hv.2, by omega, by omega, ?_⟩
        rw [add_def, add_def, ptrE_some]
        refine st1_intro (hp7.blk hpg) (by rw [Page.size_cells]; omega) fun w8 hw8 hb8 => ?_
        have hf8 : Fr (· = w3.heap.size) w7 w8 := by rw [hw8]; exact Fr.cell w7 _ _ _
        refine ⟨⟨hf8.blk (hp7.blk hb1w) (by omega), ?_⟩, by omega, by omega, ?_⟩
        · have : (a.add (kk * 32 + k)).block = a.block := by unfold Addr.add; split <;> rfl
          rw [World.cell?_of_block (hf8.block _ (by rw [this]; exact Nat.lt_of_lt_of_le hba' (by rw [hh7, hsz, hs6]; omega)) (by rw [this]; omega))]
          exact hp7.cell hca
        rw [add_def]
        refine st1_intro hb8 (by simp [Page.size_cells]; omega) fun w9 hw9 hb9 => ?_
        have hf9 : Fr (· = w3.heap.size) w8 w9 := by rw [hw9]; exact Fr.cell w8 _ _ _
        rw [wrap_in (by omega) (by omega)]
        refine hJ _ _ hlt' ⟨by omega, ((hfr.trans (Fr.pu hp7 : Fr (· = w3.heap.size) w' w7) fun i hi _ => hi).trans hf8 fun i hi _ => hi).trans hf9 fun i hi _ => hi, by rw [hw9, hw8]; simp; rw [hh7, hsz], ?_⟩
        rw [hb9]
        have e1 : 0 + 32 + (k : Int).toNat * 1 = 32 + k := by omega
        have e2 : 0 + (k : Int).toNat * 1 = k := by omega
        rw [e1, e2, Page.set_kn _ hlt']
        have := Page.set_b ({ (fetchP f kk k (pageOf σ u (name, (kk : Int)))) with kn := upN (fetchP f kk k (pageOf σ u (name, (kk : Int)))).kn k true } : Page) hlt' x
        rw [show Value.int .u8 ((x.toNat : Nat) : Int) = u8V x from rfl, this, ← fetchP_step f kk k _ hx hkn]
      · have hkn : (pageOf σ u (name, (kk : Int))).kn k = true := by simpa using hkn
        rw [wrap_in (by omega) (by omega)]
        exact hJ _ _ hlt' ⟨by omega, hfr, hsz, by rw [hpg, fetchP_skip _ _ _ _ (.inl hkn)]⟩
    · exact finish k (by omega) (fetchP_end _ _ _ _ (by have := dfalse hout; omega) (by omega))
  · have : k = 32 := by have := dfalse hge; omega
    subst this
    exact finish 32 (by omega) rfl
end Go.Proofs.YtnigfiljenfgjaaGreat

/- The disk: a page that is read or written. -/
set_option maxRecDepth 100000
set_option linter.unusedVariables false
set_option linter.unusedSimpArgs false
namespace Go.Proofs.YtnigfiljenfgjaaGreat
open Go.Sh Go.RowKit
def wantP (at_ n : Nat) (f : List UInt8) (kk m : Nat) (p : Page) : Page where
  b := fun j => if j < m /\ (at_ <= kk * 32 + j /\ kk * 32 + j < at_ + n) /\ kk * 32 + j < f.length /\ p.kn j = false then f.getD (kk * 32 + j) 0 else p.b j
  kn := fun j => p.kn j || decide (j < m /\ (at_ <= kk * 32 + j /\ kk * 32 + j < at_ + n) /\ kk * 32 + j < f.length)
  di := p.di
theorem wantP_zero (at_ n : Nat) (f : List UInt8) (kk : Nat) (p : Page) : wantP at_ n f kk 0 p = p := Page.ext' (fun j => by simp [wantP]) (fun j => by simp [wantP]) (fun j => rfl)
theorem wantP_step (at_ n : Nat) (f : List UInt8) (kk m : Nat) (p : Page) {x : UInt8} (hw : at_ <= kk * 32 + m /\ kk * 32 + m < at_ + n) (hx : f[kk * 32 + m]? = some x) (hk : p.kn m = false) :
    ({ (wantP at_ n f kk m p) with b := upN (wantP at_ n f kk m p).b m x, kn := upN (wantP at_ n f kk m p).kn m true } : Page) = wantP at_ n f kk (m + 1) p := by
  have hl := (List.getElem?_eq_some_iff.1 hx).1
  refine Page.ext' (fun j => ?_) (fun j => ?_) (fun j => rfl)
  · simp only [upN, wantP]
    by_cases e : j = m
    · subst e; simp [hl, hk, hx, hw, (List.getElem?_eq_some_iff.1 hx).2]
    · have : j < m + 1 ↔ j < m := by omega
      simp [e, this]
  · simp only [upN, wantP]
    by_cases e : j = m
    · subst e; simp [hl, hw]
    · have : j < m + 1 ↔ j < m := by omega
      simp [e, this]
theorem wantP_skip (at_ n : Nat) (f : List UInt8) (kk m : Nat) (p : Page) (hk : p.kn m = true ∨ ¬ kk * 32 + m < f.length ∨ ¬ (at_ <= kk * 32 + m /\ kk * 32 + m < at_ + n)) : wantP at_ n f kk m p = wantP at_ n f kk (m + 1) p := by
  refine Page.ext' (fun j => ?_) (fun j => ?_) (fun j => rfl)
  · simp only [wantP]
    by_cases e : j = m
    · subst e; rcases hk with h | h | h
      · simp [h]
      · simp [h]
      · have : ¬ (j < j + 1 /\ (at_ <= kk * 32 + j /\ kk * 32 + j < at_ + n) /\ kk * 32 + j < f.length /\ p.kn j = false) := fun h' => h h'.2.1
        simp only [this, if_false]
        simp
    · have : j < m + 1 ↔ j < m := by omega
      simp [this]
  · simp only [wantP]
    by_cases e : j = m
    · subst e; rcases hk with h | h | h
      · simp [h]
      · simp [h]
      · have : ¬ (j < j + 1 /\ (at_ <= kk * 32 + j /\ kk * 32 + j < at_ + n) /\ kk * 32 + j < f.length) := fun h' => h h'.2.1
        simp only [this, decide_false]
        simp
    · have : j < m + 1 ↔ j < m := by omega
      simp [this]
theorem wantP_kn (at_ n : Nat) (f : List UInt8) (kk m : Nat) (p : Page) : (wantP at_ n f kk m p).kn m = p.kn m := by simp [wantP]
def pageR (σ : Sys) (u : Nat) (name : ByteArray) (kk at_ n : Nat) (f : List UInt8) : Page :=
  match AL.get (σ.caches u) (name, (kk : Int)) with
  | none => fetchP f kk 32 Page.zero
  | some p => wantP at_ n f kk 32 p
theorem page_c {w : World} {d : Lay} {mu : Int} {σ : Sys} (h : SysAt w d mu σ) {u : Nat} (hu : u < 4) {name : ByteArray} {kk at_ n : Nat} (hkk : kk <= 1000000) (hat : at_ <= 1000000) (hn : n <= 1000000) {f : List UInt8} (hf : AL.get σ.files name = some f) (hfl : f.length <= 1000000) :
    Calls Tryz.prog 95 #[d.ptr, .int .i64 (u : Int), ekP (name, (kk : Int)), .int .i64 (at_ : Int), .int .i64 (n : Int)] w fun e w' => e = .returned (evP (pageR σ u name kk at_ n f)) /\ Pu w w' := by
  refine F95_calls _ _ name (kk : Int) _ _ w _ ?_
  refine alE_intro fun w1 hw1 => alE_intro fun w2 hw2 => dwE_intro fun w3 hp3 hh3 => ?_
  have hp1 : Pu w w1 := by rw [hw1]; exact Pu.alloc w _
  have hp2 : Pu w1 w2 := by rw [hw2]; exact Pu.alloc w1 _
  have hb1 : w1.heap[w.heap.size]? = some (.cells #[.string name, .int .i64 (kk : Int)] 92) := by rw [hw1]; exact alloc_new w _
  have hs1 : w1.heap.size = w.heap.size + 1 := by rw [hw1]; simp
  have hb2 : w2.heap[w1.heap.size]? = some (.cells (zc Tryz.prog 89) 89) := by rw [hw2]; exact alloc_new w1 _
  have hs2 : w2.heap.size = w.heap.size + 2 := by rw [hw2]; simp [hs1]
  have hs3 : w3.heap.size = w.heap.size + 2 := by rw [hh3]; exact hs2
  have h3 : SysAt w3 d mu σ := h.pu ((hp1.trans hp2).trans hp3)
  have hb13 := hp3.blk (hp2.blk hb1)
  refine ⟨fun w' => SysAt w' d mu σ /\ w'.heap[w.heap.size]? = some (.cells #[.string name, .int .i64 (kk : Int)] 92), ⟨h3, hb13⟩, ?_⟩
  refine ⟨by omega, by omega, some (d.c u), fun w' h' => h'.1.cellC hu, name, fun w' h' => ?_, (kk : Int), fun w' h' => ?_, (pageOf σ u (name, (kk : Int))).cells, Page.size_cells _, _, fun w' h' => look_page_ok h'.1 hu (name, (kk : Int)), ?_⟩
  · rw [add_def, cell_blk h'.2]; rfl
  · rw [add_def, cell_blk h'.2]; rfl
  refine alE_intro fun w4 hw4 => ?_
  have hp4 : Pu w3 w4 := by rw [hw4]; exact Pu.alloc w3 _
  have hs4 : w4.heap.size = w.heap.size + 3 := by rw [hw4]; simp [hs3]
  have hb4 : w4.heap[w3.heap.size]? = some (.cells (zc Tryz.prog 89) 89) := by rw [hw4]; exact alloc_new w3 _
  refine ⟨⟨h3.pu hp4, hp4.blk hb13⟩, ?_⟩
  refine stA_fill hb4 (by rw [Page.size_cells, size61]) (by rw [zero61, Page.size_cells, Page.size_cells]) (Page.one _) fun w5 hb5 hf5 hs5 => ?_
  have hP5 : Pu w w5 := (((hp1.trans hp2).trans hp3).trans hp4).andNew hf5 fun i hi => by omega
  have hb15 : w5.heap[w.heap.size]? = some (.cells #[.string name, .int .i64 (kk : Int)] 92) := hf5.blk (hp4.blk hb13) (by omega)
  have hb25 : w5.heap[w1.heap.size]? = some (.cells (zc Tryz.prog 89) 89) := hf5.blk (hp4.blk (hp3.blk hb2)) (by omega)
  refine Br.of (fun hin => ?_) (fun hin => ?_)
  · have hno : AL.get (σ.caches u) (name, (kk : Int)) = none := by
      cases hg : AL.get (σ.caches u) (name, (kk : Int)) with
      | none => rfl
      | some p => rw [hg] at hin; cases hin
    refine ⟨name, by rw [add_def, cell_blk hb15]; rfl, (kk : Int), by rw [add_def, cell_blk hb15]; rfl, ?_⟩
    refine Calls.mono (fetched_c (h.pu hP5) hu hkk hf hfl) ?_
    rintro e w6 ⟨rfl, hp6⟩
    refine ⟨_, Page.size_cells _, rfl, ?_⟩
    refine stA_fill (hp6.blk hb25) (by rw [Page.size_cells, size61]) (by rw [zero61, Page.size_cells, Page.size_cells]) (Page.one _) fun w9 hb9 hf9 hs9 => ?_
    refine ⟨_, Page.size_cells _, cells_at hb9 96, ?_, (hP5.trans hp6).andNew hf9 fun i hi => by omega⟩
    simp only [pageR, pageOf, hno]; rfl
  · obtain ⟨p, hp⟩ : ∃ p, AL.get (σ.caches u) (name, (kk : Int)) = some p := by
      cases hg : AL.get (σ.caches u) (name, (kk : Int)) with
      | none => rw [hg] at hin; cases hin
      | some p => exact ⟨p, rfl⟩
    have hpo : pageOf σ u (name, (kk : Int)) = p := by simp [pageOf, hp]
    have hR : pageR σ u name kk at_ n f = wantP at_ n f kk 32 p := by simp [pageR, hp]
    rw [hpo] at hb5
    rw [hR]
    refine dwE_intro fun w6 hp6 hh6 => ?_
    have hP6 := hP5.trans hp6
    have h6 := h.pu hP6
    have hb16 := hp6.blk hb15
    have hb26 := hp6.blk hb25
    have hb36 := hp6.blk hb5
    obtain ⟨s, hl, hr, _, hmem, hsl⟩ := look_file h6 hf
    have hbo : ∀ b ∈ blkOf s, b < w.heap.size := fun b hb => h.lt b (Lay.mem_file hmem b hb)
    refine ⟨some d.M, h6.cellM, name, by rw [cell_blk hb16]; rfl, s, hl, ?_⟩
    have hs6 : w6.heap.size = w.heap.size + 3 := by rw [hh6, hs5, hs4]
    refine loopUp 32 (fun k t w' => t = (k : Int) /\ Fr (· = w3.heap.size) w6 w' /\ w'.heap.size = w6.heap.size /\ w'.heap[w3.heap.size]? = some (.cells (wantP at_ n f kk k p).cells 89)) ⟨rfl, Fr.refl _ _, rfl, by rw [wantP_zero]; exact hb36⟩ ?_
    rintro k J t w' hk ⟨rfl, hfr, hsz, hpg⟩ hJ
    have hrw : RowAt w' 5 1 s (f.map u8V) := hr.fr hfr fun b hb e => by have := hbo b hb; omega
    have hb1w : w'.heap[w.heap.size]? = some (.cells #[.string name, .int .i64 (kk : Int)] 92) := hfr.blk hb16 (by omega)
    refine Br.of (fun hlt => ?_) (fun hge => ?_)
    · have hlt' : k < 32 := by have := dtrue hlt; omega
      have skip : (p.kn k = true ∨ ¬ kk * 32 + k < f.length ∨ ¬ (at_ <= kk * 32 + k /\ kk * 32 + k < at_ + n)) -> J (IntKind.i64.wrap ((k : Int) + 1)) w' := fun hsk => by
        rw [wrap_in (by omega) (by omega)]
        exact hJ _ _ hlt' ⟨by omega, hfr, hsz, by rw [hpg, wantP_skip _ _ _ _ _ _ hsk]⟩
      refine ⟨(kk : Int), by rw [add_def, cell_blk hb1w]; rfl, ?_⟩
      rw [wrap_in (n := (kk : Int) * 32) (by omega) (by omega), wrap_in (n := (kk : Int) * 32 + (k : Int)) (by omega) (by omega), wrap_in (n := (at_ : Int) + (n : Int)) (by omega) (by omega), hsl]
      refine Br.of (fun c1 => Br.of (fun c2 => Br.of (fun c3 => ?_) (fun c3 => ?_)) (fun c2 => ?_)) (fun c1 => ?_)
      · have c1 := dtrue c1
        have c2 := dtrue c2
        have c3 := dtrue c3
        have hin' : kk * 32 + k < f.length := by omega
        refine ⟨by omega, by omega, _, by rw [add_def, add_def, cell_blk hpg]; simpa using Page.get_kn _ hlt', ?_⟩
        rw [wantP_kn]
        refine Br.of (fun hkn => ?_) (fun hkn => skip (.inl (by simpa using hkn)))
        have hkn : p.kn k = false := by simpa using hkn
        refine dwE_intro fun w7 hp7 hh7 => ?_
        obtain ⟨x, hx⟩ : ∃ x, f[kk * 32 + k]? = some x := ⟨_, List.getElem?_eq_getElem hin'⟩
        obtain ⟨a, ha, hca, hba⟩ := hrw.cell (j := kk * 32 + k) (v := u8V x) (by rw [List.getElem?_map, hx]; rfl)
        have hba' := hbo _ hba
        refine ⟨fun v => v.cell? (a.add (kk * 32 + k)) = some (u8V x), hp7.cell hca, ?_⟩
        refine ⟨a, ha, by omega, by omega, _, fun v hv => by rw [show ((kk : Int) * 32 + (k : Int)).toNat * 1 = kk * 32 + k by omega]; exact hv, by omega, by omega, ?_⟩
        rw [add_def, add_def, ptrE_some]
        refine st1_intro (hp7.blk hpg) (by rw [Page.size_cells]; omega) fun w8 hw8 hb8 => ?_
        have hf8 : Fr (· = w3.heap.size) w7 w8 := by rw [hw8]; exact Fr.cell w7 _ _ _
        refine ⟨?_, by omega, by omega, ?_⟩
        · have : (a.add (kk * 32 + k)).block = a.block := by unfold Addr.add; split <;> rfl
          show w8.cell? _ = _
          rw [World.cell?_of_block (hf8.block _ (by rw [this]; exact Nat.lt_of_lt_of_le hba' (by rw [hh7, hsz, hs6]; omega)) (by rw [this]; omega))]
          exact hp7.cell hca
        rw [add_def]
        refine st1_intro hb8 (by simp [Page.size_cells]; omega) fun w9 hw9 hb9 => ?_
        have hf9 : Fr (· = w3.heap.size) w8 w9 := by rw [hw9]; exact Fr.cell w8 _ _ _
        show J _ _
        rw [wrap_in (by omega) (by omega)]
        refine hJ _ _ hlt' ⟨by omega, ((hfr.trans (Fr.pu hp7 : Fr (· = w3.heap.size) w' w7) fun i hi _ => hi).trans hf8 fun i hi _ => hi).trans hf9 fun i hi _ => hi, by rw [hw9, hw8]; simp; rw [hh7, hsz], ?_⟩
        rw [hb9]
        have e1 : 0 + 32 + (k : Int).toNat * 1 = 32 + k := by omega
        have e2 : 0 + (k : Int).toNat * 1 = k := by omega
        rw [e1, e2, Page.set_kn _ hlt']
        have := Page.set_b ({ (wantP at_ n f kk k p) with kn := upN (wantP at_ n f kk k p).kn k true } : Page) hlt' x
        rw [show Value.int .u8 ((x.toNat : Nat) : Int) = u8V x from rfl, this, ← wantP_step at_ n f kk k _ (by omega) hx hkn]
      · exact skip (.inr (.inl (by have := dfalse c3; omega)))
      · exact skip (.inr (.inr (by have := dfalse c2; omega)))
      · exact skip (.inr (.inr (by have := dfalse c1; omega)))
    · have : k = 32 := by have := dfalse hge; omega
      subst this
      have hb26w : w'.heap[w1.heap.size]? = some (.cells (zc Tryz.prog 89) 89) := hfr.blk hb26 (by omega)
      refine ⟨_, Page.size_cells _, cells_at hpg 96, ?_⟩
      refine stA_fill hb26w (by rw [Page.size_cells, size61]) (by rw [zero61, Page.size_cells, Page.size_cells]) (Page.one _) fun w9 hb9 hf9 hs9 => ?_
      exact ⟨_, Page.size_cells _, cells_at hb9 96, rfl, (hP6.andNew hfr fun i hi => by omega).andNew hf9 fun i hi => by omega⟩
end Go.Proofs.YtnigfiljenfgjaaGreat

/- The disk: going through bytes page by page. -/
set_option maxRecDepth 100000
set_option linter.unusedVariables false
set_option linter.unusedSimpArgs false
namespace Go.Proofs.YtnigfiljenfgjaaGreat
open Go.Sh Go.RowKit
def Sys.setCache (σ : Sys) (u : Nat) (l : List (Place × Page)) : Sys := { σ with caches := fun v => if v = u then l else σ.caches v }
theorem SysAt.setCache {w w' : World} {d : Lay} {mu : Int} {σ : Sys} (h : SysAt w d mu σ) {u : Nat} (hu : u < 4) {l : List (Place × Page)} (hm : MapAt w' ekP evP (d.c u) l) (hf : Fr (· = d.c u) w w') : SysAt w' d mu (σ.setCache u l) := by
  obtain ⟨n1, n2, n3, n4, n5⟩ := h.ne
  refine ⟨hf.blk h.st (n2 u hu).1, h.mp.fr hf (n2 u hu).2, h.fl.fr hf fun p hp k hk => (n5 p hp k hk).2.2 u hu, fun v hv => ?_, h.lk.fr hf fun k hk => (n4 k hk).2.2.1 u hu, h.nd⟩
  simp only [Sys.setCache]
  by_cases e : v = u
  · subst e; simpa using hm
  · simp only [if_neg e]; exact (h.ca v hv).fr hf (n3 v u hv hu e)
section
variable {τ : Type} (step : τ -> Page -> Nat -> Nat -> τ × Page)
def innerS (t : τ) (pg : Page) (i k : Nat) : Nat -> τ × Page
  | 0 => (t, pg)
  | m + 1 => step (innerS t pg i k m).1 (innerS t pg i k m).2 (i + m) (k + m)
def eachS (u : Nat) (name : ByteArray) (at_ n : Nat) (f : List UInt8) : Nat -> Sys -> τ -> Nat -> Sys × τ
  | 0, σ, t, _ => (σ, t)
  | fuel + 1, σ, t, k =>
    if k < n then
      let m := min (32 - (at_ + k) % 32) (n - k)
      let r := innerS step t (pageR σ u name ((at_ + k) / 32) at_ n f) ((at_ + k) % 32) k m
      eachS u name at_ n f fuel (σ.setCache u (AL.put (σ.caches u) (name, (((at_ + k) / 32 : Nat) : Int)) r.2)) r.1 (k + m)
    else (σ, t)
theorem eachS_end {u : Nat} {name : ByteArray} {at_ n : Nat} {f : List UInt8} {fuel : Nat} {σ : Sys} {t : τ} {k : Nat} (hk : ¬ k < n) : eachS step u name at_ n f fuel σ t k = (σ, t) := by
  cases fuel <;> simp [eachS, hk]
end
structure Does {τ : Type} (fn : FuncId) (first cap : Array Value) (n : Nat) (D : World -> τ -> Prop) (X Y : Nat -> Prop) (step : τ -> Page -> Nat -> Nat -> τ × Page) : Prop where
  body : hasBody Tryz.prog fn = true
  call : ∀ (w : World) (t : τ) (pg : Page) (r i k : Nat), D w t -> w.heap[r]? = some (.cells pg.cells 89) -> ¬ Y r -> i < 32 -> k < n ->
    Calls Tryz.prog fn (first.toList ++ (([.pointer (some ⟨r, 0, none⟩), .int .i64 (i : Int), .int .i64 (k : Int)] : List Value) ++ cap.toList)).toArray w fun e w' => e = .returned (.tuple #[]) /\ D w' (step t pg i k).1 /\ w'.heap[r]? = some (.cells (step t pg i k).2.cells 89) /\ Fr (fun b => b = r ∨ X b) w w'
  stays : ∀ {B : Nat -> Prop} {w w' t}, D w t -> Fr B w w' -> (∀ b, Y b -> b < w.heap.size -> ¬ B b) -> D w' t
  sub : ∀ b, X b -> Y b
theorem each_c {τ : Type} {fn : FuncId} {first cap : Array Value} {D : World -> τ -> Prop} {X Y : Nat -> Prop} {step : τ -> Page -> Nat -> Nat -> τ × Page} {n : Nat} (cl : Does fn first cap n D X Y step)
    {w : World} {d : Lay} {mu : Int} {σ : Sys} (h : SysAt w d mu σ) {u : Nat} (hu : u < 4) {name : ByteArray} {at_ : Nat} {f : List UInt8} (hf : AL.get σ.files name = some f) (hfl : f.length <= 1000000) (hat : at_ + n <= f.length)
    {t : τ} (hD : D w t) (hY : ∀ b, Y b -> b < w.heap.size) (hYo : ∀ b ∈ d.own, ¬ Y b) :
    Calls Tryz.prog 44 #[d.ptr, .int .i64 (u : Int), .string name, .int .i64 (at_ : Int), .int .i64 (n : Int), .func (.func fn) first cap] w fun e w' =>
      e = .returned (.tuple #[]) /\ SysAt w' d mu (eachS step u name at_ n f n σ t 0).1 /\ D w' (eachS step u name at_ n f n σ t 0).2 /\ Fr (fun b => b ∈ d.own ∨ X b) w w' := by
  refine F44_calls _ _ name _ _ _ w _ ?_
  refine loopDown n (fun m s w1 => ∃ (k fuel : Nat) (σ1 : Sys) (t1 : τ), s = (k : Int) /\ k <= n /\ m = n - k /\ n <= k + fuel /\ eachS step u name at_ n f fuel σ1 t1 k = eachS step u name at_ n f n σ t 0 /\ AL.get σ1.files name = some f /\
    SysAt w1 d mu σ1 /\ D w1 t1 /\ Fr (fun b => b ∈ d.own ∨ X b) w w1) ⟨0, n, σ, t, rfl, Nat.zero_le _, by omega, by omega, rfl, hf, h, hD, Fr.refl _ _⟩ ?_
  rintro m J s w1 ⟨k, fuel, σ1, t1, rfl, hk, rfl, hfu, heq, hf1, h1, hD1, hfr1⟩ hJ
  refine Br.of (fun hlt => ?_) (fun hge => ?_)
  · have hlt : k < n := by have := dtrue hlt; omega
    obtain ⟨fuel, rfl⟩ : ∃ g, fuel = g + 1 := ⟨fuel - 1, by omega⟩
    have hdiv : IntKind.i64.wrap ((IntKind.i64.wrap ((at_ : Int) + (k : Int))).tdiv 32) = (((at_ + k) / 32 : Nat) : Int) := by
      rw [wrap_in (n := (at_ : Int) + (k : Int)) (by omega) (by omega)]
      have : ((at_ : Int) + (k : Int)).tdiv 32 = (((at_ + k) / 32 : Nat) : Int) := by
        rw [Int.tdiv_eq_ediv_of_nonneg (by omega)]; omega
      rw [this]; exact wrap_in (by omega) (by omega)
    have hmod : (IntKind.i64.wrap ((at_ : Int) + (k : Int))).tmod 32 = (((at_ + k) % 32 : Nat) : Int) := by
      rw [wrap_in (n := (at_ : Int) + (k : Int)) (by omega) (by omega), Int.tmod_eq_emod_of_nonneg (by omega)]; omega
    have hq : (at_ + k) / 32 <= 1000000 := by omega
    generalize hqq : (at_ + k) / 32 = q at hdiv hq
    generalize hii : (at_ + k) % 32 = i0 at hmod
    have hi0 : i0 < 32 := by omega
    refine ⟨rfl, by decide, ?_⟩
    rw [hdiv, hmod]
    refine alE_intro fun w2 hw2 => ?_
    have hp2 : Pu w1 w2 := by rw [hw2]; exact Pu.alloc w1 _
    have hb2 : w2.heap[w1.heap.size]? = some (.cells #[.string ⟨#[]⟩, .int .i64 0] 92) := by rw [hw2]; exact alloc_new w1 _
    refine stA_fill hb2 (by rw [size66]; rfl) rfl rfl fun w3 hb3 hf3 hs3 => ?_
    have hP3 : Pu w1 w3 := hp2.andNew hf3 fun i hi => by omega
    have h3 := h1.pu hP3
    refine ⟨name, by rw [add_def, cell_blk hb3]; rfl, (q : Int), by rw [add_def, cell_blk hb3]; rfl, ?_⟩
    refine Calls.mono (page_c h3 hu hq (by omega) (by omega) hf1 hfl) ?_
    rintro e w4 ⟨rfl, hp4⟩
    refine ⟨_, Page.size_cells _, rfl, ?_⟩
    refine alE_intro fun w5 hw5 => ?_
    have hp5 : Pu w4 w5 := by rw [hw5]; exact Pu.alloc w4 _
    have hb5 : w5.heap[w4.heap.size]? = some (.cells (zc Tryz.prog 89) 89) := by rw [hw5]; exact alloc_new w4 _
    refine stA_fill hb5 (by rw [Page.size_cells, size61]) (by rw [zero61, Page.size_cells, Page.size_cells]) (Page.one _) fun w6 hb6 hf6 hs6 => ?_
    have hs2 : w2.heap.size = w1.heap.size + 1 := by rw [hw2]; simp
    have h14 : w1.heap.size + 1 <= w4.heap.size := by have := hp4.size; omega
    have hP6 : Pu w1 w6 := ((hP3.trans hp4).trans hp5).andNew hf6 fun i hi => by omega
    have h6 := h1.pu hP6
    have hb36 : w6.heap[w1.heap.size]? = some (.cells #[.string name, .int .i64 (q : Int)] 92) := hf6.blk (hp5.blk (hp4.blk hb3)) (by omega)
    have hw1 : w.heap.size <= w1.heap.size := hfr1.size
    have hD6 : D w6 t1 := cl.stays hD1 (Fr.pu hP6 : Fr (fun _ => False) w1 w6) fun _ _ _ h => h
    have hYr : ¬ Y w4.heap.size := fun hy => by have := hY _ hy; omega
    have hYr1 : ¬ Y w1.heap.size := fun hy => by have := hY _ hy; omega
    refine ⟨rfl, by decide, ?_⟩
    have hm := hJ
    -- the bytes of one page
    refine loopUp (min (32 - i0) (n - k)) (fun m s w7 => s = (((k + m : Nat) : Int), ((i0 + m : Nat) : Int)) /\ w7.heap[w4.heap.size]? = some (.cells (innerS step t1 (pageR σ1 u name q at_ n f) i0 k m).2.cells 89) /\
      D w7 (innerS step t1 (pageR σ1 u name q at_ n f) i0 k m).1 /\ Fr (fun b => b = w4.heap.size ∨ X b) w6 w7) ⟨rfl, hb6, hD6, Fr.refl _ _⟩ ?_
    rintro m J2 s w7 hm ⟨rfl, hb7, hD7, hf7⟩ hJ2
    have h7 : SysAt w7 d mu σ1 := h6.fr hf7 fun b hb hx => by
      rcases hx with hx | hx
      · have := h1.lt b hb; omega
      · exact hYo b hb (cl.sub b hx)
    have hb37 : w7.heap[w1.heap.size]? = some (.cells #[.string name, .int .i64 (q : Int)] 92) := hf7.blk hb36 fun hx => by
      rcases hx with hx | hx
      · omega
      · exact hYr1 (cl.sub _ hx)
    have finish : ¬ (i0 + m < 32 /\ k + m < n) -> F44_1 (fun e w' => e = .returned (.tuple #[]) /\ SysAt w' d mu (eachS step u name at_ n f n σ t 0).1 /\ D w' (eachS step u name at_ n f n σ t 0).2 /\ Fr (fun b => b ∈ d.own ∨ X b) w w') J
        (some ⟨d.S, 0, none⟩) (u : Int) name (at_ : Int) (n : Int) (.func (.func fn) first cap) ((k + m : Nat) : Int) (some ⟨w1.heap.size, 0, none⟩) (some ⟨w4.heap.size, 0, none⟩) [] w7 := fun hend => by
      have hmm : m = min (32 - i0) (n - k) := by omega
      refine dwE_intro fun w8 hp8 hh8 => ?_
      have h8 := h7.pu hp8
      refine ⟨by omega, by omega, some (d.c u), h8.cellC hu, name, by rw [add_def, cell_blk (hp8.blk hb37)]; rfl, (q : Int), by rw [add_def, cell_blk (hp8.blk hb37)]; rfl, _, Page.size_cells _, cells_at (hp8.blk hb7) 96, ?_⟩
      obtain ⟨w9, hr9, hm9, hf9, hs9⟩ := (h8.ca u hu).upd keysP u48 (name, (q : Int)) (innerS step t1 (pageR σ1 u name q at_ n f) i0 k m).2
      refine ⟨w9, hr9, ?_⟩
      have h9 := h8.setCache hu hm9 hf9
      refine hJ (n - (k + m)) _ _ (by omega) ⟨k + m, fuel, _, (innerS step t1 (pageR σ1 u name q at_ n f) i0 k m).1, rfl, by omega, rfl, by omega, ?_, ?_, h9, ?_, ?_⟩
      · rw [← heq, eachS]
        simp only [hlt, if_true, hqq, hii, ← hmm]
      · exact hf1
      · refine cl.stays (cl.stays hD7 (Fr.pu hp8 : Fr (fun _ => False) w7 w8) fun _ _ _ h => h) hf9 fun b hb _ e => hYo b (by rw [show b = d.c u from e]; exact d.mem_c hu) hb
      · refine (((hfr1.trans (Fr.pu hP6 : Fr (fun b => b ∈ d.own ∨ X b) w1 w6) fun i hi _ => hi).trans hf7 fun i hi hlt => ?_).trans (Fr.pu hp8 : Fr (fun b => b ∈ d.own ∨ X b) w7 w8) fun i hi _ => hi).trans hf9 fun i hi _ => ?_
        · rcases hi with hi | hi
          · omega
          · exact .inr hi
        · exact .inl (by rw [show i = d.c u from hi]; exact d.mem_c hu)
    refine Br.of (fun c1 => Br.of (fun c2 => ?_) (fun c2 => ?_)) (fun c1 => ?_)
    · have c1 : i0 + m < 32 := by have := dtrue c1; omega
      have c2 : k + m < n := by have := dtrue c2; omega
      refine ⟨cl.body, Calls.mono (cl.call w7 _ _ w4.heap.size (i0 + m) (k + m) hD7 hb7 hYr c1 c2) ?_⟩
      rintro e w8 ⟨rfl, hD8, hb8, hf8⟩
      refine ⟨rfl, ?_⟩
      rw [wrap_in (by omega) (by omega), wrap_in (by omega) (by omega)]
      exact hJ2 _ _ (by omega) ⟨by simp only [Prod.mk.injEq]; omega, hb8, hD8, hf7.trans hf8 fun i hi _ => hi⟩
    · exact finish (by have := dfalse c2; omega)
    · exact finish (by have := dfalse c1; omega)
  · have hk : k = n := by have := dfalse hge; omega
    subst hk
    rw [eachS_end step (by omega)] at heq
    refine ⟨rfl, ?_, ?_, hfr1⟩
    · rw [← heq]; exact h1
    · rw [← heq]; exact hD1
end Go.Proofs.YtnigfiljenfgjaaGreat

/- The disk: writing and reading bytes. -/
set_option maxRecDepth 100000
set_option linter.unusedVariables false
set_option linter.unusedSimpArgs false
namespace Go.Proofs.YtnigfiljenfgjaaGreat
open Go.Sh Go.RowKit
theorem rdsl_fr {w w' : World} {B : Nat -> Prop} {s : SV} {l : List UInt8} (h : RdSl w s l) (hf : Fr B w w') (hn : ∀ b ∈ blkOf s, ¬ B b) : RdSl w' s l where
  len := h.len
  cap := h.cap
  lim := h.lim
  get := fun i x hx => by
    obtain ⟨a, ha, vs, h1, h2⟩ := h.get i x hx
    refine ⟨a, ha, vs, h1, fun j v hv => ?_⟩
    have hc := h2 j v hv
    have hb : ((a.add (i * Enc.sz UInt8)).add j).block = a.block := by
      have : ∀ (a : Addr) n, (a.add n).block = a.block := fun a n => by unfold Addr.add; split <;> rfl
      rw [this, this]
    rw [World.cell?_of_block (hf.block _ (World.block_lt_of_cell? w _ hc) (by rw [hb]; exact hn _ (by simp [blkOf, ha])))]
    exact hc
def wstep (bs : List UInt8) (t : Unit) (pg : Page) (i k : Nat) : Unit × Page := ((), { b := upN pg.b i (bs.getD k 0), kn := upN pg.kn i true, di := upN pg.di i true })
theorem does_write {r : Nat} {l : SV} {bs : List UInt8} : Does 68 #[] #[.pointer (some ⟨r, 0, none⟩)] bs.length (fun w (_ : Unit) => w.heap[r]? = some (.cells #[.slice l.a l.len l.cap] 36) /\ RdSl w l bs) (fun _ => False) (fun b => b = r ∨ b ∈ blkOf l) (wstep bs) where
  body := by kernel_rfl
  sub := fun _ h => h.elim
  stays := fun {B w w' t} hD hf hn => ⟨hf.blk hD.1 (hn _ (.inl rfl) (blk_lt hD.1)), by
    by_cases hb : ∀ b ∈ blkOf l, b < w.heap.size
    · exact rdsl_fr hD.2 hf fun b hb' => hn b (.inr hb') (hb b hb')
    · -- no cell of it is there: then there is no element
      have hnil : bs = [] := by
        cases hbs : bs with
        | nil => rfl
        | cons x xs =>
          exfalso
          refine hb fun b hb' => ?_
          obtain ⟨a, ha, _, hc⟩ := hD.2.u8 (i := 0) (x := x) (by rw [hbs]; rfl)
          have : b = a.block := by simpa [blkOf, ha] using hb'
          have ha' : (a.add (0 * 1)).block = a.block := by unfold Addr.add; split <;> rfl
          rw [this, ← ha']; exact World.block_lt_of_cell? w _ hc
      have := hD.2
      subst hnil
      exact ⟨this.len, this.cap, this.lim, fun i x hx => by simp at hx⟩⟩
  call := by
    rintro w t pg q i k ⟨hr, hl⟩ hq hnY hi hk
    refine F68_calls _ _ _ _ w _ ?_
    refine dwE_intro fun w1 hp1 hh1 => ?_
    obtain ⟨x, hx⟩ : ∃ x, bs[k]? = some x := ⟨_, List.getElem?_eq_getElem hk⟩
    have hl1 := hl.pu hp1
    obtain ⟨a, ha, hkl, hc⟩ := hl1.u8 hx
    have hr1 := hp1.blk hr
    have hq1 := hp1.blk hq
    refine ⟨l, by rw [cell_blk hr1]; rfl, a, ha, by omega, by omega, _, by simpa using hc, by omega, by omega, ?_⟩
    rw [ptrE_some, ptrE_some, add_def]
    refine st1_intro hq1 (by rw [Page.size_cells]; omega) fun w2 hw2 hb2 => ?_
    refine ⟨by omega, by omega, ?_⟩
    rw [add_def, add_def]
    refine st1_intro hb2 (by simp [Page.size_cells]; omega) fun w3 hw3 hb3 => ?_
    refine ⟨by omega, by omega, ?_⟩
    rw [add_def, add_def]
    refine st1_intro hb3 (by simp [Page.size_cells]; omega) fun w4 hw4 hb4 => ?_
    have hf2 : Fr (· = q) w1 w2 := by rw [hw2]; exact Fr.cell w1 _ _ _
    have hf3 : Fr (· = q) w2 w3 := by rw [hw3]; exact Fr.cell w2 _ _ _
    have hf4 : Fr (· = q) w3 w4 := by rw [hw4]; exact Fr.cell w3 _ _ _
    have hF : Fr (· = q) w1 w4 := (hf2.trans hf3 fun i hi _ => hi).trans hf4 fun i hi _ => hi
    have hqr : ¬ r = q := fun e => hnY (.inl e.symm)
    have hql : ∀ b ∈ blkOf l, ¬ b = q := fun b hb e => hnY (.inr (by rw [← e]; exact hb))
    refine ⟨rfl, ⟨hF.blk hr1 hqr, rdsl_fr hl1 hF hql⟩, ?_, ((Fr.pu hp1 : Fr (· = q) w w1).trans hF fun i hi _ => hi).mono fun i hi _ => .inl hi⟩
    rw [hb4]
    have e1 : 0 + (i : Int).toNat * 1 = i := by omega
    have e2 : 0 + 32 + (i : Int).toNat * 1 = 32 + i := by omega
    have e3 : 0 + 64 + (i : Int).toNat * 1 = 64 + i := by omega
    rw [e1, e2, e3, show Value.int .u8 ((x.toNat : Nat) : Int) = u8V x from rfl, Page.set_b _ hi, Page.set_kn _ hi, Page.set_di _ hi]
    have : bs.getD k 0 = x := by simp [List.getD, hx]
    simp only [wstep, this]
def rstep (out : List UInt8) (pg : Page) (i k : Nat) : List UInt8 × Page := (out.set k (pg.b i), pg)
theorem does_read {r : Nat} {l : SV} {n : Nat} : Does 45 #[] #[.pointer (some ⟨r, 0, none⟩)] n (fun w (out : List UInt8) => w.heap[r]? = some (.cells #[.slice l.a l.len l.cap] 36) /\ RowAt w 5 1 l (out.map u8V) /\ out.length = n /\ r ∉ blkOf l) (fun b => b ∈ blkOf l) (fun b => b = r ∨ b ∈ blkOf l) rstep where
  body := by kernel_rfl
  sub := fun _ h => .inr h
  stays := fun {B w w' t} hD hf hn => ⟨hf.blk hD.1 (hn _ (.inl rfl) (blk_lt hD.1)), hD.2.1.fr hf fun b hb => hn b (.inr hb) (hD.2.1.lt b hb), hD.2.2⟩
  call := by
    rintro w out pg q i k ⟨hr, hl, hlen, hrl⟩ hq hnY hi hk
    refine F45_calls _ _ _ _ w _ ?_
    refine dwE_intro fun w1 hp1 hh1 => ?_
    have hl1 := hl.pu hp1
    have hr1 := hp1.blk hr
    have hq1 := hp1.blk hq
    have hll : l.len = out.length := u8V_map_len out hl1
    refine ⟨l, by rw [cell_blk hr1]; rfl, by omega, by omega, _, by rw [add_def, cell_blk hq1, show 0 + (i : Int).toNat * 1 = i by omega]; exact Page.get_b pg hi, ?_⟩
    obtain ⟨a, ha, hst⟩ := hl1.st1 (j := k) (by simp; omega) (u8V (pg.b i)) (K := fun w' => Ending.returned (Value.tuple #[]) = Ending.returned (Value.tuple #[]) /\ (w'.heap[r]? = some (.cells #[.slice l.a l.len l.cap] 36) /\ RowAt w' 5 1 l ((rstep out pg i k).1.map u8V) /\ (rstep out pg i k).1.length = n /\ r ∉ blkOf l) /\
      w'.heap[q]? = some (.cells (rstep out pg i k).2.cells 89) /\ Fr (fun b => b = q ∨ b ∈ blkOf l) w w') fun w2 h2 hf2 hs2 => by
        refine ⟨rfl, ⟨hf2.blk hr1 hrl, ?_, by simp [rstep, hlen], hrl⟩, hf2.blk hq1 fun hb => hnY (.inr hb), ((Fr.pu hp1 : Fr (fun b => b = q ∨ b ∈ blkOf l) w w1).trans hf2 fun i hi _ => .inr hi)⟩
        simp only [rstep, List.map_set]; exact h2
    refine ⟨a, ha, by omega, by omega, ?_⟩
    rw [show ((k : Int).toNat * 1) = k by omega]
    exact hst
theorem enterC_zero {u : Int} {name : ByteArray} {σ : Sys} (h : enterC u name σ = 0) : 0 <= u /\ u < 4 /\ ∃ f, AL.get σ.files name = some f := by
  unfold enterC at h
  split at h
  · simp at h
  · rename_i hc
    split at h
    · simp at h
    · rename_i hf
      refine ⟨by omega, by omega, ?_⟩
      cases hg : AL.get σ.files name with
      | none => simp [hg] at hf
      | some f => exact ⟨f, rfl⟩
def fileOf (σ : Sys) (name : ByteArray) : List UInt8 := (AL.get σ.files name).getD []
def Small (σ : Sys) : Prop := ∀ name f, AL.get σ.files name = some f -> f.length <= 1000000
def writeC (u : Int) (name : ByteArray) (at_ : Int) (bs : List UInt8) (σ : Sys) : Int :=
  if enterC u name σ = 0 then (if at_ < 0 then 1 else if at_ > (fileOf σ name).length then 1 else if (bs.length : Int) > (fileOf σ name).length - at_ then 1 else 0) else enterC u name σ
def writeS (u : Int) (name : ByteArray) (at_ : Int) (bs : List UInt8) (σ : Sys) : Sys :=
  if writeC u name at_ bs σ = 0 then (eachS (wstep bs) u.toNat name at_.toNat bs.length (fileOf σ name) bs.length σ () 0).1 else σ
theorem leave_left {w w2 : World} {d : Lay} {σ' : Sys} {K : World -> Prop} (h : SysAt w2 d 1 σ') (hf : Fr (· ∈ d.own) w w2) (hK : ∀ w', Left w w' d d σ' -> Fr (· = d.S) w2 w' -> K w') : runD Tryz.prog [leaveD d] w2 K :=
  leave_c h fun w' h' hf' _ => hK w' ⟨h', hf.trans hf' fun i hi _ => by rw [show i = d.S from hi]; exact mem_S d, fun b hb => .inl hb, rfl⟩ hf'
theorem write_c {w : World} {d : Lay} {σ : Sys} (h : SysAt w d 0 σ) (hsm : Small σ) (u : Int) (name : ByteArray) (at_ : Int) {l : SV} {bs : List UInt8} (hl : RdSl w l bs) (hlo : ∀ b ∈ blkOf l, b < w.heap.size /\ b ∉ d.own) :
    Calls Tryz.prog 25 #[d.ptr, .int .i64 u, .string name, .int .i64 at_, .slice l.a l.len l.cap] w fun e w' => e = .returned (.int .i64 (writeC u name at_ bs σ)) /\ Left w w' d d (writeS u name at_ bs σ) := by
  refine F25_calls _ _ _ _ l w _ ?_
  refine alE_intro fun w1 hw1 => ?_
  have hp1 : Pu w w1 := by rw [hw1]; exact Pu.alloc w _
  have hb1 : w1.heap[w.heap.size]? = some (.cells #[.slice l.a l.len l.cap] 36) := by rw [hw1]; exact alloc_new w _
  have h1 := h.pu hp1
  refine Calls.mono (enter_c h1 u name) ?_
  rintro e w2 ⟨rfl, h2, hf2⟩
  have hf2' : Fr (· ∈ d.own) w w2 := ((Fr.pu hp1 : Fr (· ∈ d.own) w w1).trans hf2 fun i hi _ => by rw [show i = d.S from hi]; exact mem_S d)
  have hll : l.len = bs.length := hl.len
  have bad : ∀ n : Int, ∀ w3, writeC u name at_ bs σ = n -> n ≠ 0 -> SysAt w3 d 1 σ -> Fr (· ∈ d.own) w w3 -> runD Tryz.prog [leaveD d] w3 fun w' => Ending.returned (Value.int .i64 n) = Ending.returned (Value.int .i64 (writeC u name at_ bs σ)) /\ Left w w' d d (writeS u name at_ bs σ) := fun n w3 hn h0 h3 hf3 =>
    leave_left h3 hf3 fun w' hL _ => ⟨by rw [hn], by simp only [writeS, hn, h0, if_false]; exact hL⟩
  refine ⟨_, _, rfl, Br.of (fun he => ?_) (fun he => ?_)⟩
  · have he : enterC u name σ ≠ 0 := by simpa using he
    exact bad _ w2 (by simp [writeC, he]) he h2 hf2'
  · have he : enterC u name σ = 0 := by simpa using he
    obtain ⟨hu0, hu4, f, hf⟩ := enterC_zero he
    have hfo : fileOf σ name = f := by simp [fileOf, hf]
    have hfl := hsm name f hf
    refine dwE_intro fun w3 hp3 hh3 => ?_
    have h3 := h2.pu hp3
    have hf3 : Fr (· ∈ d.own) w w3 := hf2'.trans (Fr.pu hp3 : Fr (· ∈ d.own) w2 w3) fun i hi _ => hi
    have hC : ∀ n : Int, (if at_ < 0 then 1 else if at_ > f.length then 1 else if (bs.length : Int) > f.length - at_ then 1 else 0) = n -> writeC u name at_ bs σ = n := fun n hn => by simp only [writeC, he, if_true, hfo]; exact hn
    refine Br.of (fun c1 => ?_) (fun c1 => ?_)
    · have c1 := dtrue c1
      exact bad 1 w3 (hC 1 (by simp [c1])) (by decide) h3 hf3
    have c1 := dfalse c1
    obtain ⟨s, hl3, hr3, _, hmem, hsl⟩ := look_file h3 hf
    refine ⟨some d.M, h3.cellM, s, hl3, ?_⟩
    rw [hsl]
    refine Br.of (fun c2 => ?_) (fun c2 => ?_)
    · have c2 := dtrue c2
      exact bad 1 w3 (hC 1 (by simp [c1, c2])) (by decide) h3 hf3
    have c2 := dfalse c2
    have hb3 : w3.heap[w.heap.size]? = some (.cells #[.slice l.a l.len l.cap] 36) := hp3.blk (hf2.blk hb1 fun e => by have := h.lt d.S (mem_S d); omega)
    refine ⟨l, by rw [cell_blk hb3]; rfl, some d.M, h3.cellM, s, hl3, ?_⟩
    rw [hsl, wrap_in (n := (f.length : Int) - at_) (by omega) (by omega), hll]
    refine Br.of (fun c3 => ?_) (fun c3 => ?_)
    · have c3 := dtrue c3
      exact bad 1 w3 (hC 1 (by simp only [c1, c2, c3, if_false, if_true])) (by decide) h3 hf3
    have c3 := dfalse c3
    refine ⟨l, by rw [cell_blk hb3]; rfl, ?_⟩
    rw [hll]
    obtain ⟨un, rfl⟩ := Int.eq_ofNat_of_zero_le hu0
    obtain ⟨an, rfl⟩ := Int.eq_ofNat_of_zero_le (by omega : 0 <= at_)
    have hw : w.heap.size <= w3.heap.size := hf3.size
    have hRl : RdSl w3 l bs := rdsl_fr hl hf3 fun b hb => (hlo b hb).2
    refine Calls.mono (each_c (u := un) (at_ := an) does_write h3 (by omega) hf hfl (by omega) (t := ()) ⟨hb3, hRl⟩ ?_ ?_) ?_
    · rintro b (rfl | hb)
      · exact blk_lt hb3
      · exact Nat.lt_of_lt_of_le (hlo b hb).1 hw
    · rintro b hb (rfl | hb')
      · have := h.lt _ hb; omega
      · exact (hlo b hb').2 hb
    · rintro e w4 ⟨rfl, h4, _, hf4⟩
      refine ⟨rfl, leave_left h4 (hf3.trans hf4 fun i hi _ => hi.elim id False.elim) fun w' hL _ => ⟨by rw [hC 0 (by simp only [c1, c2, c3, if_false])], ?_⟩⟩
      have : writeC (un : Int) name (an : Int) bs σ = 0 := hC 0 (by simp only [c1, c2, c3, if_false])
      simp only [writeS, this, if_true, hfo, Int.toNat_natCast]
      exact hL
end Go.Proofs.YtnigfiljenfgjaaGreat

/- The disk: reading bytes; the bytes on the disk. -/
set_option maxRecDepth 100000
set_option linter.unusedVariables false
set_option linter.unusedSimpArgs false
namespace Go.Proofs.YtnigfiljenfgjaaGreat
open Go.Sh Go.RowKit
theorem made_one (z : Value) (n : Nat) : (madeCells #[z] n).toList = List.replicate n z := by
  unfold madeCells
  apply List.ext_getElem
  · simp
  · intro i h1 h2
    simp [Nat.mod_one]
theorem info5 : (Tryz.prog.info? 5).map (fun i => (i.zero, i.size, i.bytes)) = some (some (.int .u8 0), 1, 1) := by kernel_rfl
theorem makeBytes (w : World) (n : Nat) (hn : n <= 1000000) : ∃ w', (Instr.makeSlice 36 (.int .i64 (n : Int)) (.int .i64 (n : Int))).run Tryz.prog w = .ok (.slice (some ⟨w.heap.size, 0, none⟩) n n) w' /\
    RowAt w' 5 1 ⟨some ⟨w.heap.size, 0, none⟩, n, n⟩ ((List.replicate n 0).map u8V) /\ Pu w w' /\ w'.heap.size = w.heap.size + 1 := by
  obtain ⟨i, hi, hz, hs, hb⟩ := info_parts info5
  obtain ⟨w', h1, h2, h3, h4⟩ := row_make (P := Tryz.prog) (w := w) u29 hi hz hs .i64 .i64 n (by rw [hb]; omega) (by omega)
  refine ⟨w', h1, ?_, h3, h4⟩
  have : (Value.int IntKind.u8 0).cells = #[.int .u8 0] := rfl
  rw [this, made_one] at h2
  simpa [u8V] using h2
def readC (u : Int) (name : ByteArray) (at_ n : Int) (σ : Sys) : Int :=
  if enterC u name σ = 0 then (if at_ < 0 then 1 else if n < 0 then 1 else if at_ > (fileOf σ name).length then 1 else if n > (fileOf σ name).length - at_ then 1 else 0) else enterC u name σ
def readR (u : Int) (name : ByteArray) (at_ n : Int) (σ : Sys) : Sys × List UInt8 :=
  if readC u name at_ n σ = 0 then eachS rstep u.toNat name at_.toNat n.toNat (fileOf σ name) n.toNat σ (List.replicate n.toNat 0) 0 else (σ, [])
theorem read_c {w : World} {d : Lay} {σ : Sys} (h : SysAt w d 0 σ) (hsm : Small σ) (u : Int) (name : ByteArray) (at_ n : Int) :
    Calls Tryz.prog 13 #[d.ptr, .int .i64 u, .string name, .int .i64 at_, .int .i64 n] w fun e w' => ∃ l : SV, e = .returned (.tuple #[.slice l.a l.len l.cap, .int .i64 (readC u name at_ n σ)]) /\ Left w w' d d (readR u name at_ n σ).1 /\
      RowAt w' 5 1 l ((readR u name at_ n σ).2.map u8V) /\ ∀ b ∈ blkOf l, w.heap.size <= b := by
  refine F13_calls _ _ _ _ _ w _ ?_
  refine Calls.mono (enter_c h u name) ?_
  rintro e w2 ⟨rfl, h2, hf2⟩
  have hf2' : Fr (· ∈ d.own) w w2 := hf2.mono fun i hi _ => by rw [show i = d.S from hi]; exact mem_S d
  have bad : ∀ m : Int, ∀ w3, readC u name at_ n σ = m -> m ≠ 0 -> SysAt w3 d 1 σ -> Fr (· ∈ d.own) w w3 -> runD Tryz.prog [leaveD d] w3 fun w' => ∃ l : SV, Ending.returned (Value.tuple #[.slice none 0 0, .int .i64 m]) = .returned (.tuple #[.slice l.a l.len l.cap, .int .i64 (readC u name at_ n σ)]) /\ Left w w' d d (readR u name at_ n σ).1 /\
      RowAt w' 5 1 l ((readR u name at_ n σ).2.map u8V) /\ ∀ b ∈ blkOf l, w.heap.size <= b := fun m w3 hm h0 h3 hf3 =>
    leave_left h3 hf3 fun w' hL _ => ⟨⟨none, 0, 0⟩, by rw [hm], by simp only [readR, hm, h0, if_false]; exact hL, by simp only [readR, hm, h0, if_false]; exact RowAt.nil _ _ _, by simp [blkOf]⟩
  refine ⟨_, _, rfl, Br.of (fun he => ?_) (fun he => ?_)⟩
  · have he : enterC u name σ ≠ 0 := by simpa using he
    exact bad _ w2 (by simp [readC, he]) he h2 hf2'
  · have he : enterC u name σ = 0 := by simpa using he
    obtain ⟨hu0, hu4, f, hf⟩ := enterC_zero he
    have hfo : fileOf σ name = f := by simp [fileOf, hf]
    have hfl := hsm name f hf
    have hC : ∀ m : Int, (if at_ < 0 then 1 else if n < 0 then 1 else if at_ > f.length then 1 else if n > f.length - at_ then 1 else 0) = m -> readC u name at_ n σ = m := fun m hm => by simp only [readC, he, if_true, hfo]; exact hm
    refine Br.of (fun c1 => bad 1 w2 (hC 1 (by simp [dtrue c1])) (by decide) h2 hf2') (fun c1 => Br.of (fun c2 => bad 1 w2 (hC 1 (by simp [dtrue c2])) (by decide) h2 hf2') (fun c2 => ?_))
    have c1 := dfalse c1
    have c2 := dfalse c2
    obtain ⟨s, hl3, hr3, _, hmem, hsl⟩ := look_file h2 hf
    refine ⟨some d.M, h2.cellM, s, w2, hl3, ?_⟩
    rw [hsl]
    refine Br.of (fun c3 => bad 1 w2 (hC 1 (by simp only [c1, c2, dtrue c3, if_false, if_true])) (by decide) h2 hf2') (fun c3 => ?_)
    have c3 := dfalse c3
    refine ⟨some d.M, h2.cellM, s, w2, hl3, ?_⟩
    rw [hsl, wrap_in (n := (f.length : Int) - at_) (by omega) (by omega)]
    refine Br.of (fun c4 => bad 1 w2 (hC 1 (by simp only [c1, c2, c3, dtrue c4, if_false, if_true])) (by decide) h2 hf2') (fun c4 => ?_)
    have c4 := dfalse c4
    obtain ⟨un, rfl⟩ := Int.eq_ofNat_of_zero_le hu0
    obtain ⟨an, rfl⟩ := Int.eq_ofNat_of_zero_le (by omega : 0 <= at_)
    obtain ⟨m, rfl⟩ := Int.eq_ofNat_of_zero_le (by omega : 0 <= n)
    obtain ⟨w3, hmk, hr3', hp3, hs3⟩ := makeBytes w2 m (by omega)
    refine ⟨⟨some ⟨w2.heap.size, 0, none⟩, m, m⟩, w3, hmk, ?_⟩
    refine alE_intro fun w4 hw4 => ?_
    have hp4 : Pu w3 w4 := by rw [hw4]; exact Pu.alloc w3 _
    have hb4 : w4.heap[w3.heap.size]? = some (.cells #[.slice none 0 0] 36) := by rw [hw4]; exact alloc_new w3 _
    refine st1_intro hb4 (by decide) fun w5 hw5 hb5 => ?_
    have hf5 : Fr (· = w3.heap.size) w4 w5 := by rw [hw5]; exact Fr.cell w4 _ _ _
    have hP5 : Pu w2 w5 := (hp3.trans hp4).andNew hf5 fun i hi => by omega
    have h5 := h2.pu hP5
    have hr5 : RowAt w5 5 1 ⟨some ⟨w2.heap.size, 0, none⟩, m, m⟩ ((List.replicate m 0).map u8V) := (hr3'.pu hp4).fr hf5 fun b hb => by simp [blkOf] at hb; omega
    have hlt2 : ∀ b ∈ d.own, b < w2.heap.size := h2.lt
    refine Calls.mono (each_c (u := un) (at_ := an) (n := m) (does_read (r := w3.heap.size) (l := ⟨some ⟨w2.heap.size, 0, none⟩, m, m⟩)) h5 (by omega) hf hfl (by omega) (t := List.replicate m 0) ⟨hb5, hr5, by simp, by simp [blkOf]; omega⟩ ?_ ?_) ?_
    · rintro b (rfl | hb)
      · exact blk_lt hb5
      · exact hr5.lt b hb
    · rintro b hb (rfl | hb')
      · have := hlt2 _ hb; omega
      · have := hlt2 b hb; simp [blkOf] at hb'; omega
    · rintro e w6 ⟨rfl, h6, ⟨hb6, hr6, _, _⟩, hf6⟩
      refine ⟨rfl, ⟨some ⟨w2.heap.size, 0, none⟩, m, m⟩, by rw [cell_blk hb6]; rfl, ?_⟩
      have hw2 : w.heap.size <= w2.heap.size := hf2'.size
      have hF : Fr (· ∈ d.own) w w6 := (hf2'.trans (Fr.pu hP5 : Fr (· ∈ d.own) w2 w5) fun i hi _ => hi).trans hf6 fun i hi hlt => by
        rcases hi with hi | hi
        · exact hi
        · simp [blkOf] at hi; omega
      have hc : readC (un : Int) name (an : Int) (m : Int) σ = 0 := hC 0 (by simp only [c1, c2, c3, c4, if_false])
      refine leave_left h6 hF fun w' hL hf' => ⟨_, by rw [hc], ?_, ?_, fun b hb => by simp [blkOf] at hb; omega⟩
      · simp only [readR, hc, if_true, hfo, Int.toNat_natCast]; exact hL
      · simp only [readR, hc, if_true, hfo, Int.toNat_natCast]
        exact hr6.fr hf' fun b hb e => by simp [blkOf] at hb; have := hlt2 d.S (mem_S d); omega
theorem clone_c {w : World} {s : SV} {bs : List UInt8} (h : RowAt w 5 1 s (bs.map u8V)) (hb : bs.length <= 1000000) :
    Calls Tryz.prog 50 #[.slice s.a s.len s.cap] w fun e w' => ∃ l : SV, e = .returned (.slice l.a l.len l.cap) /\ RowAt w' 5 1 l (bs.map u8V) /\ Pu w w' /\ ∀ b ∈ blkOf l, w.heap.size <= b := by
  refine F50_calls s w _ ?_
  refine ⟨_, w, eqS_slice_nil u29 _ _ _ _ _ w, ?_⟩
  have hsl := u8V_map_len bs h
  refine Br.of (fun hn => ?_) (fun hn => ?_)
  · have : s = ⟨none, 0, 0⟩ := by
      obtain ⟨_, rfl | ⟨g, cur, h3, _⟩⟩ := h
      · rfl
      · rw [h3] at hn; cases hn
    have hbs : bs = [] := List.eq_nil_of_length_eq_zero (by rw [← hsl, this])
    subst hbs
    exact ⟨⟨none, 0, 0⟩, rfl, RowAt.nil _ _ _, Pu.refl w, by simp [blkOf]⟩
  · refine alE_intro fun w1 hw1 => ?_
    have hp1 : Pu w w1 := by rw [hw1]; exact Pu.alloc w _
    obtain ⟨i, hi, hz, hs, hb'⟩ := info_parts info5
    have hr0 : RowAt w1 5 1 ⟨some ⟨w.heap.size, 0, none⟩, 0, 0⟩ [] := ⟨rfl, .inr ⟨_, #[], rfl, by rw [hw1]; exact alloc_new w _, Nat.le_refl _, Nat.zero_le _, rfl, rfl⟩⟩
    have h1 := h.pu hp1
    obtain ⟨a, ha⟩ : ∃ a, s.a = some a := by cases hsa : s.a with
      | none => rw [hsa] at hn; cases hn
      | some a => exact ⟨a, rfl⟩
    obtain ⟨s', w2, hr, hrow, hf, hblk, _⟩ := row_append (P := Tryz.prog) (ty := 36) u29 hi hz hs (by rfl) (by decide) hr0 (a := a) (m := s.len) (c := s.cap) (news := bs.map u8V) (by simp; omega) (fun j v hv => by
      obtain ⟨a', ha', hc, _⟩ := h1.cell hv
      rw [ha] at ha'; cases ha'; exact hc) (fun v hv => by obtain ⟨x, _, rfl⟩ := List.mem_map.1 hv; rfl) (by rw [hb']; show (0 + s.len) * 2 <= _; omega)
    refine ⟨s', w2, by rw [ha]; exact hr, s', rfl, hrow, hp1.andNew hf fun b hb => by simp [blkOf] at hb; omega, fun b hb => ?_⟩
    rcases hblk b hb with h | h
    · simp [blkOf] at h; omega
    · rw [hw1] at h; simp at h; omega
def diskC (name : ByteArray) (σ : Sys) : Int := enterC 0 name σ
theorem disk_c {w : World} {d : Lay} {σ : Sys} (h : SysAt w d 0 σ) (hsm : Small σ) (name : ByteArray) :
    Calls Tryz.prog 15 #[d.ptr, .string name] w fun e w' => ∃ l : SV, e = .returned (.tuple #[.slice l.a l.len l.cap, .int .i64 (diskC name σ)]) /\ Left w w' d d σ /\ RowAt w' 5 1 l ((if diskC name σ = 0 then fileOf σ name else []).map u8V) /\ ∀ b ∈ blkOf l, w.heap.size <= b := by
  refine F15_calls _ _ w _ ?_
  refine Calls.mono (enter_c h 0 name) ?_
  rintro e w2 ⟨rfl, h2, hf2⟩
  have hf2' : Fr (· ∈ d.own) w w2 := hf2.mono fun i hi _ => by rw [show i = d.S from hi]; exact mem_S d
  refine ⟨_, _, rfl, Br.of (fun he => ?_) (fun he => ?_)⟩
  · have he : enterC 0 name σ ≠ 0 := by simpa using he
    exact leave_left h2 hf2' fun w' hL _ => ⟨⟨none, 0, 0⟩, rfl, hL, by simp only [diskC, he, if_false]; exact RowAt.nil _ _ _, by simp [blkOf]⟩
  · have he : enterC 0 name σ = 0 := by simpa using he
    obtain ⟨_, _, f, hf⟩ := enterC_zero he
    have hfo : fileOf σ name = f := by simp [fileOf, hf]
    obtain ⟨s, hl3, hr3, _, hmem, hsl⟩ := look_file h2 hf
    refine ⟨some d.M, h2.cellM, s, w2, hl3, ?_⟩
    refine Calls.mono (clone_c hr3 (hsm name f hf)) ?_
    rintro e w3 ⟨l, rfl, hrow, hp, hb⟩
    refine ⟨l, rfl, ?_⟩
    have hw2 : w.heap.size <= w2.heap.size := hf2'.size
    refine leave_left (h2.pu hp) (hf2'.trans (Fr.pu hp : Fr (· ∈ d.own) w2 w3) fun i hi _ => hi) fun w' hL hf' => ⟨l, by simp only [diskC, he], hL, ?_, fun b hb' => Nat.le_trans hw2 (hb b hb')⟩
    simp only [diskC, he, if_true, hfo]
    exact hrow.fr hf' fun b hb' e => by have := hb b hb'; have := h2.lt d.S (mem_S d); omega
end Go.Proofs.YtnigfiljenfgjaaGreat
