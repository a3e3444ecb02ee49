import Derived.Test.YtcihcbfcgjepfaaGreatDoorBfOwB
import Derived.Test.YtcihcbfcgjepfaaGreatDoorBfPrA
import Derived.Test.YtcihcbfcgjepfaaGreatDoorShFourteen
import Derived.Test.YtcihcbfcgjepfaaGreatDoorShTwentyOne
import Derived.Test.YtcihcbfcgjepfaaGreatDoorShTwentyFive
import Derived.Laws.LoneSync
import Derived.Test.YtcihcbfcgjepfaaGreatDoorShTwentyTwo
/- Desks: how records lie in memory by handles: what both sides share. No condition. -/
set_option linter.unusedVariables false
set_option linter.unusedSimpArgs false
namespace Go.Proofs.YtcihcbfcgjepfaaGreatDoor
open Go.Sh Go.RowKit Tryz
structure zQy where
 g : Bool
 s : SV
instance : Inhabited zQy := ⟨false, ⟨none, 0, 0⟩⟩
def hv (val : Nat -> List Val) (h : zQy) : List Val := match h.s.a with
 | some a => val a.block
 | none => []
def toR (val : Nat -> List Val) (h : zQy) : Rec := ⟨h.g, hv val h⟩
abbrev zJF (h : zQy) : List Value := [.bool h.g, .slice h.s.a h.s.len h.s.cap]
theorem zQk (h : zQy) : (zJF h).length = 2 := rfl
abbrev chV (c : zQy × zQy) : Value := .agg #[.bool c.1.g, .slice c.1.s.a c.1.s.len c.1.s.cap, .bool c.2.g, .slice c.2.s.a c.2.s.len c.2.s.cap]
abbrev chC (c : Int × (zQy × zQy)) : List Value := [.int .i64 c.1, .bool c.2.1.g, .slice c.2.1.s.a c.2.1.s.len c.2.1.s.cap, .bool c.2.2.g, .slice c.2.2.s.a c.2.2.s.len c.2.2.s.cap]
theorem zZu (c : Int × (zQy × zQy)) : (chC c).length = 5 := rfl
abbrev zXu (n : Int) : Value := .int .i64 n
abbrev Chg := Int × (zQy × zQy)
def toC (val : Nat -> List Val) (c : Chg) : Int × (Rec × Rec) := (c.1, (toR val c.2.1, toR val c.2.2))
inductive zX4
 | S | L | F | R | V
 | C (u : Nat)
 | A (u : Nat)
deriving DecidableEq
structure zQr where
 sd : Bool
 o : Nat -> Option zX4
 S : Nat
 L : Nat
 C : Nat -> Nat
 page : Int
 flds : List Fld
 fs : SV
 rs : SV
 rh : List zQy
 mode : Nat -> Int
 at_ : Nat -> Int
 asv : Nat -> SV
 ah : Nat -> List zQy
 cs : Nat -> SV
 ch : Nat -> List Chg
 lk : Int -> Option Int
def zJ2 (d : zQr) (val : Nat -> List Val) (u : Nat) : Usr := ⟨d.mode u, d.at_ u, (d.ch u).map (toC val), (d.ah u).map (toR val)⟩
def zQa (d : zQr) (val : Nat -> List Val) : Dsk := ⟨d.page, d.flds, d.rh.map (toR val), zJ2 d val, d.lk⟩
def chH (l : List Chg) : List zQy := l.flatMap fun c => [c.2.1, c.2.2]
def uH (d : zQr) (u : Nat) : List zQy := chH (d.ch u) ++ d.ah u
def zXf (d : zQr) : List zQy := d.rh ++ (uH d 0 ++ (uH d 1 ++ (uH d 2 ++ uH d 3)))
theorem zQK {d : zQr} {h : zQy} (hm : h ∈ d.rh) : h ∈ zXf d := List.mem_append_left _ hm
theorem zZn {d : zQr} {u : Nat} (hu : u < 4) {h : zQy} (hm : h ∈ uH d u) : h ∈ zXf d := by
 unfold zXf
 simp only [List.mem_append]
 rcases (by omega : u = 0 ∨ u = 1 ∨ u = 2 ∨ u = 3) with rfl | rfl | rfl | rfl
 ·exact .inr (.inl hm)
 ·exact .inr (.inr (.inl hm))
 ·exact .inr (.inr (.inr (.inl hm)))
 ·exact .inr (.inr (.inr (.inr hm)))
theorem zX8 {d : zQr} {u : Nat} (hu : u < 4) {h : zQy} (hm : h ∈ d.ah u) : h ∈ zXf d := zZn hu (List.mem_append_right _ hm)
theorem zJc {d : zQr} {u : Nat} (hu : u < 4) {c : Chg} (hm : c ∈ d.ch u) : c.2.1 ∈ zXf d /\ c.2.2 ∈ zXf d := by
 constructor <;> refine zZn hu (List.mem_append_left _ (List.mem_flatMap.2 ⟨c, hm, by simp⟩))
def vB (l : List zQy) : List Nat := l.flatMap fun h => zQb h.s
def zX6 (val : Nat -> List Val) (b : Nat) (x : List Val) : Nat -> List Val := fun c => if c = b then x else val c
theorem zZJ {val : Nat -> List Val} {b : Nat} {x : List Val} {h : zQy} (hn : b ∉ zQb h.s) : hv (zX6 val b x) h = hv val h := by
 unfold hv
 cases ha : h.s.a with
 | none => rfl
 | some a =>
  have : a.block ≠ b := fun e => hn (by simp [zQb, ha, e])
  simp [zX6, this]
theorem zZj {val : Nat -> List Val} {b : Nat} {x : List Val} {h : zQy} {a : Addr} (ha : h.s.a = some a) (hb : a.block = b) : hv (zX6 val b x) h = x := by
 simp [hv, ha, zX6, hb]
theorem zZ2 {val : Nat -> List Val} {b : Nat} {x : List Val} {h : zQy} (hn : b ∉ zQb h.s) : toR (zX6 val b x) h = toR val h := by rw [toR, toR, zZJ hn]
theorem zJK {val : Nat -> List Val} {b : Nat} {x : List Val} {l : List zQy} (hn : b ∉ vB l) : l.map (toR (zX6 val b x)) = l.map (toR val) :=
 List.map_congr_left fun h hm => zZ2 fun hb => hn (List.mem_flatMap.2 ⟨h, hm, hb⟩)
theorem zVl {val : Nat -> List Val} {b : Nat} {x : List Val} {l : List Chg} (hn : b ∉ vB (chH l)) : l.map (toC (zX6 val b x)) = l.map (toC val) :=
 List.map_congr_left fun c hm => by
  have h1 : b ∉ zQb c.2.1.s := fun hb => hn (List.mem_flatMap.2 ⟨c.2.1, List.mem_flatMap.2 ⟨c, hm, by simp⟩, hb⟩)
  have h2 : b ∉ zQb c.2.2.s := fun hb => hn (List.mem_flatMap.2 ⟨c.2.2, List.mem_flatMap.2 ⟨c, hm, by simp⟩, hb⟩)
  rw [toC, toC, zZ2 h1, zZ2 h2]
theorem zQt (a b : List zQy) : vB (a ++ b) = vB a ++ vB b := List.flatMap_append ..
theorem zXd (h : zQy) (l : List zQy) : vB (h :: l) = zQb h.s ++ vB l := List.flatMap_cons ..
theorem map_set {val : Nat -> List Val} {b : Nat} {x : List Val} : ∀ {l : List zQy} {i : Nat} {h : zQy} {a : Addr}, (vB l).Nodup -> l[i]? = some h -> h.s.a = some a -> a.block = b -> l.map (toR (zX6 val b x)) = (l.map (toR val)).modify i fun r => { r with v := x }
 | [], i, h, a, _, hi, _, _ => by simp at hi
 | y :: l, 0, h, a, hn, hi, ha, hb => by
  simp at hi; subst hi
  rw [zXd] at hn
  have hmem : b ∈ zQb y.s := by simp [zQb, ha, hb]
  have hno : b ∉ vB l := fun hx => (List.nodup_append.1 hn).2.2 b hmem b hx rfl
  simp only [List.map_cons, List.modify_zero_cons, zJK hno]
  rw [toR, zZj ha hb]; rfl
 | y :: l, i + 1, h, a, hn, hi, ha, hb => by
  rw [zXd] at hn
  have hi : l[i]? = some h := by simpa using hi
  have hmem : b ∈ vB l := List.mem_flatMap.2 ⟨h, List.mem_of_getElem? hi, by simp [zQb, ha, hb]⟩
  have hno : b ∉ zQb y.s := fun hx => (List.nodup_append.1 hn).2.2 b hx b hmem rfl
  simp only [List.map_cons, List.modify_succ_cons, zZ2 hno]
  rw [map_set (List.nodup_append.1 hn).2.1 hi ha hb]
theorem zXk {l : List zQy} {h : zQy} (hm : h ∈ l) {b : Nat} (hb : b ∈ zQb h.s) : b ∈ vB l := List.mem_flatMap.2 ⟨h, hm, hb⟩
def zQr.withMode (d : zQr) (u : Nat) (m : Int) : zQr := { d with mode := fun v => if v = u then m else d.mode v }
def zQr.withAt (d : zQr) (u : Nat) (k : Int) : zQr := { d with at_ := fun v => if v = u then k else d.at_ v }
theorem zKQ (d : zQr) (val : Nat -> List Val) (u : Nat) (m : Int) : zQa (d.withMode u m) val = (zQa d val).setU u { (zQa d val).us u with mode := m } := by
 simp only [zQa, Dsk.setU, zQr.withMode, Dsk.mk.injEq, true_and, and_true]
 funext v
 by_cases e : v = u
 ·subst e; simp [zJ2]
 ·simp [zJ2, e]
theorem zVu (d : zQr) (val : Nat -> List Val) (u : Nat) (k : Int) : zQa (d.withAt u k) val = (zQa d val).setU u { (zQa d val).us u with at_ := k } := by
 simp only [zQa, Dsk.setU, zQr.withAt, Dsk.mk.injEq, true_and, and_true]
 funext v
 by_cases e : v = u
 ·subst e; simp [zJ2]
 ·simp [zJ2, e]
def Low (d : zQr) : Prop := ∀ v, 4 <= v -> d.ch v = [] /\ d.ah v = []
theorem yKg {d : zQr} (h : Low d) {v : Nat} (hv : 4 <= v) : uH d v = [] := by obtain ⟨h1, h2⟩ := h v hv; simp [uH, h1, h2, chH]
theorem zKW {d : zQr} (hn : (vB (zXf d)).Nodup) (hl : Low d) : (vB d.rh).Nodup /\ ∀ v b, b ∈ vB d.rh -> b ∉ vB (uH d v) := by
 unfold zXf at hn
 simp only [zQt] at hn
 obtain ⟨h1, _, h3⟩ := List.nodup_append.1 hn
 refine ⟨h1, fun v b hb hx => ?_⟩
 by_cases hv : v < 4
 ·refine h3 b hb b ?_ rfl
  simp only [List.mem_append]
  rcases (by omega : v = 0 ∨ v = 1 ∨ v = 2 ∨ v = 3) with rfl | rfl | rfl | rfl <;> simp [hx]
 ·rw [yKg hl (by omega)] at hx; simp [vB] at hx
theorem xZm {d : zQr} (hn : (vB (zXf d)).Nodup) (hl : Low d) {u : Nat} (hu : u < 4) : (vB (uH d u)).Nodup /\ ∀ v, v ≠ u -> ∀ b, b ∈ vB (uH d u) -> b ∉ vB (uH d v) := by
 unfold zXf at hn
 simp only [zQt] at hn
 obtain ⟨_, h2, _⟩ := List.nodup_append.1 hn
 obtain ⟨a1, a2, a3⟩ := List.nodup_append.1 h2
 obtain ⟨b1, b2, b3⟩ := List.nodup_append.1 a2
 obtain ⟨c1, c2, c3⟩ := List.nodup_append.1 b2
 refine ⟨by rcases (by omega : u = 0 ∨ u = 1 ∨ u = 2 ∨ u = 3) with rfl | rfl | rfl | rfl <;> assumption, fun v hv b hb hx => ?_⟩
 by_cases hv4 : v < 4
 ·have key : ∀ i j, i < 4 -> j < 4 -> i < j -> ∀ b, b ∈ vB (uH d i) -> b ∈ vB (uH d j) -> False := fun i j hi hj hij b hbi hbj => by
   rcases (by omega : (i = 0 /\ 1 <= j) ∨ (i = 1 /\ 2 <= j) ∨ (i = 2 /\ j = 3)) with ⟨rfl, _⟩ | ⟨rfl, _⟩ | ⟨rfl, rfl⟩
   ·refine a3 b hbi b ?_ rfl
    simp only [List.mem_append]
    rcases (by omega : j = 1 ∨ j = 2 ∨ j = 3) with rfl | rfl | rfl <;> simp [hbj]
   ·refine b3 b hbi b ?_ rfl
    simp only [List.mem_append]
    rcases (by omega : j = 2 ∨ j = 3) with rfl | rfl <;> simp [hbj]
   ·exact c3 b hbi b hbj rfl
  rcases Nat.lt_or_gt_of_ne hv with h | h
  ·exact key v u hv4 hu h b hx hb
  ·exact key u v hu hv4 h b hb hx
 ·rw [yKg hl (by omega)] at hx; simp [vB] at hx
theorem zKv {d : zQr} {val : Nat -> List Val} {b : Nat} {x : List Val} {v : Nat} (h : b ∉ vB (uH d v)) : zJ2 d (zX6 val b x) v = zJ2 d val v := by
 simp only [uH, zQt, List.mem_append, not_or] at h
 simp only [zJ2, zVl h.1, zJK h.2]
theorem zZL {d : zQr} {val : Nat -> List Val} {x : List Val} {i : Nat} {h : zQy} {a : Addr} (hn : (vB (zXf d)).Nodup) (hl : Low d) (hi : d.rh[i]? = some h) (ha : h.s.a = some a) :
  zQa d (zX6 val a.block x) = { zQa d val with recs := (zQa d val).recs.modify i fun r => { r with v := x } } := by
 obtain ⟨h1, h2⟩ := zKW hn hl
 have hm : a.block ∈ vB d.rh := List.mem_flatMap.2 ⟨h, List.mem_of_getElem? hi, by simp [zQb, ha]⟩
 simp only [zQa, map_set h1 hi ha rfl, Dsk.mk.injEq, true_and, and_true]
 funext v
 exact zKv (h2 v _ hm)
theorem zVt {d : zQr} {val : Nat -> List Val} {x : List Val} {u i : Nat} {h : zQy} {a : Addr} (hn : (vB (zXf d)).Nodup) (hl : Low d) (hu : u < 4) (hi : (d.ah u)[i]? = some h) (ha : h.s.a = some a) :
  zQa d (zX6 val a.block x) = (zQa d val).setU u { (zQa d val).us u with ap := ((zQa d val).us u).ap.modify i fun r => { r with v := x } } := by
 obtain ⟨h1, h2⟩ := xZm hn hl hu
 obtain ⟨g1, g2⟩ := zKW hn hl
 have hm0 : a.block ∈ vB (d.ah u) := List.mem_flatMap.2 ⟨h, List.mem_of_getElem? hi, by simp [zQb, ha]⟩
 have hm : a.block ∈ vB (uH d u) := by rw [uH, zQt]; exact List.mem_append_right _ hm0
 have hr : a.block ∉ vB d.rh := fun hx => g2 u _ hx hm
 rw [uH, zQt] at h1
 obtain ⟨k1, k2, k3⟩ := List.nodup_append.1 h1
 have hc : a.block ∉ vB (chH (d.ch u)) := fun hx => k3 _ hx _ hm0 rfl
 simp only [zQa, zJK hr, Dsk.setU, Dsk.mk.injEq, true_and, and_true]
 funext v
 by_cases e : v = u
 ·subst e
  simp only [if_true, zJ2, zVl hc, map_set k2 hi ha rfl]
 ·simp only [if_neg e]; exact zKv (h2 v e _ hm)
end Go.Proofs.YtcihcbfcgjepfaaGreatDoor
/- Desks: how the program's desk lies in memory; its mutex; entering and leaving; modes. No condition but those stated. -/
set_option maxRecDepth 100000
namespace Go.Proofs.YtcihcbfcgjepfaaGreatDoor
open Go.Sh Go.RowKit Tryz
variable {w w' : World} {d d' : zQr} {val : Nat -> List Val} {mu : Int}
theorem bu32 : prog.underlying 32 = some (.pointer 93) := by kernel_rfl
theorem xXV : prog.underlying 88 = some (.map 3 133) := by kernel_rfl
theorem xZd : prog.underlying 80 = some (.map 3 3) := by kernel_rfl
theorem yYn : prog.underlying 23 = some (.slice 77) := by kernel_rfl
def zQZ (mu : Int) (d : zQr) : Array Value := #[.int .i32 mu, .int .u32 0, .int .i64 d.page, .slice d.fs.a d.fs.len d.fs.cap, .slice d.rs.a d.rs.len d.rs.cap,
 .int .i64 (d.mode 0), .int .i64 (d.at_ 0), .map (some (d.C 0)), .slice (d.asv 0).a (d.asv 0).len (d.asv 0).cap,
 .int .i64 (d.mode 1), .int .i64 (d.at_ 1), .map (some (d.C 1)), .slice (d.asv 1).a (d.asv 1).len (d.asv 1).cap,
 .int .i64 (d.mode 2), .int .i64 (d.at_ 2), .map (some (d.C 2)), .slice (d.asv 2).a (d.asv 2).len (d.asv 2).cap,
 .int .i64 (d.mode 3), .int .i64 (d.at_ 3), .map (some (d.C 3)), .slice (d.asv 3).a (d.asv 3).len (d.asv 3).cap, .map (some d.L)]
structure zQG (w : World) (d : zQr) (val : Nat -> List Val) : Prop where
 fl : zQj w 38 4 d.fs (d.flds.flatMap zKS)
 rw_ : zQj w 77 2 d.rs (d.rh.flatMap zJF)
 aw : ∀ u, u < 4 -> zQj w 77 2 (d.asv u) ((d.ah u).flatMap zJF)
 mp : d.sd = false -> ∀ u, u < 4 -> zQ8 w zXu chV (d.C u) (d.ch u)
 ml : d.sd = true -> ∀ u, u < 4 -> zQj w 136 5 (d.cs u) ((d.ch u).flatMap chC)
 lm : ∃ l, zQ8 w zXu zXu d.L l /\ ∀ k, AL.get l k = (d.lk k).map fun v => if d.sd then v + 1 else v
 vr : ∀ h ∈ zXf d, zQj w 28 3 h.s ((hv val h).flatMap zXH)
 low : Low d
 nd : (vB (zXf d)).Nodup
 oS : d.o d.S = some .S
 oL : d.o d.L = some .L
 oC : d.sd = false -> ∀ u, u < 4 -> d.o (d.C u) = some (.C u)
 oK : d.sd = true -> ∀ u, u < 4 -> ∀ b ∈ zQb (d.cs u), d.o b = some (.C u)
 oF : ∀ b ∈ zQb d.fs, d.o b = some .F
 oR : ∀ b ∈ zQb d.rs, d.o b = some .R
 oA : ∀ u, u < 4 -> ∀ b ∈ zQb (d.asv u), d.o b = some (.A u)
 oV : ∀ b ∈ vB (zXf d), d.o b = some .V
 lt : ∀ b, d.o b ≠ none -> b < w.heap.size
structure zQh (w : World) (d : zQr) (mu : Int) (val : Nat -> List Val) : Prop where
 st : w.heap[d.S]? = some (.cells (zQZ mu d) 93)
 bd : zQG w d val
 sd : d.sd = false
theorem zQh.mp {w : World} {d : zQr} {mu : Int} {val : Nat -> List Val} (h : zQh w d mu val) {u : Nat} (hu : u < 4) : zQ8 w zXu chV (d.C u) (d.ch u) := h.bd.mp h.sd u hu
theorem zQh.lm {w : World} {d : zQr} {mu : Int} {val : Nat -> List Val} (h : zQh w d mu val) : ∃ l, zQ8 w zXu zXu d.L l /\ ∀ k, AL.get l k = d.lk k := by
 obtain ⟨l, h1, h2⟩ := h.bd.lm
 exact ⟨l, h1, fun k => by rw [h2, h.sd]; cases d.lk k <;> rfl⟩
def zQr.ptr (d : zQr) : Value := .pointer (some ⟨d.S, 0, none⟩)
theorem zQG.fr {B : Nat -> Prop} (h : zQG w d val) (hf : Fr B w w') (hn : ∀ b κ, d.o b = some κ -> κ ≠ .S -> ¬ B b) : zQG w' d val where
 fl := h.fl.fr hf fun b hb => hn b _ (h.oF b hb) (by simp)
 rw_ := h.rw_.fr hf fun b hb => hn b _ (h.oR b hb) (by simp)
 aw := fun u hu => (h.aw u hu).fr hf fun b hb => hn b _ (h.oA u hu b hb) (by simp)
 mp := fun e u hu => (h.mp e u hu).fr hf (hn _ _ (h.oC e u hu) (by simp))
 ml := fun e u hu => (h.ml e u hu).fr hf fun b hb => hn b _ (h.oK e u hu b hb) (by simp)
 lm := let ⟨l, h1, h2⟩ := h.lm; ⟨l, h1.fr hf (hn _ _ h.oL (by simp)), h2⟩
 vr := fun x hx => (h.vr x hx).fr hf fun b hb => hn b _ (h.oV b (zXk hx hb)) (by simp)
 low := h.low
 nd := h.nd
 oS := h.oS
 oL := h.oL
 oC := h.oC
 oK := h.oK
 oF := h.oF
 oR := h.oR
 oA := h.oA
 oV := h.oV
 lt := fun b hb => Nat.lt_of_lt_of_le (h.lt b hb) hf.size
theorem zQh.fr {B : Nat -> Prop} (h : zQh w d mu val) (hf : Fr B w w') (hn : ∀ b, d.o b ≠ none -> ¬ B b) : zQh w' d mu val :=
 ⟨hf.blk h.st (hn _ (by rw [h.bd.oS]; simp)), h.bd.fr hf fun b κ hb _ => hn b (by rw [hb]; simp), h.sd⟩
theorem zQh.pu (h : zQh w d mu val) (hp : Pu w w') : zQh w' d mu val := h.fr (Fr.pu hp : Fr (fun _ => False) w w') fun _ _ h => h
theorem zQh.cell (h : zQh w d mu val) (o : Nat) : w.cell? ⟨d.S, o, none⟩ = (zQZ mu d)[o]? := zQo h.st o
theorem zQh.cellA (h : zQh w d mu val) (o : Nat) : w.cell? ((⟨d.S, 0, none⟩ : Addr).add o) = (zQZ mu d)[o]? := by rw [zQe, Nat.zero_add]; exact h.cell o
abbrev uA (d : zQr) (u : Nat) : Addr := ⟨d.S, 5 + u * 4, none⟩
theorem zQh.cellU (h : zQh w d mu val) {u : Nat} (hu : u < 4) (o : Nat) : w.cell? ((uA d u).add o) = (zQZ mu d)[5 + u * 4 + o]? := by rw [zQe]; exact h.cell _
theorem zYs {u : Nat} (hu : u < 4) : (zQZ mu d)[5 + u * 4 + 0]? = some (.int .i64 (d.mode u)) := by
 rcases (by omega : u = 0 ∨ u = 1 ∨ u = 2 ∨ u = 3) with rfl | rfl | rfl | rfl <;> rfl
theorem zVK {u : Nat} (hu : u < 4) : (zQZ mu d)[5 + u * 4 + 1]? = some (.int .i64 (d.at_ u)) := by
 rcases (by omega : u = 0 ∨ u = 1 ∨ u = 2 ∨ u = 3) with rfl | rfl | rfl | rfl <;> rfl
theorem xQS {u : Nat} (hu : u < 4) : (zQZ mu d)[5 + u * 4 + 2]? = some (.map (some (d.C u))) := by
 rcases (by omega : u = 0 ∨ u = 1 ∨ u = 2 ∨ u = 3) with rfl | rfl | rfl | rfl <;> rfl
theorem yQ9 {u : Nat} (hu : u < 4) : (zQZ mu d)[5 + u * 4 + 3]? = some (.slice (d.asv u).a (d.asv u).len (d.asv u).cap) := by
 rcases (by omega : u = 0 ∨ u = 1 ∨ u = 2 ∨ u = 3) with rfl | rfl | rfl | rfl <;> rfl
theorem zVx {u : Nat} (hu : u < 4) (m : Int) : (zQZ mu d).setIfInBounds (5 + u * 4) (.int .i64 m) = zQZ mu (d.withMode u m) := by
 rcases (by omega : u = 0 ∨ u = 1 ∨ u = 2 ∨ u = 3) with rfl | rfl | rfl | rfl <;> rfl
theorem zJ1 {u : Nat} (hu : u < 4) (m : Int) : (zQZ mu d).setIfInBounds (5 + u * 4 + 1) (.int .i64 m) = zQZ mu (d.withAt u m) := by
 rcases (by omega : u = 0 ∨ u = 1 ∨ u = 2 ∨ u = 3) with rfl | rfl | rfl | rfl <;> rfl
theorem zQh.own (h : zQh w d mu val) {mu' : Int} {o : Nat} {v : Value} (ho : o < 22) {K : World -> Prop} (hc : (zQZ mu d).setIfInBounds o v = zQZ mu' d') (hS : d'.S = d.S) (hsd : d'.sd = d.sd) (hb : ∀ x, zQG x d val -> zQG x d' val)
  (hK : ∀ x, zQh x d' mu' val -> Fr (· = d.S) w x -> x.heap.size = w.heap.size -> K x) : st1 ⟨d.S, o, none⟩ v w K := by
 refine zQv h.st ho fun x hx hbx => ?_
 have hf : Fr (· = d.S) w x := by rw [hx]; exact Fr.cell w _ _ _
 refine hK x ⟨by rw [hS, hbx, hc], hb x (h.bd.fr hf fun b κ hb hne e => ?_), by rw [hsd, h.sd]⟩ hf (by rw [hx]; simp)
 rw [show b = d.S from e, h.bd.oS] at hb
 exact hne (Option.some.inj hb).symm
theorem zQG.same (h : zQG w d val) (m a : Nat -> Int) : zQG w { d with mode := m, at_ := a } val := ⟨h.fl, h.rw_, h.aw, h.mp, h.ml, h.lm, h.vr, h.low, h.nd, h.oS, h.oL, h.oC, h.oK, h.oF, h.oR, h.oA, h.oV, h.lt⟩
structure zQ4 (w w' : World) (d d' : zQr) (mu : Int) (val' : Nat -> List Val) : Prop where
 sys : zQh w' d' mu val'
 fr : Fr (fun b => d.o b ≠ none) w w'
 own : ∀ b, d'.o b ≠ none -> d.o b ≠ none ∨ w.heap.size <= b
 ptr : d'.S = d.S
theorem zQ4.refl (h : zQh w d mu val) : zQ4 w w d d mu val := ⟨h, Fr.refl _ _, fun _ h => .inl h, rfl⟩
theorem zQ4.pu (h : zQh w d mu val) (hp : Pu w w') : zQ4 w w' d d mu val := ⟨h.pu hp, Fr.pu hp, fun _ h => .inl h, rfl⟩
theorem zQ4.trans {w'' : World} {d'' : zQr} {mu' : Int} {val' val'' : Nat -> List Val} (h : zQ4 w w' d d' mu val') (k : zQ4 w' w'' d' d'' mu' val'') : zQ4 w w'' d d'' mu' val'' := by
 refine ⟨k.sys, h.fr.trans k.fr fun b hb hlt => (h.own b hb).resolve_right (by omega), fun b hb => ?_, k.ptr.trans h.ptr⟩
 rcases k.own b hb with h1 | h1
 ·exact h.own b h1
 ·exact .inr (Nat.le_trans h.fr.size h1)
theorem zQ4.putU {val' : Nat -> List Val} {w'' : World} (h : zQ4 w w' d d' mu val') (hp : Pu w' w'') : zQ4 w w'' d d' mu val' := h.trans (zQ4.pu h.sys hp)
theorem disable (w : World) : (callFunc 168 #[]).run prog w = .ok (.value (.tuple #[])) w := run_call_mark0 Tryz.func168 (by kernel_rfl) (by kernel_rfl) (by kernel_rfl) .disable (by kernel_rfl) w
theorem enable (w : World) : (callFunc 170 #[]).run prog w = .ok (.value (.tuple #[])) w := run_call_mark0 Tryz.func170 (by kernel_rfl) (by kernel_rfl) (by kernel_rfl) .enable (by kernel_rfl) w
theorem acquire (a : Addr) (w : World) : (callFunc 171 #[.pointer (some a)]).run prog w = .ok (.value (.tuple #[])) w := run_call_marked Tryz.func171 (by kernel_rfl) (by kernel_rfl) (by kernel_rfl) .acquire (by kernel_rfl) a w
theorem yVO (a : Addr) (w : World) : (callFunc 173 #[.pointer (some a)]).run prog w = .ok (.value (.tuple #[])) w := run_call_marked Tryz.func173 (by kernel_rfl) (by kernel_rfl) (by kernel_rfl) .releaseMerge (by kernel_rfl) a w
theorem mu1 : prog.underlying 202 = some (.pointer 85) := by kernel_rfl
theorem mu2 : prog.underlying 206 = some .unsafePointer := by kernel_rfl
theorem mu3 : (prog.info? 85).map (fun i => decide (i.size = 0)) = some false := by kernel_rfl
theorem muLock {a : Addr} {w : World} (hc : w.cell? a = some (.int .i32 0)) (hz : w.frozen? a = false) :
  Calls prog 85 #[.pointer (some a)] w fun e w' => e = .returned (.tuple #[]) /\ w' = w.setCell a (.int .i32 1) := by
 refine yJO _ w _ ?_
 refine Calls.mono (R := fun e w' => e = .returned (.tuple #[]) /\ w' = w.setCell a (.int .i32 1)) ?_ fun e w' h => ⟨h.1, rfl, h.2⟩
 refine yXF _ w _ ?_
 refine ⟨w, disable w, true, w.setCell a (.int .i32 1), run_call_cas_hit Tryz.func169 (by kernel_rfl) (by kernel_rfl) (by kernel_rfl) .i32 (by kernel_rfl) hc hz, ?_⟩
 have hc' : (w.setCell a (.int .i32 1)).cell? a = some (.int .i32 1) := World.cell?_setCell_same _ _ _ hc
 exact ⟨_, enable _, _, _, run_convert_to_unsafe mu1 mu2 mu3 hc', _, acquire a _, rfl, rfl⟩
theorem yVo {a : Addr} {w : World} (hc : w.cell? a = some (.int .i32 1)) (hz : w.frozen? a = false) (u : FrameMode) :
  CallsD prog 86 #[.pointer (some a)] u w fun e u' w' => u' = u /\ e = .returned (.tuple #[]) /\ w' = w.setCell a (.int .i32 0) := by
 refine yZi _ w (fun e w' => e = .returned (.tuple #[]) /\ w' = w.setCell a (.int .i32 0)) u ?_
 refine Calls.mono (R := fun e w' => e = .returned (.tuple #[]) /\ w' = w.setCell a (.int .i32 0)) ?_ fun e w' h => ⟨h.1, rfl, h.2⟩
 refine yXT _ w _ ?_
 refine ⟨1, hc, _, _, run_convert_to_unsafe mu1 mu2 mu3 hc, _, yVO a _, _, disable _, 0, w.setCell a (.int .i32 0),
  run_call_add Tryz.func174 (by kernel_rfl) (by kernel_rfl) (by kernel_rfl) .i32 (by kernel_rfl) hc hz (by simp [go_sem]; rfl), w.setCell a (.int .i32 0), enable _, rfl, rfl⟩
theorem zQh.setMu (h : zQh w d mu val) (m : Int) : zQh (w.setCell ⟨d.S, 0, none⟩ (.int .i32 m)) d m val := by
 have hf := Fr.cell w d.S 0 (.int .i32 m)
 refine ⟨?_, h.bd.fr hf fun b κ hb hne e => ?_, h.sd⟩
 ·rw [zJC h.st 0 (.int .i32 m)]; rfl
 ·rw [show b = d.S from e, h.bd.oS] at hb
  exact hne (Option.some.inj hb).symm
def xXo (d : zQr) : Value := .func (.func 86) #[d.ptr] #[]
def zXw (d : zQr) : Deferred := { target := .fn (.func 86) #[], args := #[d.ptr] }
def uV (d : zQr) (u : Int) : Value := .pointer (if isU u = true then some (uA d u.toNat) else none)
theorem yK0 (h : zQh w d 0 val) (u : Int) :
  Calls prog 47 #[d.ptr, .int .i64 u] w fun e w' => e = .returned (.tuple #[uV d u, xXo d, .int .i64 (uC u)]) /\ zQh w' d 1 val /\ Fr (· = d.S) w w' /\ w'.heap.size = w.heap.size := by
 refine yKV _ u w _ ⟨false, w, zXR bu32 _ _ _ w, ?_⟩
 show Calls prog 85 #[.pointer (some ⟨d.S, 0, none⟩)] w _
 refine Calls.mono (muLock (by rw [h.cell]; rfl) (zKk h.st 0)) ?_
 rintro e w1 ⟨rfl, hw1⟩
 have h1 : zQh w1 d 1 val := by rw [hw1]; exact h.setMu 1
 have hf1 : Fr (· = d.S) w w1 := by rw [hw1]; exact Fr.cell w _ _ _
 have hs1 : w1.heap.size = w.heap.size := by rw [hw1]; simp
 have fin : ∀ {w2 : World}, Pu w1 w2 -> w2.heap = w1.heap -> zQh w2 d 1 val /\ Fr (· = d.S) w w2 /\ w2.heap.size = w.heap.size := fun {w2} hp hh => ⟨h1.pu hp, hf1.trans (Fr.pu hp : Fr (· = d.S) w1 w2) fun i hi _ => hi, by rw [hh]; exact hs1⟩
 refine ⟨rfl, Br.of (fun c1 => zQf fun w2 hp2 hh2 => ?_) (fun c1 => Br.of (fun c2 => zQf fun w2 hp2 hh2 => ?_) (fun c2 => zQf fun w2 hp2 hh2 => ?_))⟩
 ·have c1 := zQn c1
  have hu : isU u = false := by simp [isU]; omega
  exact ⟨by simp only [uV, uC, hu]; rfl, fin hp2 hh2⟩
 ·have c2 := zQn c2
  have hu : isU u = false := by simp [isU]; omega
  exact ⟨by simp only [uV, uC, hu]; rfl, fin hp2 hh2⟩
 ·have c1 := zQg c1
  have c2 := zQg c2
  have hu : isU u = true := by simp [isU]; omega
  refine ⟨by omega, by omega, ?_, fin hp2 hh2⟩
  simp only [uV, uC, hu, if_true]
  rw [zQe, zQe]
  rfl
theorem yWD (h : zQh w d 1 val) {K : World -> Prop} (hK : ∀ w', zQh w' d 0 val -> Fr (· = d.S) w w' -> w'.heap.size = w.heap.size -> K w') : zQd prog [zXw d] w K := by
 show yV2 prog (zXw d) w _
 show CallsD prog 86 #[.pointer (some ⟨d.S, 0, none⟩)] .returning w _
 refine CallsD.mono (yVo (by rw [h.cell]; rfl) (zKk h.st 0) .returning) ?_
 rintro e u' w' ⟨rfl, rfl, rfl⟩
 exact ⟨⟨_, rfl⟩, rfl, hK _ (h.setMu 0) (Fr.cell w _ _ _) (by simp)⟩
theorem zQW {w0 : World} {d0 : zQr} (h : zQ4 w0 w d0 d 1 val) {K : World -> Prop} (hK : ∀ w', zQ4 w0 w' d0 d 0 val -> Fr (· = d.S) w w' -> w'.heap.size = w.heap.size -> K w') : zQd prog [zXw d] w K :=
 yWD h.sys fun w' h' hf hs => hK w' (h.trans ⟨h', hf.mono fun i hi _ => by rw [show i = d.S from hi, h.sys.bd.oS]; simp, fun _ h => .inl h, rfl⟩) hf hs
theorem zQ4.enter {w1 : World} (h : zQh w d 0 val) (h1 : zQh w1 d 1 val) (hf : Fr (· = d.S) w w1) : zQ4 w w1 d d 1 val :=
 ⟨h1, hf.mono fun i hi _ => by rw [show i = d.S from hi, h.bd.oS]; simp, fun _ h => .inl h, rfl⟩
theorem zQS {u : Int} (h : isU u = true) : ∃ n : Nat, u = (n : Int) /\ n < 4 := by
 simp [isU] at h
 exact ⟨u.toNat, by omega, by omega⟩
theorem zJW {u : Int} (h : (uC u != 0) = true) : ¬ isU u = true := by
 intro hu; simp [uC, hu] at h
theorem zJM {u : Int} (h : (uC u != 0) = false) : isU u = true := by
 cases hu : isU u with
 | true => rfl
 | false => simp [uC, hu] at h
theorem zKL {u : Nat} (h : u < 4) : (if isU (u : Int) = true then some (uA d (u : Int).toNat) else none) = some (uA d u) := by
 have : isU (u : Int) = true := by simp [isU]; omega
 simp [this]
theorem zX0 {u : Nat} : ((zQa d val).us u).ap.length = (d.ah u).length := by simp [zQa, zJ2]
theorem zVc {u : Nat} : ((zQa d val).us u).ch.length = (d.ch u).length := by simp [zQa, zJ2]
theorem zQh.as_len (h : zQh w d mu val) {u : Nat} (hu : u < 4) : (d.asv u).len = (d.ah u).length := (h.bd.aw u hu).len zQk (by decide)
theorem zYp (h : zQh w d mu val) {u : Nat} (hu : u < 4) : Calls prog 48 #[.pointer (some (uA d u))] w fun e w' => e = .returned (.bool ((zQa d val).us u).emp) /\ w' = w := by
 refine yKG _ w _ ⟨some (d.C u), by rw [h.cellU hu]; exact xQS hu, _, w, (h.mp hu).len rfl xXV, Br.of (fun c => ?_) (fun c => ?_)⟩
 ·refine ⟨d.asv u, by rw [h.cellU hu]; exact yQ9 hu, ?_, rfl⟩
  have hc : (d.ch u).length = 0 := by have := zQ6 c; omega
  rw [h.as_len hu, Usr.emp, zX0, zVc, hc]
  congr 2
  by_cases e : (d.ah u).length = 0
  ·simp [e]
  ·simp [e]
 ·have hc : (d.ch u).length ≠ 0 := by have := zQm c; omega
  refine ⟨?_, rfl⟩
  rw [Usr.emp, zX0, zVc, decide_eq_false (by omega)]
theorem yV3 (h : zQh w d mu val) {u : Nat} (hu : u < 4) : Calls prog 103 #[.pointer (some (uA d u))] w fun e w' => e = .returned (.bool ((zQa d val).us u).rows) /\ w' = w := by
 have hm : w.cell? (uA d u) = some (.int .i64 (d.mode u)) := by
  have := h.cellU hu 0
  rw [yQM] at this
  rw [this]; exact zYs hu
 have e : ((zQa d val).us u).rows = (decide (d.mode u = 1) || decide (d.mode u = 2)) := rfl
 rw [e]
 refine yZL _ w _ ⟨_, hm, Br.of (fun c => ⟨?_, rfl⟩) (fun c => ⟨_, hm, ?_, rfl⟩)⟩
 ·rw [decide_eq_true (zQ6 c)]; rfl
 ·have c := zQm c
  rw [decide_eq_false c, Bool.false_or]
  rfl
theorem xQl (h : zQh w d 0 val) (u m : Int) : Calls prog 14 #[d.ptr, .int .i64 u, .int .i64 m] w fun e w' => e = .returned (.int .i64 (modeC u m (zQa d val))) /\ ∃ d', zQ4 w w' d d' 0 val /\ zQa d' val = modeS u m (zQa d val) := by
 refine yWi _ u m w _ ?_
 refine Calls.mono (yK0 h u) ?_
 rintro e w1 ⟨rfl, h1, hf1, _⟩
 have L1 := zQ4.enter h h1 hf1
 have bad : ∀ (n : Int), n ≠ 0 -> modeC u m (zQa d val) = n -> zQd prog [zXw d] w1 fun w' => Ending.returned (.int .i64 n) = .returned (.int .i64 (modeC u m (zQa d val))) /\ ∃ d', zQ4 w w' d d' 0 val /\ zQa d' val = modeS u m (zQa d val) := fun n hn hC =>
  zQW L1 fun w' hL _ _ => ⟨by rw [hC], d, hL, by rw [modeS, hC, if_neg hn]⟩
 refine ⟨_, _, _, rfl, Br.of (fun c => ?_) (fun c => ?_)⟩
 ·have hu := zJW c
  have hC : modeC u m (zQa d val) = 1 := by rw [modeC, if_pos hu]
  have e : uC u = 1 := by rw [uC, if_neg hu]
  rw [e]
  exact bad 1 (by decide) hC
 have hu := zJM c
 refine Br.of (fun c1 => bad 1 (by decide) (by rw [modeC, if_neg (by simp [hu]), if_pos (.inl (zQn c1))])) (fun c1 => Br.of (fun c2 => bad 1 (by decide) (by rw [modeC, if_neg (by simp [hu]), if_pos (.inr (zQn c2))])) (fun c2 => ?_))
 have c1 := zQg c1
 have c2 := zQg c2
 obtain ⟨n, rfl, hn⟩ := zQS hu
 rw [zKL hn]
 refine Calls.mono (zYp h1 hn) ?_
 rintro e w2 ⟨rfl, rfl⟩
 refine ⟨_, rfl, Br.of (fun c3 => bad 9 (by decide) ?_) (fun c3 => ?_)⟩
 ·rw [modeC, if_neg (by simp [hu]), if_neg (by omega), if_pos (by simpa using c3)]
 have hC : modeC (n : Int) m (zQa d val) = 0 := by
  have c3 : ((zQa d val).us n).emp = true := by simpa using c3
  rw [modeC, if_neg (by simp [hu]), if_neg (by omega), if_neg (by rw [zQL, c3]; simp)]
 rw [zQ9]
 refine h1.own (d' := d.withMode n m) (mu' := 1) (by omega) (zVx hn m) rfl rfl (fun x hb => hb.same _ _) fun w3 h3 hf3 hs3 => ?_
 have L3 : zQ4 w w3 d (d.withMode n m) 1 val := L1.trans ⟨h3, hf3.mono fun i hi _ => by rw [show i = d.S from hi, h.bd.oS]; simp, fun _ h => .inl h, rfl⟩
 exact zQW L3 fun w' hL _ _ => ⟨by rw [hC], _, hL, by rw [modeS, if_pos hC, zKQ, zQL]⟩
end Go.Proofs.YtcihcbfcgjepfaaGreatDoor
/- Desks: records and fields copied; a new desk. No condition but those stated. -/
namespace Go.Proofs.YtcihcbfcgjepfaaGreatDoor
open Go.Sh Go.RowKit Tryz
variable {w w' : World} {d d' : zQr} {val : Nat -> List Val} {mu : Int}
theorem bu75 : prog.underlying 75 = some (.slice 28) := by kernel_rfl
theorem bu22 : prog.underlying 22 = some (.slice 38) := by kernel_rfl
theorem yJj : (prog.info? 28).map (fun i => (i.zero, i.size, i.bytes)) = some (some (.agg #[.int .i64 0, .int .i64 0, .string ⟨#[]⟩]), 3, 32) := by kernel_rfl
theorem yWn : (prog.info? 38).map (fun i => (i.zero, i.size, i.bytes)) = some (some (.agg #[.string ⟨#[]⟩, .int .i64 0, .int .i64 0, .bool false]), 4, 40) := by kernel_rfl
theorem zJh : (prog.info? 77).map (fun i => (i.zero, i.size, i.bytes)) = some (some (.agg #[.bool false, .slice none 0 0]), 2, 32) := by kernel_rfl
theorem yQw : zXr prog 77 = 2 := by kernel_rfl
theorem yJC : zXr prog 133 = 4 := by kernel_rfl
theorem zKR : zXr prog 28 = 3 := by kernel_rfl
theorem yVE {s : SV} {l : List Val} (h : RdV w s l) (hb : l.length <= 1000000) : Calls prog 141 #[.slice s.a s.len s.cap] w fun e w' => ∃ q : SV, e = .returned (.slice q.a q.len q.cap) /\ zZO w w' q l /\ Pu w w' := by
 refine yZT s w _ ⟨_, w, zKf bu75 _ _ _ _ _ w, Br.of (fun hn => ?_) (fun hn => ?_)⟩
 ·have hl : l = [] := by
   cases l with
   | nil => rfl
   | cons v l =>
    obtain ⟨a, ha, _⟩ := h.get 0 v rfl
    rw [ha] at hn; cases hn
  subst hl
  exact ⟨⟨none, 0, 0⟩, rfl, zZO.nil w w, Pu.refl w⟩
 ·refine zX7 fun w1 hw1 => ?_
  have hp1 : Pu w w1 := by rw [hw1]; exact Pu.alloc w _
  have hr0 : zQj w1 28 3 ⟨some ⟨w.heap.size, 0, none⟩, 0, 0⟩ [] := ⟨rfl, .inr ⟨_, #[], rfl, by rw [hw1]; exact zX5 w _, Nat.le_refl _, Nat.zero_le _, rfl, rfl⟩⟩
  have h1 := h.pu hp1
  have hlen := h.len
  obtain ⟨t, w2, hr, hrow, hf, hblk, _⟩ := zQ2 (P := prog) (ty := 75) bu75 yJj rfl (by omega) hr0 (A := s.a) (m := s.len) (c := s.cap) (news := l.flatMap zXH) (by rw [zQu zQI, hlen]) (fun j x hx => by
   have hj : j < l.length * 3 := by have := (List.getElem?_eq_some_iff.1 hx).1; rwa [zQu zQI] at this
   obtain ⟨v, hv⟩ := zXg (l := l) (k := j / 3) (by omega)
   obtain ⟨a, ha, c0, c1, c2⟩ := h1.get _ v hv
   have h2 := zXP zQI hv (j % 3) (by omega)
   rw [show j / 3 * 3 + j % 3 = j by omega, hx] at h2
   refine ⟨a, ha, ?_⟩
   have e : a.add j = (a.add (j / 3 * 3)).add (j % 3) := by
    rw [Addr.add_add]; congr 1; omega
   rw [e]
   rcases (by omega : j % 3 = 0 ∨ j % 3 = 1 ∨ j % 3 = 2) with e2 | e2 | e2 <;> rw [e2] at h2 ⊢ <;> simp [zXH] at h2 <;> subst h2 <;> assumption) (fun x hx => by
    obtain ⟨y, _, hy⟩ := List.mem_flatMap.1 hx
    simp [zXH] at hy
    rcases hy with rfl | rfl | rfl <;> rfl) (by show (0 + s.len) * (32 + 1) <= _; omega)
  rw [List.nil_append] at hrow
  refine ⟨t, w2, hr, t, rfl, ⟨hrow, fun b hb => ?_⟩, hp1.andNew hf fun b hb => by simp [zQb] at hb; omega⟩
  rcases hblk b hb with h | h
  ·simp [zQb] at h; omega
  ·have := hp1.size; omega
theorem yXz {s : SV} {l : List Fld} (h : zXI w s l) (hb : l.length <= 1000000) : Calls prog 39 #[.slice s.a s.len s.cap] w fun e w' => ∃ q : SV, e = .returned (.slice q.a q.len q.cap) /\ zQj w' 38 4 q (l.flatMap zKS) /\ (∀ b ∈ zQb q, w.heap.size <= b) /\ Pu w w' := by
 have fl : ∀ f : Fld, (zKS f).length = 4 := fun f => rfl
 refine yW8 s w _ ⟨_, w, zKf bu22 _ _ _ _ _ w, Br.of (fun hn => ?_) (fun hn => ?_)⟩
 ·have hl : l = [] := by
   cases l with
   | nil => rfl
   | cons v l =>
    obtain ⟨a, ha, _⟩ := zZp h (i := 0) (f := v) rfl
    rw [ha] at hn; cases hn
  subst hl
  exact ⟨⟨none, 0, 0⟩, rfl, zQj.nil _ _ _, by simp [zQb], Pu.refl w⟩
 ·refine zX7 fun w1 hw1 => ?_
  have hp1 : Pu w w1 := by rw [hw1]; exact Pu.alloc w _
  have hr0 : zQj w1 38 4 ⟨some ⟨w.heap.size, 0, none⟩, 0, 0⟩ [] := ⟨rfl, .inr ⟨_, #[], rfl, by rw [hw1]; exact zX5 w _, Nat.le_refl _, Nat.zero_le _, rfl, rfl⟩⟩
  have h1 := h.pu hp1
  have hlen := h.len
  obtain ⟨t, w2, hr, hrow, hf, hblk, _⟩ := zQ2 (P := prog) (ty := 22) bu22 yWn rfl (by omega) hr0 (A := s.a) (m := s.len) (c := s.cap) (news := l.flatMap zKS) (by rw [zQu fl, hlen]) (fun j x hx => by
   have hj : j < l.length * 4 := by have := (List.getElem?_eq_some_iff.1 hx).1; rwa [zQu fl] at this
   obtain ⟨v, hv⟩ := zXg (l := l) (k := j / 4) (by omega)
   obtain ⟨a, ha, _, _, _, _, c0, c1, c2, c3⟩ := zZp h1 hv
   have h2 := zXP fl hv (j % 4) (by omega)
   rw [show j / 4 * 4 + j % 4 = j by omega, hx] at h2
   refine ⟨a, ha, ?_⟩
   have e : a.add j = (a.add (j / 4 * 4)).add (j % 4) := by
    rw [Addr.add_add]; congr 1; omega
   rw [e]
   rcases (by omega : j % 4 = 0 ∨ j % 4 = 1 ∨ j % 4 = 2 ∨ j % 4 = 3) with e2 | e2 | e2 | e2 <;> rw [e2] at h2 ⊢ <;> simp [zKS] at h2 <;> subst h2 <;> assumption) (fun x hx => by
    obtain ⟨y, _, hy⟩ := List.mem_flatMap.1 hx
    simp [zKS] at hy
    rcases hy with rfl | rfl | rfl | rfl <;> rfl) (by show (0 + s.len) * (40 + 1) <= _; omega)
  rw [List.nil_append] at hrow
  refine ⟨t, w2, hr, t, rfl, hrow, fun b hb => ?_, hp1.andNew hf fun b hb => by simp [zQb] at hb; omega⟩
  rcases hblk b hb with h | h
  ·simp [zQb] at h; omega
  ·have := hp1.size; omega
theorem zV9 {g : Bool} {s : SV} {l : List Val} (h : RdV w s l) (hb : l.length <= 1000000) : Calls prog 88 #[.agg #[.bool g, .slice s.a s.len s.cap]] w fun e w' => ∃ q : SV, e = .returned (.agg #[.bool g, .slice q.a q.len q.cap]) /\ zZO w w' q l /\ Pu w w' := by
 refine yKS _ _ w _ (alB fun w1 hp1 hb1 => alB fun w2 hp2 hb2 => zQf fun w3 hp3 _ => ?_)
 have b1 := hp3.blk (hp2.blk hb1)
 have b2 := hp3.blk hb2
 have hp := (hp1.trans hp2).trans hp3
 have z1 := hp1.size
 have z2 := hp2.size
 have z3 := hp3.size
 refine ⟨fun u => Pu w3 u, Pu.refl _, _, fun u hu => cl0 (hu.blk b1), _, fun u hu => cl (hu.blk b1) 1, (yVE (h.pu hp) hb).mono ?_⟩
 rintro e w4 ⟨q, rfl, hq, hp4⟩
 have l1 : w.heap.size < w1.heap.size := zQA hb1
 have l2 : w1.heap.size < w2.heap.size := zQA hb2
 refine ⟨q, rfl, hp4, zQl (hp4.blk b2) yQw.symm rfl rfl fun w5 hb5 hf5 hs5 => ⟨_, cl hb5 0, _, cl hb5 1, q, rfl, ?_, (hp.trans hp4).andNew hf5 fun i hi => by have hi : i = w1.heap.size := hi; omega⟩⟩
 exact (hq.fr hf5 fun i hi e => by have := hq.2 i hi; have e : i = w1.heap.size := e; omega).low (by omega)
structure zZs (w : World) (s : SV) (rs : List Rec) : Prop where
 len : s.len = rs.length
 get : ∀ i r, rs[i]? = some r -> ∃ a t, s.a = some a /\ w.cell? ((a.add (i * 2)).add 0) = some (.bool r.gone) /\ w.cell? ((a.add (i * 2)).add 1) = some (.slice t.a t.len t.cap) /\ RdV w t r.v
theorem zZs.pu {s : SV} {rs : List Rec} (h : zZs w s rs) (hp : Pu w w') : zZs w' s rs := ⟨h.len, fun i r hr => by
 obtain ⟨a, t, h1, h2, h3, h4⟩ := h.get i r hr
 exact ⟨a, t, h1, hp.cell h2, hp.cell h3, h4.pu hp⟩⟩
theorem zZs.of {s : SV} {rs : List Rec} (h : zXI w s rs) : zZs w s rs := ⟨h.len, fun i r hr => by
 obtain ⟨a, t, h1, _, h2, h3, h4⟩ := yVm h hr
 exact ⟨a, t, h1, h3, h4, RdV.of h2⟩⟩
def zXp (w : World) : List zQy -> List Rec -> Prop
 | [], [] => True
 | h :: hs, r :: rs => (h.g = r.gone /\ zQj w 28 3 h.s (r.v.flatMap zXH)) /\ zXp w hs rs
 | _, _ => False
theorem zXp.fr {B : Nat -> Prop} (hf : Fr B w w') : ∀ {hs : List zQy} {rs : List Rec}, zXp w hs rs -> (∀ b ∈ vB hs, ¬ B b) -> zXp w' hs rs
 | [], [], _, _ => trivial
 | h :: hs, r :: rs, ⟨⟨h1, h2⟩, h3⟩, hn => ⟨⟨h1, h2.fr hf fun b hb => hn b (by rw [zXd]; exact List.mem_append_left _ hb)⟩, zXp.fr hf h3 fun b hb => hn b (by rw [zXd]; exact List.mem_append_right _ hb)⟩
theorem zXp.push {h : zQy} {r : Rec} : ∀ {hs : List zQy} {rs : List Rec}, zXp w hs rs -> h.g = r.gone -> zQj w 28 3 h.s (r.v.flatMap zXH) -> zXp w (hs ++ [h]) (rs ++ [r])
 | [], [], _, h1, h2 => ⟨⟨h1, h2⟩, trivial⟩
 | x :: hs, y :: rs, ⟨a, b⟩, h1, h2 => ⟨a, zXp.push b h1 h2⟩
theorem zXp.len : ∀ {hs : List zQy} {rs : List Rec}, zXp w hs rs -> hs.length = rs.length
 | [], [], _ => rfl
 | x :: hs, y :: rs, ⟨_, b⟩ => by simp [zXp.len b]
structure zX3 (w0 w : World) (q : SV) (hs : List zQy) (rs : List Rec) : Prop where
 row : zQj w 77 2 q (hs.flatMap zJF)
 new : ∀ b ∈ zQb q, w0.heap.size <= b
 recs : zXp w hs rs
 vnew : ∀ b ∈ vB hs, w0.heap.size <= b /\ b ∉ zQb q
 nd : (vB hs).Nodup
theorem zX3.pu {w0 : World} {q : SV} {hs : List zQy} {rs : List Rec} (h : zX3 w0 w q hs rs) (hp : Pu w w') : zX3 w0 w' q hs rs := ⟨h.row.pu hp, h.new, h.recs.fr (Fr.pu hp : Fr (fun _ => False) w w') fun _ _ h => h, h.vnew, h.nd⟩
theorem zWE (s : SV) : (zQb s).Nodup := by unfold zQb; split <;> simp
theorem zVH (l : List zQy) (h : zQy) : vB (l ++ [h]) = vB l ++ zQb h.s := by simp [vB]
theorem zWw {s : SV} {rs : List Rec} (h : zZs w s rs) (hb : rs.length <= 100000) (hv : ∀ r ∈ rs, r.v.length <= 1000000) : Calls prog 40 #[.slice s.a s.len s.cap] w fun e w' => ∃ (q : SV) (hs : List zQy), e = .returned (.slice q.a q.len q.cap) /\ zX3 w w' q hs rs /\ Pu w w' := by
 have hlen := h.len
 refine yWv s w _ ?_
 refine zQz rs.length (fun k t w' => t.2 = (k : Int) /\ ∃ hs, zX3 w w' t.1 hs (rs.take k) /\ Pu w w') ⟨rfl, [], ⟨zQj.nil _ _ _, by simp [zQb], trivial, by simp [vB], by simp [vB]⟩, Pu.refl _⟩ ?_
 rintro k J ⟨q, t⟩ w1 hk ⟨ht, hs, hq, hp1⟩ hJ
 obtain rfl : t = (k : Int) := ht
 dsimp only
 have hq : zX3 w w1 q hs (rs.take k) := hq
 have hql := hq.row.len zQk (by decide)
 have hhl := hq.recs.len
 have htl := List.length_take_le k rs
 refine Br.of (fun d1 => ?_) (fun d1 => ?_)
 ·have hkn : k < rs.length := by have := zQn d1; omega
  obtain ⟨r, hr⟩ := zXg hkn
  obtain ⟨a, t, ha, c0, c1, hV⟩ := (h.pu hp1).get k r hr
  refine ⟨a, ha, by omega, by omega, r.gone, by rw [zQL]; exact c0, t, by rw [zQL]; exact c1, ?_⟩
  refine alB fun w2 hp2 hb2 => zQl hb2 yQw.symm rfl rfl fun w3 hb3 hf3 hs3 => ?_
  have hp3 : Pu w1 w3 := hp2.andNew hf3 fun i hi => by rw [show i = _ from hi]; exact Nat.le_refl _
  refine ⟨_, cl hb3 0, _, cl hb3 1, (zV9 (hV.pu hp3) (hv r (List.mem_of_getElem? hr))).mono ?_⟩
  rintro e w4 ⟨s', rfl, hs', hp4⟩
  refine ⟨_, s', rfl, alB fun w5 hp5 hb5 => ?_⟩
  have z1 := hp1.size
  have z3 := hp3.size
  have z4 := hp4.size
  have z5 := hp5.size
  have hp15 := (hp3.trans hp4).trans hp5
  have hq5 := hq.pu hp15
  have hlt5 : ∀ b ∈ zQb s', b < w4.heap.size := hs'.1.lt
  have hqlt : ∀ b ∈ zQb q, b < w1.heap.size := hq.row.lt
  obtain ⟨q', w6, hra, hrow6, hf6, hblk6, _⟩ := zQ2 (P := prog) (ty := 23) yYn zJh rfl (by omega) hq5.row (A := some ⟨w4.heap.size, 0, none⟩) (m := 1) (c := 1) (news := [.bool r.gone, .slice s'.a s'.len s'.cap]) rfl (fun j x hx => ⟨_, rfl, by rw [cl hb5]; simpa using hx⟩) (fun x hx => by simp at hx; rcases hx with rfl | rfl <;> rfl) (by show (q.len + 1) * (32 + 1) <= _; omega)
  refine ⟨q', w6, hra, ?_⟩
  rw [zQc (by omega) (by omega)]
  refine hJ _ _ hkn ⟨by simp, hs ++ [⟨r.gone, s'⟩], ⟨?_, fun b hb => ?_, ?_, fun b hb => ?_, ?_⟩, (hp1.trans hp15).andNew hf6 fun b hb => hq.new b hb⟩
  ·rw [List.flatMap_append, List.flatMap_singleton]; exact hrow6
  ·rcases hblk6 b hb with h1 | h1
   ·exact hq.new b h1
   ·omega
  ·rw [zQO hr]
   refine ((hq5.recs).fr hf6 fun b hb => (hq.vnew b hb).2).push rfl ((hs'.1.pu hp5).fr hf6 fun b hb hx => ?_)
   have := hs'.2 b hb
   have := hqlt b hx
   omega
  ·rw [zVH, List.mem_append] at hb
   have hq' : ∀ b, b ∈ zQb q' -> b ∈ zQb q ∨ w5.heap.size <= b := hblk6
   rcases hb with hb | hb
   ·have h1 := hq.vnew b hb
    refine ⟨h1.1, fun hx => ?_⟩
    rcases hq' b hx with h2 | h2
    ·exact h1.2 h2
    ·have : b < w5.heap.size := by
      obtain ⟨y, hy, hyb⟩ := List.mem_flatMap.1 hb
      have hrec : ∀ (hs : List zQy) (rs : List Rec), zXp w5 hs rs -> ∀ y ∈ hs, ∀ b ∈ zQb y.s, b < w5.heap.size := fun hs => by
       induction hs with
       | nil => intro rs _ y hy; cases hy
       | cons x hs ih => intro rs hR y hy b hb; cases rs with
        | nil => exact hR.elim
        | cons z rs =>
         rcases List.mem_cons.1 hy with rfl | hy
         ·exact hR.1.2.lt b hb
         ·exact ih rs hR.2 y hy b hb
      exact hrec _ _ hq5.recs y hy b hyb
     omega
   ·have h1 := hs'.2 b hb
    have h3 := hlt5 b hb
    refine ⟨by omega, fun hx => ?_⟩
    rcases hq' b hx with h2 | h2
    ·have := hqlt b h2; omega
    ·omega
  ·rw [zVH]
   refine List.nodup_append.2 ⟨hq.nd, zWE _, fun a ha b hb e => ?_⟩
   subst e
   have h1 := hs'.2 a hb
   obtain ⟨y, hy, hyb⟩ := List.mem_flatMap.1 ha
   have hrec : ∀ (hs : List zQy) (rs : List Rec), zXp w1 hs rs -> ∀ y ∈ hs, ∀ b ∈ zQb y.s, b < w1.heap.size := fun hs => by
    induction hs with
    | nil => intro rs _ y hy; cases hy
    | cons x hs ih => intro rs hR y hy b hb; cases rs with
     | nil => exact hR.elim
     | cons z rs =>
      rcases List.mem_cons.1 hy with rfl | hy
      ·exact hR.1.2.lt b hb
      ·exact ih rs hR.2 y hy b hb
   have := hrec _ _ hq.recs y hy a hyb
   omega
 ·have hkn : k = rs.length := by have := zQg d1; omega
  subst hkn
  rw [List.take_length] at hq
  exact ⟨q, hs, rfl, hq, hp1⟩
end Go.Proofs.YtcihcbfcgjepfaaGreatDoor
/- Desks: a record as a user sees it; a value of a record; the lock of a record. No condition but those stated. -/
namespace Go.Proofs.YtcihcbfcgjepfaaGreatDoor
open Go.Sh Go.RowKit Tryz
variable {w w' : World} {d d' : zQr} {val : Nat -> List Val} {mu : Int}
theorem zQh.page (h : zQh w d mu val) : w.cell? ((⟨d.S, 0, none⟩ : Addr).add 2) = some (.int .i64 d.page) := by rw [h.cellA]; rfl
theorem zQh.flds (h : zQh w d mu val) : w.cell? (((⟨d.S, 0, none⟩ : Addr).add 2).add 1) = some (.slice d.fs.a d.fs.len d.fs.cap) := by rw [zQe, zQe, h.cell]; rfl
theorem zQh.recs (h : zQh w d mu val) : w.cell? (((⟨d.S, 0, none⟩ : Addr).add 2).add 2) = some (.slice d.rs.a d.rs.len d.rs.cap) := by rw [zQe, zQe, h.cell]; rfl
theorem zQh.locks (h : zQh w d mu val) : w.cell? ((⟨d.S, 0, none⟩ : Addr).add 21) = some (.map (some d.L)) := by rw [h.cellA]; rfl
theorem zQh.uMode (h : zQh w d mu val) {u : Nat} (hu : u < 4) : w.cell? (uA d u) = some (.int .i64 (d.mode u)) := by
 have := h.cellU hu 0
 rw [yQM] at this
 rw [this]; exact zYs hu
theorem zQh.uAt (h : zQh w d mu val) {u : Nat} (hu : u < 4) : w.cell? ((uA d u).add 1) = some (.int .i64 (d.at_ u)) := by rw [h.cellU hu]; exact zVK hu
theorem zQh.uCh (h : zQh w d mu val) {u : Nat} (hu : u < 4) : w.cell? ((uA d u).add 2) = some (.map (some (d.C u))) := by rw [h.cellU hu]; exact xQS hu
theorem zQh.uAp (h : zQh w d mu val) {u : Nat} (hu : u < 4) : w.cell? ((uA d u).add 3) = some (.slice (d.asv u).a (d.asv u).len (d.asv u).cap) := by rw [h.cellU hu]; exact yQ9 hu
theorem zQh.rs_len (h : zQh w d mu val) : d.rs.len = d.rh.length := h.bd.rw_.len zQk (by decide)
theorem zV8 : Keys prog 3 zXu := yXa (q := .i64) (by kernel_rfl)
def h0 : zQy := ⟨false, ⟨none, 0, 0⟩⟩
def recV (h : zQy) : Value := .agg #[.bool h.g, .slice h.s.a h.s.len h.s.cap]
def chG (l : List Chg) (k : Int) : zQy × zQy := (AL.get l k).getD (h0, h0)
theorem yQB {b : Nat} {l : List Chg} (h : zQ8 w zXu chV b l) (k : Int) : (Instr.lookup 88 (.map (some b)) (.int .i64 k) true).run prog w = .ok (.tuple #[chV (chG l k), .bool (AL.get l k).isSome]) w := by
 have := h.look (P := prog) (t := 88) (kt := 3) (e := 133) zV8 xXV (z := .agg #[.bool false, .slice none 0 0, .bool false, .slice none 0 0]) (Tryz.zeroValue133 w) k true
 rw [show (.int .i64 k : Value) = zXu k from rfl, this]
 unfold chG
 cases AL.get l k <;> rfl
theorem yQp {b : Nat} {l : List (Int × Int)} (h : zQ8 w zXu zXu b l) (k : Int) : (Instr.lookup 80 (.map (some b)) (.int .i64 k) true).run prog w = .ok (.tuple #[.int .i64 ((AL.get l k).getD 0), .bool (AL.get l k).isSome]) w := by
 have := h.look (P := prog) (t := 80) (kt := 3) (e := 3) zV8 xZd (z := .int .i64 0) (Tryz.zeroValue3 w) k true
 rw [show (.int .i64 k : Value) = zXu k from rfl, this]
 cases AL.get l k <;> rfl
theorem zZk (val : Nat -> List Val) : ∀ (l : List Chg) (k : Int), AL.get (l.map (toC val)) k = (AL.get l k).map fun c => (toR val c.1, toR val c.2)
 | [], k => rfl
 | (a, b) :: l, k => by
  simp only [List.map_cons, toC, AL.get]
  by_cases e : a = k
  ·simp [e]
  ·simp only [e, if_false]; exact zZk val l k
def zXn (d : zQr) (u : Nat) (k : Int) : Option zQy := if k < 0 then (d.ah u)[(-k - 1).toNat]? else if k < 1 ∨ k > d.rh.length then none else match AL.get (d.ch u) k with
 | some c => some c.2
 | none => d.rh[(k - 1).toNat]?
theorem zJH (d : zQr) (val : Nat -> List Val) (u : Nat) (k : Int) : (zXn d u k).map (toR val) = seenR (zQa d val) u k := by
 unfold zXn seenR
 have e1 : ((zQa d val).us u).ap = (d.ah u).map (toR val) := rfl
 have e2 : ((zQa d val).us u).ch = (d.ch u).map (toC val) := rfl
 have e3 : (zQa d val).recs = d.rh.map (toR val) := rfl
 rw [e1, e2, e3, zZk, List.length_map]
 split
 ·rw [List.getElem?_map]
 ·split
  ·rfl
  ·cases AL.get (d.ch u) k with
   | none => simp [List.getElem?_map]
   | some c => rfl
theorem zYE {d : zQr} {u : Nat} (hu : u < 4) {k : Int} {x : zQy} (h : zXn d u k = some x) : x ∈ zXf d := by
 unfold zXn at h
 split at h
 ·exact zX8 hu (List.mem_of_getElem? h)
 ·split at h
  ·cases h
  ·split at h
   ·next c hc =>
    have := zJc hu (AL.get_mem hc)
    rw [← Option.some.inj h]; exact this.2
   ·exact zQK (List.mem_of_getElem? h)
theorem yW7 (h : zQh w d mu val) {u : Nat} (hu : u < 4) (k : Int) (ha : (d.ah u).length <= 1000000) (hr : d.rh.length <= 1000000) :
  Calls prog 49 #[d.ptr, .pointer (some (uA d u)), .int .i64 k] w fun e w' => e = .returned (.tuple #[recV ((zXn d u k).getD h0), .bool (zXn d u k).isSome]) /\ Pu w w' := by
 refine yJK _ _ k w _ (alB fun w1 hp1 hb1 => ?_)
 have h1 := h.pu hp1
 have hal := h.as_len hu
 have hrl := h.rs_len
 have fin : ∀ {w2 : World} (x : zQy) (b : Bool), Pu w1 w2 -> ((zXn d u k).getD h0 = x /\ (zXn d u k).isSome = b) -> stA prog 77 ⟨w.heap.size, 0, none⟩ #[.bool x.g, .slice x.s.a x.s.len x.s.cap] w2 fun w3 => ∃ bR0_0 : Bool, w3.cell? ((⟨w.heap.size, 0, none⟩ : Addr).add 0) = some (.bool bR0_0) /\
   ∃ lR0_1 : SV, w3.cell? ((⟨w.heap.size, 0, none⟩ : Addr).add 1) = some (.slice lR0_1.a lR0_1.len lR0_1.cap) /\ (Ending.returned (.tuple #[.agg #[.bool bR0_0, .slice lR0_1.a lR0_1.len lR0_1.cap], .bool b]) = .returned (.tuple #[recV ((zXn d u k).getD h0), .bool (zXn d u k).isSome]) /\ Pu w w3) := fun {w2} x b hp hx =>
  zQl (hp.blk hb1) yQw.symm rfl rfl fun w3 hb3 hf3 _ => ⟨_, cl hb3 0, _, cl hb3 1, by rw [hx.1, hx.2]; rfl, (hp1.trans hp).andNew hf3 fun i hi => by rw [show i = w.heap.size from hi]; exact Nat.le_refl _⟩
 refine Br.of (fun c => ?_) (fun c => ?_)
 ·have c := zQn c
  refine ⟨d.asv u, h1.uAp hu, ?_⟩
  rw [zQc (by omega) (by omega)]
  refine Br.of (fun c2 => ?_) (fun c2 => ?_)
  ·have c2 := zQn c2
   have hlt : (-k - 1).toNat < (d.ah u).length := by omega
   obtain ⟨x, hx⟩ := zXg hlt
   obtain ⟨a, ea, _, g0⟩ := (h1.bd.aw u hu).elem zQk hx (o := 0) (v := .bool x.g) rfl
   obtain ⟨a', ea', _, g1⟩ := (h1.bd.aw u hu).elem zQk hx (o := 1) (v := .slice x.s.a x.s.len x.s.cap) rfl
   obtain rfl : a = a' := by rw [ea] at ea'; exact Option.some.inj ea'
   have ew : IntKind.i64.wrap ((IntKind.i64.wrap (0 - k)) - 1) = -k - 1 := by rw [zQc (n := 0 - k) (by omega) (by omega), zQc (by omega) (by omega)]; omega
   refine ⟨d.asv u, h1.uAp hu, a, ea, ?_⟩
   rw [ew]
   refine ⟨by omega, by omega, x.g, g0, x.s, g1, fin x true (Pu.refl _) ?_⟩
   have : zXn d u k = some x := by rw [zXn, if_pos c, hx]
   rw [this]; exact ⟨rfl, rfl⟩
  ·have c2 := zQg c2
   have hn : zXn d u k = none := by rw [zXn, if_pos c, List.getElem?_eq_none]; omega
   refine Br.of (fun _ => fin h0 false (Pu.refl _) (by rw [hn]; exact ⟨rfl, rfl⟩)) (fun c3 => ?_)
   have := zQg c3; omega
 ·have c := zQg c
  refine Br.of (fun c1 => ?_) (fun c1 => ?_)
  ·have c1 := zQn c1
   exact fin h0 false (Pu.refl _) (by rw [zXn, if_neg c, if_pos (.inl c1)]; exact ⟨rfl, rfl⟩)
  have c1 := zQg c1
  refine ⟨d.rs, h1.recs, Br.of (fun c2 => ?_) (fun c2 => ?_)⟩
  ·have c2 := zQn c2
   exact fin h0 false (Pu.refl _) (by rw [zXn, if_neg c, if_pos (.inr (by omega))]; exact ⟨rfl, rfl⟩)
  have c2 := zQg c2
  have hx : zXn d u k = match AL.get (d.ch u) k with | some c => some c.2 | none => d.rh[(k - 1).toNat]? := by rw [zXn, if_neg c, if_neg (by omega)]
  refine ⟨some (d.C u), h1.uCh hu, _, (chG (d.ch u) k).1.s, _, (chG (d.ch u) k).2.s, _, w1, yQB (h1.mp hu) k, alB fun w2 hp2 hb2 => zQl hb2 yJC.symm rfl rfl fun w3 hb3 hf3 _ => ?_⟩
  have hp3 : Pu w1 w3 := hp2.andNew hf3 fun i hi => by rw [show i = w1.heap.size from hi]; exact Nat.le_refl _
  have h3 := h1.pu hp3
  refine Br.of (fun c4 => ?_) (fun c4 => ?_)
  ·obtain ⟨c, hc⟩ := Option.isSome_iff_exists.1 c4
   rw [hc] at hx
   have eg : chG (d.ch u) k = c := by rw [chG, hc]; rfl
   rw [eg] at hb3
   refine ⟨c.2.g, ?_, c.2.s, ?_, fin c.2 true hp3 (by rw [hx]; exact ⟨rfl, rfl⟩)⟩
   ·rw [zQe, zQe, zQo hb3]; rfl
   ·rw [zQe, zQe, zQo hb3]; rfl
  ·have hc : AL.get (d.ch u) k = none := by simpa using c4
   rw [hc] at hx
   have hlt : (k - 1).toNat < d.rh.length := by omega
   obtain ⟨x, hxx⟩ := zXg hlt
   rw [hxx] at hx
   obtain ⟨a, ea, _, g0⟩ := h3.bd.rw_.elem zQk hxx (o := 0) (v := .bool x.g) rfl
   obtain ⟨a', ea', _, g1⟩ := h3.bd.rw_.elem zQk hxx (o := 1) (v := .slice x.s.a x.s.len x.s.cap) rfl
   obtain rfl : a = a' := by rw [ea] at ea'; exact Option.some.inj ea'
   refine ⟨d.rs, h3.recs, a, ea, ?_⟩
   rw [zQc (by omega) (by omega)]
   exact ⟨by omega, by omega, x.g, g0, x.s, g1, fin x true hp3 (by rw [hx]; exact ⟨rfl, rfl⟩)⟩
end Go.Proofs.YtcihcbfcgjepfaaGreatDoor
/- Desks: what holds of a desk throughout, in plain words. No condition but those stated. -/
namespace Go.Proofs.YtcihcbfcgjepfaaGreatDoor
open Go.Sh Go.RowKit Tryz
structure Inv (σ : Dsk) : Prop where
 pg : zXm σ.page = true
 vf : zQV σ.flds = 0
 gr : ∀ r ∈ σ.recs, zQB σ.flds σ.page r = 0
 ga : ∀ u, u < 4 -> ∀ r ∈ (σ.us u).ap, zQB σ.flds σ.page r = 0
 gc : ∀ u, u < 4 -> ∀ c ∈ (σ.us u).ch, (zQB σ.flds σ.page c.2.1 = 0 /\ zQB σ.flds σ.page c.2.2 = 0) /\ 1 <= c.1 /\ c.1 <= σ.recs.length
 cn : ∀ u, u < 4 -> ((σ.us u).ch.map Prod.fst).Nodup
 at_ : ∀ u, u < 4 -> (σ.us u).at_ <= σ.recs.length /\ -(σ.us u).at_ <= (σ.us u).ap.length
 rw_ : ∀ u, u < 4 -> (σ.us u).rows = true -> (σ.us u).ap ≠ [] -> (σ.us u).ap.length = 1 /\ (σ.us u).at_ = -1
 nn : allN σ <= 300
 lr : ∀ k v, σ.lk k = some v -> 1 <= k /\ k <= σ.recs.length /\ 0 <= v /\ v < 4
theorem zQE {l : List Fld} (h : zQV l = 0) : l ≠ [] /\ l.all zQ0 = true /\ l.length <= 16 := by
 unfold zQV at h
 split at h
 ·cases h
 ·next h1 =>
  split at h
  ·cases h
  ·split at h
   ·cases h
   ·next h2 h3 => exact ⟨fun e => h1 (.inl e), by simpa using fun e => h1 (.inr e), by omega⟩
theorem zKw {f : Fld} (h : zQ0 f = true) : zWU f.kind /\ zWU f.width /\ f.name.size <= 10 := by
 unfold zQ0 zZa zKN at h
 simp only [Bool.and_eq_true, decide_eq_true_eq] at h
 obtain ⟨⟨⟨⟨_, h2⟩, _⟩, _⟩, h3⟩ := h
 refine ⟨?_, ?_, h2⟩ <;> unfold zWU <;> (repeat' split at h3) <;> (try simp only [Bool.and_eq_true, decide_eq_true_eq] at h3) <;> first | omega | cases h3
theorem zQ7 {l : List Fld} {p : Int} {r : Rec} (h : zQB l p r = 0) : r.v.length = l.length := by
 by_cases e : r.v.length = l.length
 ·exact e
 ·rw [zKy e] at h; cases h
theorem Inv.f16 {σ : Dsk} (h : Inv σ) : σ.flds.length <= 16 := (zQE h.vf).2.2
theorem Inv.fB {σ : Dsk} (h : Inv σ) {f : Fld} (hf : f ∈ σ.flds) : zQ0 f = true := List.all_eq_true.1 (zQE h.vf).2.1 f hf
theorem Inv.r300 {σ : Dsk} (h : Inv σ) : σ.recs.length <= 300 := Nat.le_trans (Nat.le_add_right _ _) h.nn
theorem Inv.a300 {σ : Dsk} (h : Inv σ) {u : Nat} (hu : u < 4) : (σ.us u).ap.length <= 300 := by
 have := h.nn
 unfold allN at this
 rcases (by omega : u = 0 ∨ u = 1 ∨ u = 2 ∨ u = 3) with rfl | rfl | rfl | rfl <;> omega
end Go.Proofs.YtcihcbfcgjepfaaGreatDoor
/- Desks: fields, read; a value of a record. No condition but those stated. -/
namespace Go.Proofs.YtcihcbfcgjepfaaGreatDoor
open Go.Sh Go.RowKit Tryz
variable {w w' : World} {d d' : zQr} {val : Nat -> List Val} {mu : Int}
theorem zZt (f : Fld) : (zKS f).length = 4 := rfl
theorem xQk {s : SV} {l : List Fld} (h : zQj w 38 4 s (l.flatMap zKS)) (hb : l.all zQ0 = true) (hn : l.length <= 16) : zXI w s l := by
 have hl := h.len zZt (by decide)
 refine ⟨hl, h.le_cap.1, by omega, fun i f hf => ?_⟩
 have hB := zKw (List.all_eq_true.1 hb f (List.mem_of_getElem? hf))
 obtain ⟨a, ha, _, _⟩ := h.elem zZt hf (o := 0) rfl
 refine ⟨a, ha, zKS f, ⟨rfl, hB.1, hB.2.1⟩, fun j v hv => ?_⟩
 obtain ⟨a', ha', _, hc⟩ := h.elem zZt hf (o := j) hv
 rw [ha] at ha'; cases ha'
 exact hc
theorem zQh.fld (h : zQh w d mu val) (hv : zQV d.flds = 0) : zXI w d.fs d.flds := xQk h.bd.fl (zQE hv).2.1 (zQE hv).2.2
theorem yXn {l : List Fld} (hv : zQV l = 0) : Lim.ok l := fun f hf => by
 have := zKw (List.all_eq_true.1 (zQE hv).2.1 f hf)
 show f.name.size <= 140737488355328
 omega
theorem zQh.vals (h : zQh w d mu val) {x : zQy} (hx : x ∈ zXf d) (hl : (hv val x).length <= 1000000) : RdV w x.s (hv val x) := zZO.rd (w0 := { w with heap := #[] }) ⟨h.bd.vr x hx, fun _ _ => Nat.zero_le _⟩ (by omega)
theorem zWC {l : List Fld} {s : ByteArray} {i : Nat} (h : zKH l s = some i) : i < l.length := by
 unfold zKH at h
 obtain ⟨h1, _⟩ := List.findIdx?_eq_some_iff_getElem.1 h
 exact h1
theorem yQA (h : zQh w d mu val) (hvf : zQV d.flds = 0) {g b : Bool} {s : SV} {l : List Val} (hs : b = true -> RdV w s l /\ l.length = d.flds.length) (field : ByteArray) :
  Calls prog 56 #[d.ptr, .agg #[.bool g, .slice s.a s.len s.cap], .bool b, .string field] w fun e w' =>
   e = .returned (.tuple #[zZc (valueR (zQa d val) (if b then some ⟨g, l⟩ else none) field).1, .int .i64 (valueR (zQa d val) (if b then some ⟨g, l⟩ else none) field).2]) /\ Pu w w' := by
 refine yWS _ _ _ _ _ w _ (alB fun w1 hp1 hb1 => alB fun w2 hp2 hb2 => ?_)
 have hp02 := hp1.trans hp2
 have h2 := h.pu hp02
 refine ⟨d.fs, h2.flds, (yJQ (h2.fld hvf) field).mono ?_⟩
 rintro e w4 ⟨rfl, hp4⟩
 have hp04 := hp02.trans hp4
 have hb4 := hp4.blk hb2
 have z1 := hp1.size
 have z2 := hp2.size
 have e0 : (zQa d val).flds = d.flds := rfl
 have fin : ∀ (v : Val) (n : Int), valueR (zQa d val) (if b then some ⟨g, l⟩ else none) field = (v, n) -> stA prog 28 ⟨w1.heap.size, 0, none⟩ #[.int .i64 v.kind, .int .i64 v.n, .string v.s] w4 fun w5 =>
   ∃ nR0_0 : Int, w5.cell? ((⟨w1.heap.size, 0, none⟩ : Addr).add 0) = some (.int .i64 nR0_0) /\ ∃ nR0_1 : Int, w5.cell? ((⟨w1.heap.size, 0, none⟩ : Addr).add 1) = some (.int .i64 nR0_1) /\ ∃ sR0_2 : ByteArray, w5.cell? ((⟨w1.heap.size, 0, none⟩ : Addr).add 2) = some (.string sR0_2) /\
   (Ending.returned (.tuple #[.agg #[.int .i64 nR0_0, .int .i64 nR0_1, .string sR0_2], .int .i64 n]) = .returned (.tuple #[zZc (valueR (zQa d val) (if b then some ⟨g, l⟩ else none) field).1, .int .i64 (valueR (zQa d val) (if b then some ⟨g, l⟩ else none) field).2]) /\ Pu w w5) := fun v n hv =>
  zQl hb4 zKR.symm rfl rfl fun w5 hb5 hf5 _ => ⟨_, cl hb5 0, _, cl hb5 1, _, cl hb5 2, by rw [hv], hp04.andNew hf5 fun i hi => by rw [show i = w1.heap.size from hi]; omega⟩
 refine ⟨_, _, rfl, Br.of (fun c => ?_) (fun c => ?_)⟩
 ·have c : b = false := by simpa using c
  refine fin noV 4 ?_
  rw [c]; rfl
 have c : b = true := by simpa using c
 obtain ⟨hV, hlen⟩ := hs c
 refine Br.of (fun c1 => ?_) (fun c1 => ?_)
 ·refine fin noV 4 ?_
  have c1 : zKH d.flds field = none := by simpa using c1
  simp only [c, if_true, valueR, e0, c1]
 ·have c1 : (zKH d.flds field).isSome = true := by simpa using c1
  obtain ⟨i, hi⟩ := Option.isSome_iff_exists.1 c1
  have hil : i < l.length := by rw [hlen]; exact zWC hi
  obtain ⟨v, hv⟩ := zXg hil
  have eK : yQD d.flds field = (i : Int) := by rw [yQD, hi]; rfl
  obtain ⟨a, ha, c0, c1, c2⟩ := (hV.pu hp04).get i v hv
  have hb14 := hp4.blk (hp2.blk hb1)
  have hsl := hV.len
  rw [eK]
  refine ⟨s, cl hb14 1, a, ha, by omega, by omega, v.kind, c0, v.n, c1, v.s, c2, fin v 0 ?_⟩
  simp only [c, if_true, valueR, e0, hi]
  rw [List.getD_eq_getElem?_getD, hv]; rfl
end Go.Proofs.YtcihcbfcgjepfaaGreatDoor
/- Desks: what looks at values: Get, Old, Now, Locked. No condition but those stated. -/
namespace Go.Proofs.YtcihcbfcgjepfaaGreatDoor
open Go.Sh Go.RowKit Tryz
variable {w w' : World} {d d' : zQr} {val : Nat -> List Val} {mu : Int}
theorem zQG.out (h : zQG w d val) {r : Nat} (hr : w.heap.size <= r) : d.o r = none := by
 cases e : d.o r with
 | none => rfl
 | some κ =>
  have := h.lt r (by rw [e]; simp)
  omega
structure zYW (w w2 : World) (d : zQr) (val : Nat -> List Val) : Prop where
 at_ : zQh w2 d 1 val
 fr : Fr (fun b => d.o b ≠ none) w w2
theorem zYW.pu {w3 : World} (h : zYW w w' d val) (hp : Pu w' w3) : zYW w w3 d val := ⟨h.at_.pu hp, h.fr.trans (Fr.pu hp : Fr (fun b => d.o b ≠ none) w' w3) fun i hi _ => hi⟩
theorem zYW.left (h : zYW w w' d val) {K : World -> Prop} (hK : ∀ w3, zQ4 w w3 d d 0 val -> Fr (· = d.S) w' w3 -> w3.heap.size = w'.heap.size -> K w3) : zQd prog [zXw d] w' K :=
 yWD h.at_ fun w3 h3 hf hs => hK w3 ⟨h3, h.fr.trans hf fun i hi _ => by rw [show i = d.S from hi, h.at_.bd.oS]; simp, fun _ h => .inl h, rfl⟩ hf hs
theorem zQM (h : zQh w d 0 val) {w1 : World} (hp : Pu w w1) (u : Int) :
  Calls prog 47 #[d.ptr, .int .i64 u] w1 fun e w' => e = .returned (.tuple #[uV d u, xXo d, .int .i64 (uC u)]) /\ zYW w w' d val /\ Fr (· = d.S) w1 w' /\ w'.heap.size = w1.heap.size := by
 refine (yK0 (h.pu hp) u).mono ?_
 rintro e w2 ⟨he, h2, hf, hs⟩
 exact ⟨he, ⟨h2, (Fr.pu hp : Fr (fun b => d.o b ≠ none) w w1).trans hf fun i hi _ => by rw [show i = d.S from hi, h.bd.oS]; simp⟩, hf, hs⟩
theorem zWF (h : zQh w d 0 val) {r : Nat} (hr : w.heap.size <= r) {w2 : World} (h2 : zYW w w2 d val) {c : Array Value} (hc : c.size = 3) (hb : w2.heap[r]? = some (.cells c 28)) (v : Val) (n : Int) {x : Val × Int} (hx : x = (v, n)) :
  stA prog 28 ⟨r, 0, none⟩ #[.int .i64 v.kind, .int .i64 v.n, .string v.s] w2 fun w3 => zQd prog [zXw d] w3 fun w4 => ∃ n0 : Int, w4.cell? ((⟨r, 0, none⟩ : Addr).add 0) = some (.int .i64 n0) /\
   ∃ n1 : Int, w4.cell? ((⟨r, 0, none⟩ : Addr).add 1) = some (.int .i64 n1) /\ ∃ s2 : ByteArray, w4.cell? ((⟨r, 0, none⟩ : Addr).add 2) = some (.string s2) /\ (Ending.returned (.tuple #[.agg #[.int .i64 n0, .int .i64 n1, .string s2], .int .i64 n]) = .returned (.tuple #[zZc x.1, .int .i64 x.2]) /\ zQ4 w w4 d d 0 val) := by
 have ho : d.o r = none := h.bd.out hr
 refine zQl hb zKR.symm hc rfl fun w3 hb3 hf3 hs3 => ?_
 have h3 : zYW w w3 d val := ⟨h2.at_.fr hf3 fun b hb e => by rw [show b = r from e] at hb; exact hb ho, h2.fr.trans hf3 fun i hi hlt => by have hi : i = r := hi; omega⟩
 refine h3.left fun w4 hL hf4 _ => ?_
 have hb4 := hf4.blk hb3 (fun e => by rw [show r = d.S from e, h.bd.oS] at ho; cases ho)
 exact ⟨_, cl hb4 0, _, cl hb4 1, _, cl hb4 2, by rw [hx], hL⟩
theorem Inv.rh (h : Inv (zQa d val)) : d.rh.length <= 300 := by have := h.r300; simpa [zQa] using this
theorem Inv.ah (h : Inv (zQa d val)) {u : Nat} (hu : u < 4) : (d.ah u).length <= 300 := by have := h.a300 hu; rwa [zX0] at this
theorem Inv.good (h : Inv (zQa d val)) {x : zQy} (hx : x ∈ zXf d) (hl : Low d) : zQB d.flds d.page (toR val x) = 0 := by
 have key : ∀ u, u < 4 -> x ∈ uH d u -> zQB d.flds d.page (toR val x) = 0 := fun u hu hx => by
  rcases List.mem_append.1 hx with hx | hx
  ·obtain ⟨c, hc, hx⟩ := List.mem_flatMap.1 hx
   have := (h.gc u hu (toC val c) (List.mem_map.2 ⟨c, hc, rfl⟩)).1
   simp at hx
   rcases hx with rfl | rfl
   ·exact this.1
   ·exact this.2
  ·exact h.ga u hu _ (List.mem_map.2 ⟨x, hx, rfl⟩)
 unfold zXf at hx
 simp only [List.mem_append] at hx
 rcases hx with hx | hx | hx | hx | hx
 ·exact h.gr _ (List.mem_map.2 ⟨x, hx, rfl⟩)
 ·exact key 0 (by omega) hx
 ·exact key 1 (by omega) hx
 ·exact key 2 (by omega) hx
 ·exact key 3 (by omega) hx
theorem zQh.read (h : zQh w d mu val) (hI : Inv (zQa d val)) {x : zQy} (hx : x ∈ zXf d) : RdV w x.s (hv val x) /\ (hv val x).length = d.flds.length := by
 have h1 : (hv val x).length = d.flds.length := zQ7 (hI.good hx h.bd.low)
 have h2 : d.flds.length <= 16 := hI.f16
 exact ⟨h.vals hx (by omega), h1⟩
theorem xZx {α β : Type} (o : Option α) (b : α) (f : α -> β) : (if o.isSome then some (f (o.getD b)) else none) = o.map f := by cases o <;> rfl
theorem get_c (h : zQh w d 0 val) (hI : Inv (zQa d val)) (u k : Int) (field : ByteArray) :
  Calls prog 29 #[d.ptr, .int .i64 u, .int .i64 k, .string field] w fun e w' => e = .returned (.tuple #[zZc (getR u k field (zQa d val)).1, .int .i64 (getR u k field (zQa d val)).2]) /\ zQ4 w w' d d 0 val := by
 refine yWN _ u k field w _ (alB fun w1 hp1 hb1 => (zQM h hp1 u).mono ?_)
 rintro e w2 ⟨rfl, h2, hf2, hs2⟩
 have z1 := hp1.size
 have lr : w.heap.size < w1.heap.size := zQA hb1
 have ho : d.o w.heap.size = none := h.bd.out (Nat.le_refl _)
 have nS : ¬ w.heap.size = d.S := fun e => by rw [e, h.bd.oS] at ho; cases ho
 have hb2 := hf2.blk hb1 nS
 refine ⟨_, _, _, rfl, Br.of (fun c => ?_) (fun c => ?_)⟩
 ·have hu := zJW c
  have e1 : uC u = 1 := by rw [uC, if_neg hu]
  have e2 : getR u k field (zQa d val) = (noV, 1) := by rw [getR, if_pos hu]
  exact zWF h (Nat.le_refl _) h2 rfl hb2 noV (uC u) (by rw [e2, e1])
 ·have hu := zJM c
  obtain ⟨n, rfl, hn⟩ := zQS hu
  rw [zKL hn]
  refine (yW7 h2.at_ hn k (by have := hI.ah hn; omega) (by have := hI.rh; omega)).mono ?_
  rintro e w5 ⟨rfl, hp5⟩
  refine ⟨_, _, _, rfl, alB fun w6 hp6 hb6 => zQl hb6 yQw.symm rfl rfl fun w7 hb7 hf7 _ => ?_⟩
  have hp7 : Pu w2 w7 := (hp5.trans hp6).andNew hf7 fun i hi => by rw [show i = w5.heap.size from hi]; exact hp5.size
  have h7 := h2.pu hp7
  refine ⟨_, cl hb7 0, ((zXn d n k).getD h0).s, cl hb7 1, (yQA h7.at_ hI.vf (l := hv val ((zXn d n k).getD h0)) (fun hs => ?_) field).mono ?_⟩
  ·obtain ⟨x, hx⟩ := Option.isSome_iff_exists.1 hs
   rw [hx]
   exact h7.at_.read hI (zYE hn hx)
  rintro e w8 ⟨rfl, hp8⟩
  have e2 : getR (n : Int) k field (zQa d val) = valueR (zQa d val) (if (zXn d n k).isSome then some ⟨((zXn d n k).getD h0).g, hv val ((zXn d n k).getD h0)⟩ else none) field := by
   rw [getR, if_neg (by simp [hu]), zQL, ← zJH, ← xZx (zXn d n k) h0 (toR val)]; rfl
  refine ⟨_, _, _, _, rfl, ?_⟩
  exact zWF h (Nat.le_refl _) (h7.pu hp8) rfl ((hp7.trans hp8).blk hb2) _ _ e2
theorem now_c (h : zQh w d 0 val) (hI : Inv (zQa d val)) (k : Int) (field : ByteArray) :
  Calls prog 18 #[d.ptr, .int .i64 k, .string field] w fun e w' => e = .returned (.tuple #[zZc (nowR k field (zQa d val)).1, .int .i64 (nowR k field (zQa d val)).2]) /\ zQ4 w w' d d 0 val := by
 refine yK6 _ k field w _ (alB fun w1 hp1 hb1 => (zQM h hp1 0).mono ?_)
 rintro e w2 ⟨rfl, h2, hf2, hs2⟩
 have z1 := hp1.size
 have ho : d.o w.heap.size = none := h.bd.out (Nat.le_refl _)
 have nS : ¬ w.heap.size = d.S := fun e => by rw [e, h.bd.oS] at ho; cases ho
 have hb2 := hf2.blk hb1 nS
 have el : (zQa d val).recs.length = d.rh.length := by simp [zQa]
 have hrl := h2.at_.rs_len
 have h300 := hI.rh
 refine ⟨_, _, _, rfl, ?_⟩
 refine Br.of (fun c1 => ?_) (fun c1 => ?_)
 rotate_left
 refine ⟨d.rs, h2.at_.recs, ?_⟩
 refine Br.of (fun c2 => ?_) (fun c2 => ?_)
 rotate_left 2
 ·have c1 := zQn c1
  have e2 : nowR k field (zQa d val) = (noV, 4) := by rw [nowR, if_pos (.inl c1)]
  exact zWF h (Nat.le_refl _) h2 rfl hb2 noV 4 e2
 ·have c2 := zQn c2
  have e2 : nowR k field (zQa d val) = (noV, 4) := by rw [nowR, if_pos (.inr (by omega))]
  exact zWF h (Nat.le_refl _) h2 rfl hb2 noV 4 e2
 ·have c1 := zQg c1
  have c2 := zQg c2
  have hlt : (k - 1).toNat < d.rh.length := by omega
  obtain ⟨x, hx⟩ := zXg hlt
  obtain ⟨a, ea, _, g0⟩ := h2.at_.bd.rw_.elem zQk hx (o := 0) (v := .bool x.g) rfl
  obtain ⟨a', ea', _, g1⟩ := h2.at_.bd.rw_.elem zQk hx (o := 1) (v := .slice x.s.a x.s.len x.s.cap) rfl
  obtain rfl : a = a' := by rw [ea] at ea'; exact Option.some.inj ea'
  refine ⟨d.rs, h2.at_.recs, a, ea, ?_⟩
  rw [zQc (by omega) (by omega)]
  refine ⟨by omega, by omega, x.g, g0, x.s, g1, (yQA h2.at_ hI.vf (l := hv val x) (fun _ => h2.at_.read hI (zQK (List.mem_of_getElem? hx))) field).mono ?_⟩
  rintro e w8 ⟨rfl, hp8⟩
  have e2 : nowR k field (zQa d val) = valueR (zQa d val) (if true then some ⟨x.g, hv val x⟩ else none) field := by
   rw [nowR, if_neg (by omega), recK]
   have : (zQa d val).recs.getD (k - 1).toNat default = toR val x := by
    show (d.rh.map (toR val)).getD _ _ = _
    rw [List.getD_eq_getElem?_getD, List.getElem?_map, hx]; rfl
   rw [this]; rfl
  refine ⟨_, _, _, _, rfl, ?_⟩
  exact zWF h (Nat.le_refl _) (h2.pu hp8) rfl (hp8.blk hb2) _ _ e2
theorem yVP (h : zQh w d 0 val) (k : Int) :
  Calls prog 30 #[d.ptr, .int .i64 k] w fun e w' => e = .returned (.tuple #[.int .i64 (lockedR k (zQa d val)).1, .bool (lockedR k (zQa d val)).2.1, .int .i64 (lockedR k (zQa d val)).2.2]) /\ zQ4 w w' d d 0 val := by
 refine yWd _ k w _ ((zQM h (Pu.refl w) 0).mono ?_)
 rintro e w2 ⟨rfl, h2, hf2, hs2⟩
 have el : (zQa d val).recs.length = d.rh.length := by simp [zQa]
 have hrl := h2.at_.rs_len
 refine ⟨_, _, _, rfl, ?_⟩
 refine Br.of (fun c1 => ?_) (fun c1 => ?_)
 rotate_left
 refine ⟨d.rs, h2.at_.recs, ?_⟩
 refine Br.of (fun c2 => ?_) (fun c2 => ?_)
 rotate_left 2
 ·have c1 := zQn c1
  have e2 : lockedR k (zQa d val) = (0, false, 4) := by rw [lockedR, if_pos (.inl c1)]
  exact h2.left fun w' hL _ _ => ⟨by rw [e2], hL⟩
 ·have c2 := zQn c2
  have e2 : lockedR k (zQa d val) = (0, false, 4) := by rw [lockedR, if_pos (.inr (by omega))]
  exact h2.left fun w' hL _ _ => ⟨by rw [e2], hL⟩
 ·have c1 := zQg c1
  have c2 := zQg c2
  obtain ⟨l, hl, hk⟩ := h2.at_.lm
  refine ⟨some d.L, h2.at_.locks, _, _, w2, yQp hl k, h2.left fun w' hL _ _ => ⟨?_, hL⟩⟩
  have e2 : lockedR k (zQa d val) = ((d.lk k).getD 0, (d.lk k).isSome, 0) := by rw [lockedR, if_neg (by omega)]; rfl
  rw [e2, hk]
end Go.Proofs.YtcihcbfcgjepfaaGreatDoor
/- Desks: what stays of a desk when parts of it are changed. No condition but those stated. -/
namespace Go.Proofs.YtcihcbfcgjepfaaGreatDoor
open Go.Sh Go.RowKit Tryz
variable {w w' : World} {d d' : zQr} {val : Nat -> List Val} {mu : Int}
def usH (d : zQr) : List zQy := uH d 0 ++ (uH d 1 ++ (uH d 2 ++ uH d 3))
theorem xXP (d : zQr) : zXf d = d.rh ++ usH d := rfl
def zXa (d : zQr) (u : Nat) : List zQy := d.rh ++ ((if u = 0 then [] else uH d 0) ++ ((if u = 1 then [] else uH d 1) ++ ((if u = 2 then [] else uH d 2) ++ (if u = 3 then [] else uH d 3))))
theorem zJg (d : zQr) {u : Nat} (hu : u < 4) : (zXf d).Perm (uH d u ++ zXa d u) := by
 rcases (by omega : u = 0 ∨ u = 1 ∨ u = 2 ∨ u = 3) with rfl | rfl | rfl | rfl
 ·simp only [zXa, zXf]
  exact List.perm_append_comm_assoc ..
 ·simp only [zXa, zXf]
  refine List.Perm.trans (List.Perm.append_left _ ?_) (List.perm_append_comm_assoc ..)
  exact List.perm_append_comm_assoc ..
 ·simp only [zXa, zXf]
  refine List.Perm.trans (List.Perm.append_left _ (List.Perm.trans (List.Perm.append_left _ ?_) (List.perm_append_comm_assoc ..))) (List.perm_append_comm_assoc ..)
  exact List.perm_append_comm_assoc ..
 ·simp only [zXa, zXf]
  refine List.Perm.trans (List.Perm.append_left _ (List.Perm.trans (List.Perm.append_left _ (List.Perm.trans (List.Perm.append_left _ ?_) (List.perm_append_comm_assoc ..))) (List.perm_append_comm_assoc ..))) (List.perm_append_comm_assoc ..)
  simp only [if_true, List.append_nil, show (3 : Nat) ≠ 2 by omega, if_false]
  exact List.perm_append_comm
theorem zXA {a b : List zQy} (h : a.Perm b) : (vB a).Perm (vB b) := List.Perm.flatMap_right _ h
theorem yZo {u : Nat} (hu : u < 4) : (vB (zXf d)).Nodup ↔ (vB (uH d u ++ zXa d u)).Nodup := (zXA (zJg d hu)).nodup_iff
theorem mem_u {u : Nat} (hu : u < 4) {x : zQy} : x ∈ zXf d ↔ x ∈ uH d u ∨ x ∈ zXa d u := by rw [(zJg d hu).mem_iff, List.mem_append]
theorem yJp : ∀ {l : List zQy} {x y : zQy} {b : Nat}, (vB l).Nodup -> x ∈ l -> y ∈ l -> b ∈ zQb x.s -> b ∈ zQb y.s -> x = y
 | [], x, y, b, _, hx, _, _, _ => by cases hx
 | z :: l, x, y, b, hn, hx, hy, hbx, hby => by
  rw [zXd] at hn
  obtain ⟨_, n2, n3⟩ := List.nodup_append.1 hn
  rcases List.mem_cons.1 hx with ex | kx
  ·rcases List.mem_cons.1 hy with ey | ky
   ·rw [ex, ey]
   ·exact absurd rfl (n3 b (by rw [← ex]; exact hbx) b (zXk ky hby))
  ·rcases List.mem_cons.1 hy with ey | ky
   ·exact absurd rfl (n3 b (by rw [← ey]; exact hby) b (zXk kx hbx))
   ·exact yJp n2 kx ky hbx hby
theorem zQG.setVal (h : zQG w d val) {x : zQy} (hx : x ∈ zXf d) {a : Addr} (ha : x.s.a = some a) {l' : List Val} (hf : Fr (· = a.block) w w') (hrow : zQj w' 28 3 x.s (l'.flatMap zXH)) : zQG w' d (zX6 val a.block l') := by
 have hb : a.block ∈ zQb x.s := by simp [zQb, ha]
 have hV : d.o a.block = some .V := h.oV _ (zXk hx hb)
 have ne : ∀ {b : Nat} {κ : zX4}, d.o b = some κ -> κ ≠ .V -> ¬ b = a.block := fun {b κ} hb hk e => by rw [e, hV] at hb; exact hk (Option.some.inj hb).symm
 refine ⟨h.fl.fr hf fun b hb => ne (h.oF b hb) (by simp), h.rw_.fr hf fun b hb => ne (h.oR b hb) (by simp), fun u hu => (h.aw u hu).fr hf fun b hb => ne (h.oA u hu b hb) (by simp),
  fun e u hu => (h.mp e u hu).fr hf (ne (h.oC e u hu) (by simp)), fun e u hu => (h.ml e u hu).fr hf fun b hb => ne (h.oK e u hu b hb) (by simp), ?_, fun y hy => ?_, h.low, h.nd, h.oS, h.oL, h.oC, h.oK, h.oF, h.oR, h.oA, h.oV, fun b hb => Nat.lt_of_lt_of_le (h.lt b hb) hf.size⟩
 ·obtain ⟨l, h1, h2⟩ := h.lm
  exact ⟨l, h1.fr hf (ne h.oL (by simp)), h2⟩
 ·by_cases hyb : a.block ∈ zQb y.s
  ·obtain rfl := yJp h.nd hx hy hb hyb
   rw [zZj ha rfl]; exact hrow
  ·rw [zZJ hyb]
   exact (h.vr y hy).fr hf fun b hb' e => hyb (by rw [← show b = a.block from e]; exact hb')
def zQr.ad (d : zQr) (b : Nat) : zQr := { d with o := fun c => if c = b then some .V else d.o c }
theorem zQG.ad (h : zQG w d val) {b : Nat} (ho : d.o b = none) (hb : b < w.heap.size) (x : List Val) : zQG w (d.ad b) (zX6 val b x) := by
 have up : ∀ {c : Nat} {κ : zX4}, d.o c = some κ -> (d.ad b).o c = some κ := fun {c κ} hc => by
  show (if c = b then _ else _) = _
  rw [if_neg fun e => by rw [e, ho] at hc; cases hc]; exact hc
 refine ⟨h.fl, h.rw_, h.aw, h.mp, h.ml, h.lm, fun y hy => ?_, h.low, h.nd, up h.oS, up h.oL, fun e u hu => up (h.oC e u hu), fun e u hu c hc => up (h.oK e u hu c hc), fun c hc => up (h.oF c hc), fun c hc => up (h.oR c hc), fun u hu c hc => up (h.oA u hu c hc), fun c hc => up (h.oV c hc), fun c hc => ?_⟩
 ·have hn : b ∉ zQb y.s := fun e => by have := h.oV b (zXk hy e); rw [ho] at this; cases this
  rw [zZJ hn]; exact h.vr y hy
 ·by_cases e : c = b
  ·rw [e]; exact hb
  ·have : (if c = b then some zX4.V else d.o c) ≠ none := hc
   rw [if_neg e] at this; exact h.lt c this
theorem zQG.free (h : zQG w d val) {b : Nat} (ho : d.o b = some .V) (hn : b ∉ vB (zXf d)) (hf : Fr (· = b) w w') (x : List Val) : zQG w' d (zX6 val b x) := by
 have ne : ∀ {c : Nat} {κ : zX4}, d.o c = some κ -> κ ≠ .V -> ¬ c = b := fun {c κ} hc hk e => by rw [e, ho] at hc; exact hk (Option.some.inj hc).symm
 refine ⟨h.fl.fr hf fun b hb => ne (h.oF b hb) (by simp), h.rw_.fr hf fun b hb => ne (h.oR b hb) (by simp), fun u hu => (h.aw u hu).fr hf fun b hb => ne (h.oA u hu b hb) (by simp),
  fun e u hu => (h.mp e u hu).fr hf (ne (h.oC e u hu) (by simp)), fun e u hu => (h.ml e u hu).fr hf fun b hb => ne (h.oK e u hu b hb) (by simp), ?_, fun y hy => ?_, h.low, h.nd, h.oS, h.oL, h.oC, h.oK, h.oF, h.oR, h.oA, h.oV, fun b hb => Nat.lt_of_lt_of_le (h.lt b hb) hf.size⟩
 ·obtain ⟨l, h1, h2⟩ := h.lm
  exact ⟨l, h1.fr hf (ne h.oL (by simp)), h2⟩
 ·have hyb : b ∉ zQb y.s := fun e => hn (zXk hy e)
  rw [zZJ hyb]
  exact (h.vr y hy).fr hf fun c hc e => hyb (by rw [← show c = b from e]; exact hc)
theorem yV0 {b : Nat} {x : List Val} (hl : Low d) (hn : b ∉ vB (zXf d)) : zQa d (zX6 val b x) = zQa d val := by
 have hr : b ∉ vB d.rh := fun e => hn (by rw [xXP, zQt]; exact List.mem_append_left _ e)
 have hu : ∀ v, b ∉ vB (uH d v) := fun v e => by
  by_cases hv : v < 4
  ·exact hn ((zXA (zJg d hv)).mem_iff.2 (by rw [zQt]; exact List.mem_append_left _ e))
  ·rw [yKg hl (by omega)] at e; simp [vB] at e
 simp only [zQa, zJK hr, Dsk.mk.injEq, true_and, and_true]
 funext v
 exact zKv (hu v)
theorem zV2 {b : Nat} {x : List Val} (h : zQG w d val) (ho : d.o b = none) : zQa (d.ad b) (zX6 val b x) = zQa d val :=
 yV0 h.low fun e => by have := h.oV b e; rw [ho] at this; cases this
theorem zQG.lks (h : zQG w d val) {lk' : Int -> Option Int} {l : List (Int × Int)} (hf : Fr (· = d.L) w w') (hl : zQ8 w' zXu zXu d.L l) (he : ∀ k, AL.get l k = (lk' k).map fun v => if d.sd then v + 1 else v) : zQG w' { d with lk := lk' } val := by
 have ne : ∀ {c : Nat} {κ : zX4}, d.o c = some κ -> κ ≠ .L -> ¬ c = d.L := fun {c κ} hc hk e => by rw [e, h.oL] at hc; exact hk (Option.some.inj hc).symm
 exact ⟨h.fl.fr hf fun b hb => ne (h.oF b hb) (by simp), h.rw_.fr hf fun b hb => ne (h.oR b hb) (by simp), fun u hu => (h.aw u hu).fr hf fun b hb => ne (h.oA u hu b hb) (by simp),
  fun e u hu => (h.mp e u hu).fr hf (ne (h.oC e u hu) (by simp)), fun e u hu => (h.ml e u hu).fr hf fun b hb => ne (h.oK e u hu b hb) (by simp), ⟨l, hl, he⟩, fun y hy => (h.vr y hy).fr hf fun b hb => ne (h.oV b (zXk hy hb)) (by simp), h.low, h.nd, h.oS, h.oL, h.oC, h.oK, h.oF, h.oR, h.oA, h.oV, fun b hb => Nat.lt_of_lt_of_le (h.lt b hb) hf.size⟩
def zQr.gen (d : zQr) (u : Nat) (o' : Nat -> Option zX4) (rs' : SV) (rh' : List zQy) (as' : SV) (ah' : List zQy) (cs' : SV) (ch' : List Chg) (C' : Nat) : zQr :=
 { d with o := o', rs := rs', rh := rh', asv := fun v => if v = u then as' else d.asv v, ah := fun v => if v = u then ah' else d.ah v, cs := fun v => if v = u then cs' else d.cs v, ch := fun v => if v = u then ch' else d.ch v, C := fun v => if v = u then C' else d.C v }
section
variable {u : Nat} {o' : Nat -> Option zX4} {rs' as' cs' : SV} {rh' ah' : List zQy} {ch' : List Chg} {C' : Nat}
theorem gen_uH : uH (d.gen u o' rs' rh' as' ah' cs' ch' C') u = chH ch' ++ ah' := by simp [uH, zQr.gen]
theorem yKN {v : Nat} (h : v ≠ u) : uH (d.gen u o' rs' rh' as' ah' cs' ch' C') v = uH d v := by simp [uH, zQr.gen, h]
theorem xZn : zXa (d.gen u o' rs' rh' as' ah' cs' ch' C') u = rh' ++ (zXa d u).drop d.rh.length := by
 have e : (zXa d u).drop d.rh.length = ((if u = 0 then [] else uH d 0) ++ ((if u = 1 then [] else uH d 1) ++ ((if u = 2 then [] else uH d 2) ++ (if u = 3 then [] else uH d 3)))) := by simp [zXa]
 have k : ∀ v : Nat, (if u = v then [] else uH (d.gen u o' rs' rh' as' ah' cs' ch' C') v) = (if u = v then [] else uH d v) := fun v => by
  by_cases h : u = v
  ·rw [if_pos h, if_pos h]
  ·rw [if_neg h, if_neg h, yKN (Ne.symm h)]
 rw [e]
 simp only [zXa, k]
 rfl
def zKM (d : zQr) (u : Nat) (rh' ah' : List zQy) (ch' : List Chg) : List zQy := (chH ch' ++ ah') ++ (rh' ++ (zXa d u).drop d.rh.length)
theorem yVx (hu : u < 4) : (zXf (d.gen u o' rs' rh' as' ah' cs' ch' C')).Perm (zKM d u rh' ah' ch') := by
 have := zJg (d.gen u o' rs' rh' as' ah' cs' ch' C') hu
 rwa [gen_uH, xZn] at this
theorem xZ0 {x : zQy} (hu : u < 4) (h : x ∈ (zXa d u).drop d.rh.length) : x ∈ zXf d := (mem_u hu).2 (.inr (List.mem_of_mem_drop h))
theorem zQG.genL (h : zQG w d val) (hu : u < 4) {B : Nat -> Prop} (hf : Fr B w w')
  {lk' : Int -> Option Int} (hK : ∃ l, zQ8 w' zXu zXu d.L l /\ ∀ k, AL.get l k = (lk' k).map fun v => if d.sd then v + 1 else v) (oL : o' d.L = some .L)
  (keep : ∀ b κ, d.o b = some κ -> κ ≠ .L -> κ ≠ .S -> κ ≠ .R -> κ ≠ .A u -> κ ≠ .C u -> ¬ B b /\ o' b = some κ) (oS : o' d.S = some .S)
  (hR : zQj w' 77 2 rs' (rh'.flatMap zJF)) (oR : ∀ b ∈ zQb rs', o' b = some .R) (hA : zQj w' 77 2 as' (ah'.flatMap zJF)) (oA : ∀ b ∈ zQb as', o' b = some (.A u))
  (hM : d.sd = false -> zQ8 w' zXu chV C' ch' /\ o' C' = some (.C u)) (hL : d.sd = true -> zQj w' 136 5 cs' (ch'.flatMap chC) /\ ∀ b ∈ zQb cs', o' b = some (.C u))
  (new : ∀ x ∈ chH ch' ++ ah' ++ rh', (∃ y ∈ zXf d, x.s = y.s) ∨ (zQj w' 28 3 x.s ((hv val x).flatMap zXH) /\ ∀ b ∈ zQb x.s, o' b = some .V)) (nd : (vB (zKM d u rh' ah' ch')).Nodup) (lt : ∀ b, o' b ≠ none -> b < w'.heap.size) :
  zQG w' { d.gen u o' rs' rh' as' ah' cs' ch' C' with lk := lk' } val := by
 have gp : (zXf (d.gen u o' rs' rh' as' ah' cs' ch' C')).Perm (zKM d u rh' ah' ch') := yVx hu
 have kp : ∀ {b : Nat} {κ : zX4}, d.o b = some κ -> κ ≠ .S -> κ ≠ .R -> κ ≠ .A u -> κ ≠ .C u -> κ ≠ .L -> ¬ B b := fun {b κ} a1 a2 a3 a4 a5 a6 => (keep b κ a1 a6 a2 a3 a4 a5).1
 have ko : ∀ {b : Nat} {κ : zX4}, d.o b = some κ -> κ ≠ .S -> κ ≠ .R -> κ ≠ .A u -> κ ≠ .C u -> κ ≠ .L -> o' b = some κ := fun {b κ} a1 a2 a3 a4 a5 a6 => (keep b κ a1 a6 a2 a3 a4 a5).2
 have cls : ∀ x ∈ zKM d u rh' ah' ch', zQj w' 28 3 x.s ((hv val x).flatMap zXH) /\ ∀ b ∈ zQb x.s, o' b = some .V := fun x hx => by
  have old : ∀ y ∈ zXf d, zQj w' 28 3 y.s ((hv val y).flatMap zXH) /\ ∀ b ∈ zQb y.s, o' b = some .V := fun y hy =>
   ⟨(h.vr y hy).fr hf fun b hb => kp (h.oV b (zXk hy hb)) (by simp) (by simp) (by simp) (by simp) (by simp), fun b hb => ko (h.oV b (zXk hy hb)) (by simp) (by simp) (by simp) (by simp) (by simp)⟩
  have hx' : x ∈ chH ch' ++ ah' ++ rh' ∨ x ∈ (zXa d u).drop d.rh.length := by
   simp only [zKM, List.mem_append] at hx ⊢
   rcases hx with (hx | hx) | hx | hx
   ·exact .inl (.inl (.inl hx))
   ·exact .inl (.inl (.inr hx))
   ·exact .inl (.inr hx)
   ·exact .inr hx
  rcases hx' with hx | hx
  ·rcases new x hx with ⟨y, hy, hs⟩ | hx
   ·have e : hv val x = hv val y := by rw [hv, hv, hs]
    rw [e, hs]
    exact old y hy
   ·exact hx
  ·exact old x (xZ0 hu hx)
 refine ⟨h.fl.fr hf fun b hb => kp (h.oF b hb) (by simp) (by simp) (by simp) (by simp) (by simp), hR, fun v hv => ?_, fun e v hv => ?_, fun e v hv => ?_, ?_, fun x hx => (cls x (gp.mem_iff.1 hx)).1, fun v hv => ?_, ((zXA gp).nodup_iff).2 nd, oS, oL, fun e v hv => ?_, fun e v hv b hb => ?_, fun b hb => ko (h.oF b hb) (by simp) (by simp) (by simp) (by simp) (by simp), oR, fun v hv b hb => ?_, fun b hb => ?_, lt⟩
 ·by_cases e : v = u
  ·subst e; simpa [zQr.gen] using hA
  ·simp only [zQr.gen, if_neg e]
   exact (h.aw v hv).fr hf fun b hb => kp (h.oA v hv b hb) (by simp) (by simp) (by simp [e]) (by simp) (by simp)
 ·by_cases e' : v = u
  ·subst e'; simpa [zQr.gen] using (hM e).1
  ·simp only [zQr.gen, if_neg e']
   exact (h.mp e v hv).fr hf (kp (h.oC e v hv) (by simp) (by simp) (by simp) (by simp [e']) (by simp))
 ·by_cases e' : v = u
  ·subst e'; simpa [zQr.gen] using (hL e).1
  ·simp only [zQr.gen, if_neg e']
   exact (h.ml e v hv).fr hf fun b hb => kp (h.oK e v hv b hb) (by simp) (by simp) (by simp) (by simp [e']) (by simp)
 ·exact hK
 ·have e : v ≠ u := by omega
  have := h.low v hv
  simpa [zQr.gen, e] using this
 ·by_cases e' : v = u
  ·subst e'; simpa [zQr.gen] using (hM e).2
  ·simp only [zQr.gen, if_neg e']
   exact ko (h.oC e v hv) (by simp) (by simp) (by simp) (by simp [e']) (by simp)
 ·by_cases e' : v = u
  ·subst e'
   exact (hL e).2 b (by simpa [zQr.gen] using hb)
  ·simp only [zQr.gen, if_neg e'] at hb
   exact ko (h.oK e v hv b hb) (by simp) (by simp) (by simp) (by simp [e']) (by simp)
 ·by_cases e : v = u
  ·subst e
   exact oA b (by simpa [zQr.gen] using hb)
  ·simp only [zQr.gen, if_neg e] at hb
   exact ko (h.oA v hv b hb) (by simp) (by simp) (by simp [e]) (by simp) (by simp)
 ·obtain ⟨x, hx, hb⟩ := List.mem_flatMap.1 hb
  exact (cls x (gp.mem_iff.1 hx)).2 b hb
theorem zQG.gen (h : zQG w d val) (hu : u < 4) {B : Nat -> Prop} (hf : Fr B w w')
  (keep : ∀ b κ, d.o b = some κ -> κ ≠ .S -> κ ≠ .R -> κ ≠ .A u -> κ ≠ .C u -> ¬ B b /\ o' b = some κ) (oS : o' d.S = some .S)
  (hR : zQj w' 77 2 rs' (rh'.flatMap zJF)) (oR : ∀ b ∈ zQb rs', o' b = some .R) (hA : zQj w' 77 2 as' (ah'.flatMap zJF)) (oA : ∀ b ∈ zQb as', o' b = some (.A u))
  (hM : d.sd = false -> zQ8 w' zXu chV C' ch' /\ o' C' = some (.C u)) (hL : d.sd = true -> zQj w' 136 5 cs' (ch'.flatMap chC) /\ ∀ b ∈ zQb cs', o' b = some (.C u))
  (new : ∀ x ∈ chH ch' ++ ah' ++ rh', (∃ y ∈ zXf d, x.s = y.s) ∨ (zQj w' 28 3 x.s ((hv val x).flatMap zXH) /\ ∀ b ∈ zQb x.s, o' b = some .V)) (nd : (vB (zKM d u rh' ah' ch')).Nodup) (lt : ∀ b, o' b ≠ none -> b < w'.heap.size) :
  zQG w' (d.gen u o' rs' rh' as' ah' cs' ch' C') val := by
 obtain ⟨l, h1, h2⟩ := h.lm
 have kL := keep d.L .L h.oL (by simp) (by simp) (by simp) (by simp)
 exact h.genL hu hf (lk' := d.lk) ⟨l, h1.fr hf kL.1, h2⟩ kL.2 (fun b κ a1 _ a2 a3 a4 a5 => keep b κ a1 a2 a3 a4 a5) oS hR oR hA oA hM hL new nd lt
theorem zWq : zQa (d.gen u o' rs' rh' as' ah' cs' ch' C') val = { (zQa d val) with recs := rh'.map (toR val) }.setU u { (zQa d val).us u with ch := ch'.map (toC val), ap := ah'.map (toR val) } := by
 simp only [zQa, Dsk.setU, Dsk.mk.injEq]
 refine ⟨rfl, rfl, rfl, ?_, rfl⟩
 funext v
 by_cases e : v = u
 ·subst e; simp [zJ2, zQr.gen]
 ·simp [zJ2, zQr.gen, e]
end
end Go.Proofs.YtcihcbfcgjepfaaGreatDoor
