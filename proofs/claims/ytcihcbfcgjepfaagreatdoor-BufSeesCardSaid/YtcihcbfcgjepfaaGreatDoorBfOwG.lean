import Derived.Test.YtcihcbfcgjepfaaGreatDoorBfOwF
/- Desks: what the reference tells of values. No condition but those stated. -/
set_option maxRecDepth 100000
set_option linter.unusedVariables false
set_option linter.unusedSimpArgs false
namespace Go.Proofs.YtcihcbfcgjepfaaGreatDoor
open Go.Sh Go.RowKit Tryz
variable {w w' : World} {d d' : zQr} {val : Nat -> List Val}
theorem zQs.fld (h : zQs w d val) (hv : zQV d.flds = 0) : zXI w d.fs d.flds := xQk h.bd.fl (zQE hv).2.1 (zQE hv).2.2
theorem zQs.vals (h : zQs w d val) {x : zQy} (hx : x ∈ zXf d) (hl : (hv val x).length <= 1000000) : RdV w x.s (hv val x) := zZO.rd (w0 := { w with heap := #[] }) ⟨h.bd.vr x hx, fun _ _ => Nat.zero_le _⟩ (by omega)
theorem zQs.read (h : zQs w d val) (hI : Inv (zQa d val)) {x : zQy} (hx : x ∈ zXf d) : RdV w x.s (hv val x) /\ (hv val x).length = d.flds.length := by
 have h1 : (hv val x).length = d.flds.length := zQ7 (hI.good hx h.bd.low)
 have h2 : d.flds.length <= 16 := hI.f16
 exact ⟨h.vals hx (by omega), h1⟩
theorem zJR {l : List Chg} {k : Int} (h : zXo l k = none) : AL.get l k = none := by rw [zWx, h]; rfl
theorem zJn {l : List Chg} {k : Int} {i : Nat} (h : zXo l k = some i) : ∃ c, l[i]? = some (k, c) /\ AL.get l k = some c := by
 have h2 := h
 unfold zXo at h2
 rw [List.findIdx?_eq_some_iff_getElem] at h2
 obtain ⟨hi, he, _⟩ := h2
 have e : l[i]? = some (k, l[i].2) := by
  rw [List.getElem?_eq_getElem hi]
  have : l[i].1 = k := by simpa using he
  rw [← this]
 exact ⟨l[i].2, e, by rw [zWx, h]; simp [e]⟩
theorem yQO {l : List Chg} {k : Int} {i : Nat} (h : zXo l k = some i) : i < l.length := by
 obtain ⟨c, hc, _⟩ := zJn h
 exact (List.getElem?_eq_some_iff.1 hc).1
def zK2 (σ : Dsk) (u : Nat) (k : Int) (old : Bool) : Option Rec := if old then oldRec σ u k else seenR σ u k
theorem xZs (h : zQs w d val) (hI : Inv (zQa d val)) {u : Nat} (hu : u < 4) (k : Int) (old : Bool) (hs : seenR (zQa d val) u k ≠ none) :
  Calls prog 164 #[d.ptr, .int .i64 (u : Int), .int .i64 k, .bool old] w fun e w' => ∃ (g : Bool) (s : SV) (l : List Val), e = .returned (.agg #[.bool g, .slice s.a s.len s.cap]) /\ RdV w' s l /\ l.length = d.flds.length /\ Pu w w' /\ zK2 (zQa d val) u k old = some ⟨g, l⟩ := by
 have hal := h.as_len hu
 have hrl := h.rs_len
 have hcl := h.cs_len hu
 have ha3 := hI.ah hu
 have hr3 := hI.rh
 have hc3 := hI.chl hu
 have hf16 : d.flds.length <= 16 := hI.f16
 refine yZc _ _ k old w _ (alB fun w1 hp1 hb1 => ?_)
 have h1 := h.pu hp1
 have z1 : w.heap.size < w1.heap.size := zQA hb1
 -- a record is returned
 have fin : ∀ {w2 : World} (g : Bool) (s : SV) (l : List Val), Pu w1 w2 -> RdV w2 s l -> l.length = d.flds.length -> zK2 (zQa d val) u k old = some ⟨g, l⟩ -> (∀ {w3 : World}, Fr (· = w.heap.size) w2 w3 -> RdV w3 s l) ->
   stA prog 77 ⟨w.heap.size, 0, none⟩ #[.bool g, .slice s.a s.len s.cap] w2 fun w3 => ∃ b0 : Bool, w3.cell? ((⟨w.heap.size, 0, none⟩ : Addr).add 0) = some (.bool b0) /\ ∃ l1 : SV, w3.cell? ((⟨w.heap.size, 0, none⟩ : Addr).add 1) = some (.slice l1.a l1.len l1.cap) /\
    (∃ (g : Bool) (s : SV) (l : List Val), Ending.returned (.agg #[.bool b0, .slice l1.a l1.len l1.cap]) = .returned (.agg #[.bool g, .slice s.a s.len s.cap]) /\ RdV w3 s l /\ l.length = d.flds.length /\ Pu w w3 /\ zK2 (zQa d val) u k old = some ⟨g, l⟩) := fun {w2} g s l hp hV hl he hk =>
  zQl (hp.blk hb1) yQw.symm rfl rfl fun w3 hb3 hf3 _ => ⟨g, cl hb3 0, s, cl hb3 1, g, s, l, rfl, hk hf3, hl, (hp1.trans hp).andNew hf3 fun i hi => by rw [show i = w.heap.size from hi]; exact Nat.le_refl _, he⟩
 have keep : ∀ {w2 w3 : World} {x : zQy}, zQs w2 d val -> x ∈ zXf d -> Fr (· = w.heap.size) w2 w3 -> RdV w3 x.s (hv val x) := fun {w2 w3 x} h2 hx hf => by
  have o1 : d.o w.heap.size = none := h.bd.out (Nat.le_refl _)
  have h3 := h2.fr hf fun b hb e => hb (by rw [show b = w.heap.size from e]; exact o1)
  exact (h3.read hI hx).1
 by_cases hk : k < 0
 ·have hs2 := hs
  unfold seenR at hs2
  rw [if_pos hk] at hs2
  have hlt : (-k - 1).toNat < (d.ah u).length := by
   have e1 : ((zQa d val).us u).ap.length = (d.ah u).length := zX0
   by_cases c : (-k - 1).toNat < ((zQa d val).us u).ap.length
   ·omega
   ·rw [List.getElem?_eq_none (by omega)] at hs2; exact absurd rfl hs2
  obtain ⟨x, hx⟩ := zXg hlt
  have hxm := zX8 hu (List.mem_of_getElem? hx)
  have es : seenR (zQa d val) u k = some (toR val x) := by
   unfold seenR
   rw [if_pos hk]
   show ((d.ah u).map (toR val))[(-k - 1).toNat]? = _
   rw [List.getElem?_map, hx]; rfl
  have apc : old = false -> ∃ l29 : SV, w1.cell? ((((⟨d.S, 0, none⟩ : Addr).add 3).add ((u : Int).toNat * 4)).add 3) = some (.slice l29.a l29.len l29.cap) /\ ∃ a25 : Addr, l29.a = some a25 /\ 0 <= (IntKind.i64.wrap ((IntKind.i64.wrap (0 - k)) - 1)) /\ (IntKind.i64.wrap ((IntKind.i64.wrap (0 - k)) - 1)) < ((l29.len : Nat) : Int) /\
    ∃ b34_0 : Bool, w1.cell? ((a25.add ((IntKind.i64.wrap ((IntKind.i64.wrap (0 - k)) - 1)).toNat * 2)).add 0) = some (.bool b34_0) /\ ∃ l34_1 : SV, w1.cell? ((a25.add ((IntKind.i64.wrap ((IntKind.i64.wrap (0 - k)) - 1)).toNat * 2)).add 1) = some (.slice l34_1.a l34_1.len l34_1.cap) /\
    stA prog 77 ⟨w.heap.size, 0, none⟩ #[.bool b34_0, .slice l34_1.a l34_1.len l34_1.cap] w1 fun w3 => ∃ b0 : Bool, w3.cell? ((⟨w.heap.size, 0, none⟩ : Addr).add 0) = some (.bool b0) /\ ∃ l1 : SV, w3.cell? ((⟨w.heap.size, 0, none⟩ : Addr).add 1) = some (.slice l1.a l1.len l1.cap) /\
    (∃ (g : Bool) (s : SV) (l : List Val), Ending.returned (.agg #[.bool b0, .slice l1.a l1.len l1.cap]) = .returned (.agg #[.bool g, .slice s.a s.len s.cap]) /\ RdV w3 s l /\ l.length = d.flds.length /\ Pu w w3 /\ zK2 (zQa d val) u k old = some ⟨g, l⟩) := fun ho => by
   obtain ⟨a, ea, _, g0⟩ := (h1.bd.aw u hu).elem zQk hx (o := 0) (v := .bool x.g) rfl
   obtain ⟨a', ea', _, g1⟩ := (h1.bd.aw u hu).elem zQk hx (o := 1) (v := .slice x.s.a x.s.len x.s.cap) rfl
   rw [ea] at ea'; cases ea'
   have ew : IntKind.i64.wrap ((IntKind.i64.wrap (0 - k)) - 1) = -k - 1 := by rw [zQc (n := 0 - k) (by omega) (by omega), zQc (by omega) (by omega)]; omega
   refine ⟨d.asv u, h1.uAp hu, a, ea, ?_⟩
   rw [ew]
   refine ⟨by omega, by omega, x.g, g0, x.s, g1, ?_⟩
   have hr := h1.read hI hxm
   exact fin x.g x.s (hv val x) (Pu.refl _) hr.1 hr.2 (by rw [zK2, ho]; exact es) fun hf => keep h1 hxm hf
  refine Br.of (fun _ => Br.of (fun co => ?_) (fun co => Br.of (fun _ => ⟨(u4 hu).1, (u4 hu).2, apc co⟩) (fun c => absurd hk (zQg c)))) (fun c => absurd hk (zQg c))
  refine ⟨d.fs, h1.flds, (zYA (h1.fld hI.vf) hf16).mono ?_⟩
  rintro e w2 ⟨q, rfl, hq, hp2⟩
  refine ⟨false, q, rfl, ?_⟩
  have hlq : (d.flds.map zQ3).length = d.flds.length := by simp
  refine fin false q (d.flds.map zQ3) hp2 (hq.rd (by simp; omega)) hlq ?_ fun {w3} hf => ?_
  ·rw [zK2, co, if_pos rfl, oldRec, es]
   simp only [Option.map_some, if_pos hk]; rfl
  ·exact (hq.fr hf fun b hb e => by have := hq.2 b hb; have e : b = w.heap.size := e; omega).rd (by simp; omega)
 ·have hs2 := hs
  unfold seenR at hs2
  rw [if_neg hk] at hs2
  have hkr : 1 <= k /\ k <= d.rh.length := by
   have e2 : (zQa d val).recs.length = d.rh.length := by simp [zQa]
   by_cases c : k < 1 ∨ k > (zQa d val).recs.length
   ·rw [if_pos c] at hs2; exact absurd rfl hs2
   ·omega
  refine Br.of (fun c => absurd (zQn c) hk) (fun _ => Br.of (fun c => absurd (zQn c) hk) (fun _ => ?_))
  have hlt : (k - 1).toNat < d.rh.length := by omega
  obtain ⟨x, hx⟩ := zXg hlt
  have hxm := zQK (List.mem_of_getElem? hx)
  have eR : seenR (zQa d val) u k = match AL.get (d.ch u) k with | some c => some (toR val c.2) | none => some (toR val x) := by
   rw [← zJH]
   unfold zXn
   rw [if_neg hk, if_neg (by omega), hx]
   cases AL.get (d.ch u) k <;> rfl
  have eO : oldRec (zQa d val) u k = match AL.get (d.ch u) k with | some c => some (toR val c.1) | none => some (toR val x) := by
   unfold oldRec
   rw [eR]
   have : AL.get ((zQa d val).us u).ch k = (AL.get (d.ch u) k).map fun c => (toR val c.1, toR val c.2) := zZk val (d.ch u) k
   rw [this]
   cases AL.get (d.ch u) k with
   | none => simp [hk]
   | some c => simp [hk]
  refine Calls.mono (zWj h1 hu k (by omega)) ?_
  rintro e w2 ⟨rfl, rfl⟩
  refine ⟨_, rfl, ?_⟩
  cases hfi : zXo (d.ch u) k with
  | none =>
   have hg := zJR hfi
   refine Br.of (fun c => by have := zQn c; dsimp only at this; omega) (fun _ => ?_)
   refine Br.of (fun c => by cases c) (fun _ => Br.of (fun c => by have := zQn c; dsimp only at this; omega) (fun _ => ?_))
   obtain ⟨a, ea, _, g0⟩ := h1.bd.rw_.elem zQk hx (o := 0) (v := .bool x.g) rfl
   obtain ⟨a', ea', _, g1⟩ := h1.bd.rw_.elem zQk hx (o := 1) (v := .slice x.s.a x.s.len x.s.cap) rfl
   rw [ea] at ea'; cases ea'
   refine ⟨d.rs, h1.recs, a, ea, ?_⟩
   rw [zQc (by omega) (by omega)]
   refine ⟨by omega, by omega, x.g, g0, x.s, g1, ?_⟩
   have hr := h1.read hI hxm
   exact fin x.g x.s (hv val x) (Pu.refl _) hr.1 hr.2 (by rw [zK2, eO, eR, hg]; cases old <;> rfl) fun hf => keep h1 hxm hf
  | some i =>
   obtain ⟨c, hci, hg⟩ := zJn hfi
   have hil := yQO hfi
   have mc := zJc hu (List.mem_of_getElem? hci)
   have e0 : (zQa d val).flds = d.flds := rfl
   have ent : ∀ o v, (chC (k, c))[o]? = some v -> ∃ a, (d.cs u).a = some a /\ w2.cell? ((a.add (i * 5)).add o) = some v := fun o v hv => by
    obtain ⟨a, ea, _, g0⟩ := (h1.cs_row hu).elem zZu hci (o := o) (v := v) hv
    exact ⟨a, ea, g0⟩
   obtain ⟨a, ea, g1⟩ := ent 1 _ rfl
   obtain ⟨a2, ea2, g2⟩ := ent 2 _ rfl
   obtain ⟨a3, ea3, g3⟩ := ent 3 _ rfl
   obtain ⟨a4, ea4, g4⟩ := ent 4 _ rfl
   rw [ea] at ea2 ea3 ea4; cases ea2; cases ea3; cases ea4
   have ad : ∀ m n : Nat, (a.add (i * 5)).add (m + n) = ((a.add (i * 5)).add m).add n := fun m n => by simp only [Addr.add_add, Nat.add_assoc]
   refine Br.of (fun _ => ?_) (fun c => by have := zQg c; dsimp only at this; omega)
   refine Br.of (fun co => ?_) (fun co => Br.of (fun _ => ?_) (fun c => by have := zQg c; dsimp only at this; omega))
   ·refine ⟨(u4 hu).1, (u4 hu).2, d.cs u, h1.uCs hu, a, ea, by dsimp only; omega, by dsimp only; omega, c.1.g, by rw [zQL, ← ad]; exact g1, c.1.s, by rw [zQL, ← ad]; exact g2, ?_⟩
    have hr := h1.read hI mc.1
    exact fin c.1.g c.1.s (hv val c.1) (Pu.refl _) hr.1 hr.2 (by rw [zK2, co, if_pos rfl, eO, hg]; rfl) fun hf => keep h1 mc.1 hf
   ·refine ⟨(u4 hu).1, (u4 hu).2, d.cs u, h1.uCs hu, a, ea, by dsimp only; omega, by dsimp only; omega, c.2.g, by rw [zQL, ← ad]; exact g3, c.2.s, by rw [zQL, ← ad]; exact g4, ?_⟩
    have hr := h1.read hI mc.2
    exact fin c.2.g c.2.s (hv val c.2) (Pu.refl _) hr.1 hr.2 (by rw [zK2, co, if_neg (by simp), eR, hg]; rfl) fun hf => keep h1 mc.2 hf
theorem yX6 (h : zQs w d val) (hI : Inv (zQa d val)) (u k : Int) (field : ByteArray) (old : Bool) :
  Calls prog 126 #[d.ptr, .int .i64 u, .int .i64 k, .string field, .bool old] w fun e w' => e = .returned (.tuple #[zZc (if old then oldR u k field (zQa d val) else getR u k field (zQa d val)).1, .int .i64 (if old then oldR u k field (zQa d val) else getR u k field (zQa d val)).2]) /\ Pu w w' := by
 refine yZR _ u k field old w _ (alB fun w1 hp1 hb1 => Calls.mono (zVU u w1) ?_)
 rintro e w2 ⟨rfl, rfl⟩
 have z1 : w.heap.size < w2.heap.size := zQA hb1
 have fin : ∀ {w3 : World} (v : Val) (n : Int), Pu w2 w3 -> (if old then oldR u k field (zQa d val) else getR u k field (zQa d val)) = (v, n) -> stA prog 28 ⟨w.heap.size, 0, none⟩ #[.int .i64 v.kind, .int .i64 v.n, .string v.s] w3 fun w4 =>
   ∃ n0 : Int, w4.cell? ((⟨w.heap.size, 0, none⟩ : Addr).add 0) = some (.int .i64 n0) /\ ∃ n1 : Int, w4.cell? ((⟨w.heap.size, 0, none⟩ : Addr).add 1) = some (.int .i64 n1) /\ ∃ s2 : ByteArray, w4.cell? ((⟨w.heap.size, 0, none⟩ : Addr).add 2) = some (.string s2) /\
   (Ending.returned (.tuple #[.agg #[.int .i64 n0, .int .i64 n1, .string s2], .int .i64 n]) = .returned (.tuple #[zZc (if old then oldR u k field (zQa d val) else getR u k field (zQa d val)).1, .int .i64 (if old then oldR u k field (zQa d val) else getR u k field (zQa d val)).2]) /\ Pu w w4) := fun {w3} v n hp he =>
  zQl (hp.blk hb1) zKR.symm rfl rfl fun w4 hb4 hf4 _ => ⟨_, cl hb4 0, _, cl hb4 1, _, cl hb4 2, by rw [he], (hp1.trans hp).andNew hf4 fun i hi => by rw [show i = w.heap.size from hi]; exact Nat.le_refl _⟩
 refine ⟨_, rfl, Br.of (fun c => ?_) (fun c => ?_)⟩
 ·have c : ¬ isU u = true := by simpa using c
  refine fin noV 1 (Pu.refl _) ?_
  cases old
  ·simp only [getR]; rw [if_pos c]; rfl
  ·simp only [oldR]; rw [if_pos c]; rfl
 have hu : isU u = true := by simpa using c
 obtain ⟨n, rfl, hn⟩ := zQS hu
 have h2 := h.pu hp1
 have eE : (if old then oldR (n : Int) k field (zQa d val) else getR (n : Int) k field (zQa d val)) = valueR (zQa d val) (zK2 (zQa d val) n k old) field := by
  cases old
  ·show getR _ _ _ _ = _
   rw [getR, if_neg (by simp [hu])]; rfl
  ·show oldR _ _ _ _ = _
   rw [oldR, if_neg (by simp [hu])]; rfl
 refine Calls.mono (yX4 h2 hn k (by have := hI.ah hn; omega)) ?_
 rintro e w3 ⟨rfl, rfl⟩
 refine ⟨_, rfl, Br.of (fun c1 => ?_) (fun c1 => ?_)⟩
 ·have c1 : seenR (zQa d val) n k = none := by simpa using c1
  refine fin noV 4 (Pu.refl _) ?_
  rw [eE]
  have : zK2 (zQa d val) n k old = none := by cases old <;> simp [zK2, oldRec, c1]
  rw [this]; rfl
 have c1 : seenR (zQa d val) n k ≠ none := by simpa using c1
 refine ⟨d.fs, h2.flds, (zVX (h2.fld hI.vf) field).mono ?_⟩
 rintro e w4 ⟨rfl, hp4⟩
 have e0 : (zQa d val).flds = d.flds := rfl
 refine ⟨_, _, rfl, Br.of (fun c2 => ?_) (fun c2 => ?_)⟩
 ·have c2 : zKH d.flds field = none := by simpa using c2
  refine fin noV 4 hp4 ?_
  rw [eE]
  unfold valueR
  rw [e0, c2]
  cases zK2 (zQa d val) n k old <;> rfl
 have c2 : (zKH d.flds field).isSome = true := by simpa using c2
 obtain ⟨i, hi⟩ := Option.isSome_iff_exists.1 c2
 have eK : yQD d.flds field = (i : Int) := by rw [yQD, hi]; rfl
 rw [eK]
 refine (xZs (h2.pu hp4) hI hn k old c1).mono ?_
 rintro e w5 ⟨g, s, l, rfl, hV, hl, hp5, hso⟩
 have hil : i < l.length := by rw [hl]; exact zWC hi
 obtain ⟨v, hv⟩ := zXg hil
 obtain ⟨a, ha, c0, c1', c2'⟩ := hV.get i v hv
 have hsl := hV.len
 refine ⟨g, s, rfl, a, ha, by omega, by omega, _, c0, _, c1', _, c2', fin v 0 (hp4.trans hp5) ?_⟩
 rw [eE, hso]
 simp only [valueR, e0, hi]
 rw [List.getD_eq_getElem?_getD, hv]; rfl
theorem rGet_c (h : zQs w d val) (hI : Inv (zQa d val)) (u k : Int) (field : ByteArray) :
  Calls prog 67 #[d.ptr, .int .i64 u, .int .i64 k, .string field] w fun e w' => e = .returned (.tuple #[zZc (getR u k field (zQa d val)).1, .int .i64 (getR u k field (zQa d val)).2]) /\ Pu w w' := by
 refine yKJ _ u k field w _ (alB fun w1 hp1 hb1 => (yX6 (h.pu hp1) hI u k field false).mono ?_)
 rintro e w2 ⟨rfl, hp2⟩
 exact ⟨_, _, _, _, rfl, zQl (hp2.blk hb1) zKR.symm rfl rfl fun w3 hb3 hf3 _ => ⟨_, cl hb3 0, _, cl hb3 1, _, cl hb3 2, rfl, (hp1.trans hp2).andNew hf3 fun i hi => by rw [show i = w.heap.size from hi]; exact Nat.le_refl _⟩⟩
theorem rOld_c (h : zQs w d val) (hI : Inv (zQa d val)) (u k : Int) (field : ByteArray) :
  Calls prog 69 #[d.ptr, .int .i64 u, .int .i64 k, .string field] w fun e w' => e = .returned (.tuple #[zZc (oldR u k field (zQa d val)).1, .int .i64 (oldR u k field (zQa d val)).2]) /\ Pu w w' := by
 refine yW6 _ u k field w _ (alB fun w1 hp1 hb1 => (yX6 (h.pu hp1) hI u k field true).mono ?_)
 rintro e w2 ⟨rfl, hp2⟩
 exact ⟨_, _, _, _, rfl, zQl (hp2.blk hb1) zKR.symm rfl rfl fun w3 hb3 hf3 _ => ⟨_, cl hb3 0, _, cl hb3 1, _, cl hb3 2, rfl, (hp1.trans hp2).andNew hf3 fun i hi => by rw [show i = w.heap.size from hi]; exact Nat.le_refl _⟩⟩
theorem rNow_c (h : zQs w d val) (hI : Inv (zQa d val)) (k : Int) (field : ByteArray) :
  Calls prog 70 #[d.ptr, .int .i64 k, .string field] w fun e w' => e = .returned (.tuple #[zZc (nowR k field (zQa d val)).1, .int .i64 (nowR k field (zQa d val)).2]) /\ Pu w w' := by
 refine yJz _ k field w _ (alB fun w1 hp1 hb1 => ?_)
 have h1 := h.pu hp1
 refine ⟨d.fs, h1.flds, (zVX (h1.fld hI.vf) field).mono ?_⟩
 rintro e w3 ⟨rfl, hp3⟩
 have h3 := h1.pu hp3
 have hrl := h.rs_len
 have h300 := hI.rh
 have e0 : (zQa d val).flds = d.flds := rfl
 have el : (zQa d val).recs.length = d.rh.length := by simp [zQa]
 have fin : ∀ (v : Val) (n : Int), nowR k field (zQa d val) = (v, n) -> stA prog 28 ⟨w.heap.size, 0, none⟩ #[.int .i64 v.kind, .int .i64 v.n, .string v.s] w3 fun w4 =>
   ∃ n0 : Int, w4.cell? ((⟨w.heap.size, 0, none⟩ : Addr).add 0) = some (.int .i64 n0) /\ ∃ n1 : Int, w4.cell? ((⟨w.heap.size, 0, none⟩ : Addr).add 1) = some (.int .i64 n1) /\ ∃ s2 : ByteArray, w4.cell? ((⟨w.heap.size, 0, none⟩ : Addr).add 2) = some (.string s2) /\
   (Ending.returned (.tuple #[.agg #[.int .i64 n0, .int .i64 n1, .string s2], .int .i64 n]) = .returned (.tuple #[zZc (nowR k field (zQa d val)).1, .int .i64 (nowR k field (zQa d val)).2]) /\ Pu w w4) := fun v n he =>
  zQl (hp3.blk hb1) zKR.symm rfl rfl fun w4 hb4 hf4 _ => ⟨_, cl hb4 0, _, cl hb4 1, _, cl hb4 2, by rw [he], (hp1.trans hp3).andNew hf4 fun i hi => by rw [show i = w.heap.size from hi]; exact Nat.le_refl _⟩
 refine ⟨_, _, rfl, Br.of (fun c1 => ?_) (fun c1 => ⟨d.rs, h3.recs, Br.of (fun c2 => ?_) (fun c2 => Br.of (fun c3 => ?_) (fun c3 => ?_))⟩)⟩
 ·have c1 := zQn c1
  exact fin noV 4 (by rw [nowR, if_pos (.inl c1)])
 ·have c2 := zQn c2
  exact fin noV 4 (by rw [nowR, if_pos (.inr (by omega))])
 ·have c1 := zQg c1; have c2 := zQg c2
  have c3 : zKH d.flds field = none := by simpa using c3
  exact fin noV 4 (by rw [nowR, if_neg (by omega)]; unfold valueR; rw [e0, c3])
 have c1 := zQg c1; have c2 := zQg c2
 have c3 : (zKH d.flds field).isSome = true := by simpa using c3
 obtain ⟨i, hi⟩ := Option.isSome_iff_exists.1 c3
 have eK : yQD d.flds field = (i : Int) := by rw [yQD, hi]; rfl
 have hlt : (k - 1).toNat < d.rh.length := by omega
 obtain ⟨x, hx⟩ := zXg hlt
 obtain ⟨a, ea, _, g1⟩ := h3.bd.rw_.elem zQk hx (o := 1) (v := .slice x.s.a x.s.len x.s.cap) rfl
 have hr := h3.read hI (zQK (List.mem_of_getElem? hx))
 have hil : i < (hv val x).length := by rw [hr.2]; exact zWC hi
 obtain ⟨v, hv'⟩ := zXg hil
 obtain ⟨b, hb, v0, v1, v2⟩ := hr.1.get i v hv'
 have hsl := hr.1.len
 refine ⟨d.rs, h3.recs, a, ea, ?_⟩
 rw [zQc (by omega) (by omega), eK]
 refine ⟨by omega, by omega, x.s, g1, b, hb, by omega, by omega, _, v0, _, v1, _, v2, fin v 0 ?_⟩
 rw [nowR, if_neg (by omega), recK]
 have : (zQa d val).recs.getD (k - 1).toNat default = toR val x := by
  show (d.rh.map (toR val)).getD _ _ = _
  rw [List.getD_eq_getElem?_getD, List.getElem?_map, hx]; rfl
 rw [this]
 simp only [valueR, e0, hi]
 show ((hv val x).getD i noV, (0 : Int)) = _
 rw [List.getD_eq_getElem?_getD, hv']; rfl
theorem zWb {b : Nat} {l : List (Int × Int)} (h : zQ8 w zXu zXu b l) (k : Int) : (Instr.lookup 80 (.map (some b)) (.int .i64 k) false).run prog w = .ok (.int .i64 ((AL.get l k).getD 0)) w := by
 have := h.look (P := prog) (t := 80) (kt := 3) (e := 3) zV8 xZd (z := .int .i64 0) (Tryz.zeroValue3 w) k false
 rw [show (.int .i64 k : Value) = zXu k from rfl, this]
 cases AL.get l k <;> rfl
theorem yJf (h : zQs w d val) (hI : Inv (zQa d val)) (k : Int) :
  Calls prog 75 #[d.ptr, .int .i64 k] w fun e w' => e = .returned (.tuple #[.int .i64 (lockedR k (zQa d val)).1, .bool (lockedR k (zQa d val)).2.1, .int .i64 (lockedR k (zQa d val)).2.2]) /\ Pu w w' := by
 have el : (zQa d val).recs.length = d.rh.length := by simp [zQa]
 have hrl := h.rs_len
 refine yKU _ k w _ (Br.of (fun c1 => ?_) (fun c1 => ⟨d.rs, h.recs, Br.of (fun c2 => ?_) (fun c2 => ?_)⟩))
 ·exact ⟨by rw [lockedR, if_pos (.inl (zQn c1))], Pu.refl _⟩
 ·have := zQn c2
  exact ⟨by rw [lockedR, if_pos (.inr (by omega))], Pu.refl _⟩
 have c1 := zQg c1; have c2 := zQg c2
 obtain ⟨l, hl, hk⟩ := h.lm
 have e2 : lockedR k (zQa d val) = ((d.lk k).getD 0, (d.lk k).isSome, 0) := by rw [lockedR, if_neg (by omega)]; rfl
 refine ⟨some d.L, h.locks, _, w, zWb hl k, ?_⟩
 rw [e2, hk]
 cases hv : d.lk k with
 | none => exact ⟨rfl, Pu.refl _⟩
 | some v =>
  have hv2 := hI.lr k v hv
  refine Br.of (fun c => ⟨?_, Pu.refl _⟩) (fun c => ?_)
  ·show Ending.returned (.tuple #[.int .i64 (IntKind.i64.wrap (v + 1 - 1)), .bool true, .int .i64 0]) = _
   rw [zQc (by omega) (by omega), show v + 1 - 1 = v by omega]; rfl
  ·have c : v + 1 = 0 := zQw c
   omega
end Go.Proofs.YtcihcbfcgjepfaaGreatDoor
/- Desks: the reference's questions on clashes and changes. No condition but those stated. -/
namespace Go.Proofs.YtcihcbfcgjepfaaGreatDoor
open Go.Sh Go.RowKit Tryz
variable {w w' : World} {d d' : zQr} {val : Nat -> List Val}
def ClK (R : Rt) (J1 : (Int) -> World -> Prop) (p3 : Option Addr) (p5 : Option Addr) (n6 : Int) (r7 r8 r9 : Nat) (ds : Ds) (w : World) : Prop :=
 ∃ n67_0 : Int, w.cell? ((⟨r7, 0, none⟩ : Addr).add 0) = some (.int .i64 n67_0) /\
 ∃ n67_1 : Int, w.cell? ((⟨r7, 0, none⟩ : Addr).add 1) = some (.int .i64 n67_1) /\
 ∃ s67_2 : ByteArray, w.cell? ((⟨r7, 0, none⟩ : Addr).add 2) = some (.string s67_2) /\
 ∃ n68_0 : Int, w.cell? ((⟨r8, 0, none⟩ : Addr).add 0) = some (.int .i64 n68_0) /\
 ∃ n68_1 : Int, w.cell? ((⟨r8, 0, none⟩ : Addr).add 1) = some (.int .i64 n68_1) /\
 ∃ s68_2 : ByteArray, w.cell? ((⟨r8, 0, none⟩ : Addr).add 2) = some (.string s68_2) /\
 Calls prog 19 #[.agg #[.int .i64 n67_0, .int .i64 n67_1, .string s67_2], .agg #[.int .i64 n68_0, .int .i64 n68_1, .string s68_2]] w fun e w15 =>
 ∃ b69 : Bool, e = .returned (.bool b69) /\
 Br (!b69) (
 ∃ n72_0 : Int, w15.cell? ((⟨r9, 0, none⟩ : Addr).add 0) = some (.int .i64 n72_0) /\
 ∃ n72_1 : Int, w15.cell? ((⟨r9, 0, none⟩ : Addr).add 1) = some (.int .i64 n72_1) /\
 ∃ s72_2 : ByteArray, w15.cell? ((⟨r9, 0, none⟩ : Addr).add 2) = some (.string s72_2) /\
 ∃ n73_0 : Int, w15.cell? ((⟨r7, 0, none⟩ : Addr).add 0) = some (.int .i64 n73_0) /\
 ∃ n73_1 : Int, w15.cell? ((⟨r7, 0, none⟩ : Addr).add 1) = some (.int .i64 n73_1) /\
 ∃ s73_2 : ByteArray, w15.cell? ((⟨r7, 0, none⟩ : Addr).add 2) = some (.string s73_2) /\
 Calls prog 19 #[.agg #[.int .i64 n72_0, .int .i64 n72_1, .string s72_2], .agg #[.int .i64 n73_0, .int .i64 n73_1, .string s73_2]] w15 fun e w16 =>
 ∃ b74 : Bool, e = .returned (.bool b74) /\
 Br (!b74) (
 ∃ n78_0 : Int, w16.cell? ((⟨r9, 0, none⟩ : Addr).add 0) = some (.int .i64 n78_0) /\
 ∃ n78_1 : Int, w16.cell? ((⟨r9, 0, none⟩ : Addr).add 1) = some (.int .i64 n78_1) /\
 ∃ s78_2 : ByteArray, w16.cell? ((⟨r9, 0, none⟩ : Addr).add 2) = some (.string s78_2) /\
 ∃ n79_0 : Int, w16.cell? ((⟨r8, 0, none⟩ : Addr).add 0) = some (.int .i64 n79_0) /\
 ∃ n79_1 : Int, w16.cell? ((⟨r8, 0, none⟩ : Addr).add 1) = some (.int .i64 n79_1) /\
 ∃ s79_2 : ByteArray, w16.cell? ((⟨r8, 0, none⟩ : Addr).add 2) = some (.string s79_2) /\
 Calls prog 19 #[.agg #[.int .i64 n78_0, .int .i64 n78_1, .string s78_2], .agg #[.int .i64 n79_0, .int .i64 n79_1, .string s79_2]] w16 fun e w17 =>
 ∃ b80 : Bool, e = .returned (.bool b80) /\
 Br (!b80) (
 zQd prog ds w17 fun w18 =>
 R (.returned (.bool true)) w18) (
 zX1 R J1 p3 p5 n6 ds w17)) (
 zX1 R J1 p3 p5 n6 ds w16)) (
 zX1 R J1 p3 p5 n6 ds w15)
theorem clK_c {R : Rt} {J1 : (Int) -> World -> Prop} {p3 p5 : Option Addr} {n6 : Int} {r7 r8 r9 : Nat} {a b c : Val} (h7 : w.heap[r7]? = some (.cells #[.int .i64 a.kind, .int .i64 a.n, .string a.s] 28)) (h8 : w.heap[r8]? = some (.cells #[.int .i64 b.kind, .int .i64 b.n, .string b.s] 28))
  (h9 : w.heap[r9]? = some (.cells #[.int .i64 c.kind, .int .i64 c.n, .string c.s] 28)) (hy : ∀ y, Pu w y -> zZ8 a b c = true -> R (.returned (.bool true)) y) (hn : ∀ y, Pu w y -> zZ8 a b c = false -> J1 (IntKind.i64.wrap (n6 + 1)) y) : ClK R J1 p3 p5 n6 r7 r8 r9 [] w := by
 refine ⟨_, cl h7 0, _, cl h7 1, _, cl h7 2, _, cl h8 0, _, cl h8 1, _, cl h8 2, (zXN a b w).mono ?_⟩
 rintro e w1 ⟨rfl, hp1⟩
 refine ⟨_, rfl, Br.of (fun d1 => ?_) (fun d1 => ?_)⟩
 ·have k7 := hp1.blk h7
  have k9 := hp1.blk h9
  refine ⟨_, cl k9 0, _, cl k9 1, _, cl k9 2, _, cl k7 0, _, cl k7 1, _, cl k7 2, (zXN c a w1).mono ?_⟩
  rintro e w2 ⟨rfl, hp2⟩
  have hp02 := hp1.trans hp2
  refine ⟨_, rfl, Br.of (fun d2 => ?_) (fun d2 => ?_)⟩
  ·have k8 := hp02.blk h8
   have k9 := hp02.blk h9
   refine ⟨_, cl k9 0, _, cl k9 1, _, cl k9 2, _, cl k8 0, _, cl k8 1, _, cl k8 2, (zXN c b w2).mono ?_⟩
   rintro e w3 ⟨rfl, hp3⟩
   have hp03 := hp02.trans hp3
   refine ⟨_, rfl, Br.of (fun d3 => ?_) (fun d3 => ?_)⟩
   ·exact hy _ hp03 (by rw [zZ8, d1, d2, d3]; rfl)
   ·exact hn _ hp03 (by rw [zZ8, d1, d2, d3]; rfl)
  ·exact hn _ hp02 (by rw [zZ8, d1, d2]; rfl)
 ·exact hn _ hp1 (by rw [zZ8, d1]; rfl)
theorem fill3 {w0 : World} {r7 r8 r9 : Nat} {z : Array Value} (hp : Pu w0 w) (hz : z.size = 3) (h7 : w.heap[r7]? = some (.cells z 28)) (h8 : w.heap[r8]? = some (.cells z 28)) (h9 : w.heap[r9]? = some (.cells z 28)) (n78 : r7 ≠ r8) (n79 : r7 ≠ r9) (n89 : r8 ≠ r9)
  (z7 : w0.heap.size <= r7) (z8 : w0.heap.size <= r8) (z9 : w0.heap.size <= r9) {a b c : Val} {S1 K : World -> Prop} (hS : ∀ y, Pu w0 y -> S1 y) (hK : ∀ y, Pu w0 y -> y.heap[r7]? = some (.cells #[.int .i64 a.kind, .int .i64 a.n, .string a.s] 28) -> y.heap[r8]? = some (.cells #[.int .i64 b.kind, .int .i64 b.n, .string b.s] 28) ->
   y.heap[r9]? = some (.cells #[.int .i64 c.kind, .int .i64 c.n, .string c.s] 28) -> K y) :
  stA prog 28 (⟨r7, 0, none⟩ : Addr) #[.int .i64 a.kind, .int .i64 a.n, .string a.s] w fun w1 => S1 w1 /\ stA prog 28 (⟨r8, 0, none⟩ : Addr) #[.int .i64 b.kind, .int .i64 b.n, .string b.s] w1 fun w2 => S1 w2 /\ stA prog 28 (⟨r9, 0, none⟩ : Addr) #[.int .i64 c.kind, .int .i64 c.n, .string c.s] w2 K :=
 zQl h7 zKR.symm hz rfl fun w1 hb1 hf1 _ => by
  have hp1 : Pu w0 w1 := hp.andNew hf1 fun i hi => by rw [show i = r7 from hi]; exact z7
  refine ⟨hS _ hp1, zQl (hf1.blk h8 (Ne.symm n78)) zKR.symm hz rfl fun w2 hb2 hf2 _ => ?_⟩
  have hp2 : Pu w0 w2 := hp1.andNew hf2 fun i hi => by rw [show i = r8 from hi]; exact z8
  refine ⟨hS _ hp2, zQl (hf2.blk (hf1.blk h9 (Ne.symm n79)) (Ne.symm n89)) zKR.symm hz rfl fun w3 hb3 hf3 _ => ?_⟩
  have hp3 : Pu w0 w3 := hp2.andNew hf3 fun i hi => by rw [show i = r9 from hi]; exact z9
  exact hK _ hp3 (hf3.blk (hf2.blk hb1 n78) n79) (hf3.blk hb2 n89) hb3
set_option maxHeartbeats 1000000 in
theorem yVX (h : zQs w d val) (hI : Inv (zQa d val)) {k : Int} {c : zQy × zQy} (m1 : c.1 ∈ zXf d) (m2 : c.2 ∈ zXf d) {x : zQy} (hk1 : 1 <= k) (hk2 : k <= d.rh.length) (hx : d.rh[(k - 1).toNat]? = some x) :
  Calls prog 131 #[d.ptr, .agg #[.int .i64 k, .bool c.1.g, .slice c.1.s.a c.1.s.len c.1.s.cap, .bool c.2.g, .slice c.2.s.a c.2.s.len c.2.s.cap]] w fun e w' => e = .returned (.bool (zKD (toR val c.1, toR val c.2) (toR val x))) /\ Pu w w' := by
 have eR : zKD (toR val c.1, toR val c.2) (toR val x) = zXL (hv val c.1) (hv val c.2) (hv val x) := by
  show (zYz _ _ _ || zXL (hv val c.1) (hv val c.2) (hv val x)) = _
  rw [zJf, Bool.false_or]
 rw [eR]
 have hf16 : d.flds.length <= 16 := hI.f16
 have hr3 := hI.rh
 have hrl := h.rs_len
 refine yXV _ _ _ _ _ _ w _ (alB fun w1 hp1 hb1 => zQf fun w2 hp2 _ => ?_)
 have hp02 := hp1.trans hp2
 have h2 := h.pu hp02
 have hb2 := hp2.blk hb1
 obtain ⟨a, ea, _, g0⟩ := h2.bd.rw_.elem zQk hx (o := 0) (v := .bool x.g) rfl
 obtain ⟨a', ea', _, g1⟩ := h2.bd.rw_.elem zQk hx (o := 1) (v := .slice x.s.a x.s.len x.s.cap) rfl
 rw [ea] at ea'; cases ea'
 refine ⟨fun y => Pu w2 y, Pu.refl _, d.rs, fun y hy => hy.cell h2.recs, k, fun y hy => cl0 (hy.blk hb2), a, ea, ?_⟩
 rw [zQc (n := k - 1) (by omega) (by omega)]
 refine ⟨by omega, by omega, x.g, fun y hy => hy.cell g0, x.s, fun y hy => hy.cell g1, alB fun w3 hp3 hb3 => ⟨hp3, zQl hb3 yQw.symm rfl rfl fun w4 hb4 hf4 _ => ?_⟩⟩
 have hp24 : Pu w2 w4 := hp3.andNew hf4 fun i hi => by rw [show i = w2.heap.size from hi]; exact Nat.le_refl _
 have hp04 := hp02.trans hp24
 have q3 := hp24.blk hb2
 have R1 := h.read hI m1
 have R2 := h.read hI m2
 have R3 := h.read hI (zQK (List.mem_of_getElem? hx))
 have la := R1.1.len
 have lb := R2.1.len
 have lc := R3.1.len
 have n1 := R1.2
 have n2 := R2.2
 have n3 := R3.2
 have fin : zYm (fun e w' => e = .returned (.bool (zXL (hv val c.1) (hv val c.2) (hv val x))) /\ Pu w w') (some (⟨w.heap.size, 0, none⟩ : Addr)) (some (⟨w2.heap.size, 0, none⟩ : Addr)) 0 [] w4 := by
  refine zQz d.flds.length (fun j t w' => t = (j : Int) /\ zXL (hv val c.1) (hv val c.2) (hv val x) = zXL ((hv val c.1).drop j) ((hv val c.2).drop j) ((hv val x).drop j) /\ Pu w4 w') ⟨rfl, by simp, Pu.refl _⟩ ?_
  rintro j J t w5 hj ⟨ht, he, hp5⟩ hJ
  obtain rfl : t = (j : Int) := ht
  have q5 := hp5.blk hb4
  have q53 := hp5.blk q3
  have hp05 := hp04.trans hp5
  refine ⟨x.s, cl q5 1, Br.of (fun d1 => ?_) (fun d1 => ?_)⟩
  ·have hj2 : j < d.flds.length := by have := zQn d1; omega
   obtain ⟨va, hva⟩ := zXg (l := hv val c.1) (k := j) (by omega)
   obtain ⟨vb, hvb⟩ := zXg (l := hv val c.2) (k := j) (by omega)
   obtain ⟨vc, hvc⟩ := zXg (l := hv val x) (k := j) (by omega)
   have ed : zXL (hv val c.1) (hv val c.2) (hv val x) = (zZ8 va vb vc || zXL ((hv val c.1).drop (j + 1)) ((hv val c.2).drop (j + 1)) ((hv val x).drop (j + 1))) := by rw [he, zZS hva, zZS hvb, zZS hvc]; rfl
   refine zQf fun w6 hp6 _ => ?_
   have hp06 := hp05.trans hp6
   have q6 := hp6.blk q5
   have q63 := hp6.blk q53
   obtain ⟨pa, ha, x0, x1, x2⟩ := (R1.1.pu hp06).get j va hva
   obtain ⟨pb, hb, y0, y1, y2⟩ := (R2.1.pu hp06).get j vb hvb
   obtain ⟨pc, hc, z0, z1, z2⟩ := (R3.1.pu hp06).get j vc hvc
   refine ⟨fun y => Pu w6 y, Pu.refl _, c.1.s, fun y hy => by rw [zQe, zQe, zQo (hy.blk q63)]; rfl, pa, ha, by omega, by omega, _, fun y hy => hy.cell x0, _, fun y hy => hy.cell x1, _, fun y hy => hy.cell x2,
    c.2.s, fun y hy => by rw [zQe, zQe, zQo (hy.blk q63)]; rfl, pb, hb, by omega, by omega, _, fun y hy => hy.cell y0, _, fun y hy => hy.cell y1, _, fun y hy => hy.cell y2,
    x.s, fun y hy => cl (hy.blk q6) 1, pc, hc, by omega, by omega, _, fun y hy => hy.cell z0, _, fun y hy => hy.cell z1, _, fun y hy => hy.cell z2, ?_⟩
   have go : ∀ {wC : World} {r7 r8 r9 : Nat}, Pu w6 wC -> wC.heap[r7]? = some (.cells #[.int .i64 0, .int .i64 0, .string ⟨#[]⟩] 28) -> wC.heap[r8]? = some (.cells #[.int .i64 0, .int .i64 0, .string ⟨#[]⟩] 28) -> wC.heap[r9]? = some (.cells #[.int .i64 0, .int .i64 0, .string ⟨#[]⟩] 28) ->
     r7 ≠ r8 -> r7 ≠ r9 -> r8 ≠ r9 -> w6.heap.size <= r7 -> w6.heap.size <= r8 -> w6.heap.size <= r9 ->
     stA prog 28 (⟨r7, 0, none⟩ : Addr) #[.int .i64 va.kind, .int .i64 va.n, .string va.s] wC fun w1 => Pu w6 w1 /\ stA prog 28 (⟨r8, 0, none⟩ : Addr) #[.int .i64 vb.kind, .int .i64 vb.n, .string vb.s] w1 fun w2 => Pu w6 w2 /\ stA prog 28 (⟨r9, 0, none⟩ : Addr) #[.int .i64 vc.kind, .int .i64 vc.n, .string vc.s] w2
      (ClK (fun e w' => e = .returned (.bool (zXL (hv val c.1) (hv val c.2) (hv val x))) /\ Pu w w') J (some (⟨w.heap.size, 0, none⟩ : Addr)) (some (⟨w2.heap.size, 0, none⟩ : Addr)) (j : Int) r7 r8 r9 []) := fun {wC r7 r8 r9} hpC b7 b8 b9 n78 n79 n89 z7 z8 z9 =>
    fill3 (a := va) (b := vb) (c := vc) (z := #[.int .i64 0, .int .i64 0, .string ⟨#[]⟩]) (S1 := fun y => Pu w6 y) (K := ClK (fun e w' => e = .returned (.bool (zXL (hv val c.1) (hv val c.2) (hv val x))) /\ Pu w w') J (some (⟨w.heap.size, 0, none⟩ : Addr)) (some (⟨w2.heap.size, 0, none⟩ : Addr)) (j : Int) r7 r8 r9 []) hpC rfl b7 b8 b9 n78 n79 n89 z7 z8 z9 (fun y hy => hy) fun y hy k7 k8 k9 => clK_c (a := va) (b := vb) (c := vc) k7 k8 k9 (fun z hz hcl => ⟨by rw [ed, hcl]; rfl, (hp06.trans hy).trans hz⟩) (fun z hz hcl => by
     rw [zQc (by omega) (by omega)]
     exact hJ _ _ hj2 ⟨by omega, by rw [ed, hcl, Bool.false_or], ((hp5.trans hp6).trans hy).trans hz⟩)
   have tri : ∀ {wA wB wC : World} {b : Array Value} {e : TypeId}, Pu w6 wA -> wA.heap[w6.heap.size]? = some (.cells b e) -> Pu wA wB -> wB.heap[wA.heap.size]? = some (.cells b e) -> Pu wB wC -> wC.heap[wB.heap.size]? = some (.cells b e) ->
     Pu w6 wC /\ wC.heap[w6.heap.size]? = some (.cells b e) /\ wC.heap[wA.heap.size]? = some (.cells b e) /\ w6.heap.size < wA.heap.size /\ wA.heap.size < wB.heap.size := fun {wA wB wC b e} pA bA pB bB pC bC =>
    ⟨(pA.trans pB).trans pC, pC.blk (pB.blk bA), pC.blk bB, zQA bA, zQA bB⟩
   refine ⟨alB fun wA pA bA => ⟨pA, alB fun wB pB bB => ⟨pA.trans pB, alB fun wC pC bC => ?_⟩, alB fun wB pB bB => ⟨pA.trans pB, alB fun wC pC bC => ?_⟩⟩, alB fun wA pA bA => ⟨pA, alB fun wB pB bB => ⟨pA.trans pB, alB fun wC pC bC => ?_⟩, alB fun wB pB bB => ⟨pA.trans pB, alB fun wC pC bC => ?_⟩⟩, alB fun wA pA bA => ⟨pA, alB fun wB pB bB => ⟨pA.trans pB, alB fun wC pC bC => ?_⟩, alB fun wB pB bB => ⟨pA.trans pB, alB fun wC pC bC => ?_⟩⟩⟩ <;> obtain ⟨t1, t2, t3, t4, t5⟩ := tri pA bA pB bB pC bC
   ·exact ⟨t1, go t1 t2 t3 bC (by omega) (by omega) (by omega) (by omega) (by omega) (by omega)⟩
   ·exact ⟨t1, go t1 t2 bC t3 (by omega) (by omega) (by omega) (by omega) (by omega) (by omega)⟩
   ·exact ⟨t1, go t1 t3 t2 bC (by omega) (by omega) (by omega) (by omega) (by omega) (by omega)⟩
   ·exact ⟨t1, go t1 bC t2 t3 (by omega) (by omega) (by omega) (by omega) (by omega) (by omega)⟩
   ·exact ⟨t1, go t1 t3 bC t2 (by omega) (by omega) (by omega) (by omega) (by omega) (by omega)⟩
   ·exact ⟨t1, go t1 bC t3 t2 (by omega) (by omega) (by omega) (by omega) (by omega) (by omega)⟩
  ·have hj2 : j = d.flds.length := by have := zQg d1; omega
   refine ⟨?_, hp04.trans hp5⟩
   have e0 : (hv val c.1).drop j = [] := List.drop_eq_nil_of_le (by omega)
   rw [he, e0]
   rfl
 refine ⟨_, cl q3 3, _, cl q3 1, Br.of (fun d1 => ⟨_, cl0 hb4, _, cl q3 1, Br.of (fun d2 => ⟨_, cl0 hb4, _, cl q3 3, Br.of (fun d3 => ?_) (fun _ => fin)⟩) (fun _ => fin)⟩) (fun _ => fin)⟩
 exfalso
 revert d1 d2 d3
 show (!(c.2.g == c.1.g)) = true -> (!(x.g == c.1.g)) = true -> (!(x.g == c.2.g)) = true -> False
 generalize c.2.g = p; generalize c.1.g = q; generalize x.g = r
 revert p q r; decide
theorem zKX {l : List Chg} {k : Int} : ((match zXo l k with | some i => (i : Int) | none => -1) >= 0) ↔ (zXo l k).isSome = true := by
 cases zXo l k with
 | none => simp
 | some i => simp
theorem zW3 (σ : Dsk) (u : Nat) (n : Nat) : ((List.range (n + 1)).filter fun i : Nat => (AL.get (σ.us u).ch ((i : Int) + 1)).isSome) = ((List.range n).filter fun i : Nat => (AL.get (σ.us u).ch ((i : Int) + 1)).isSome) ++ if (AL.get (σ.us u).ch ((n : Int) + 1)).isSome then [n] else [] := by
 rw [List.range_succ, List.filter_append]
 congr 1
 by_cases e : (AL.get (σ.us u).ch ((n : Int) + 1)).isSome = true
 ·rw [if_pos e]; simp [e]
 ·rw [if_neg e]; simp [e]
theorem zZx {d : zQr} {val : Nat -> List Val} {u : Nat} {k : Int} : AL.get ((zQa d val).us u).ch k = (AL.get (d.ch u) k).map fun c => (toR val c.1, toR val c.2) := zZk val (d.ch u) k
theorem zVa (h : zQs w d val) (hI : Inv (zQa d val)) (u : Int) :
  Calls prog 79 #[d.ptr, .int .i64 u] w fun e w' => ∃ q : SV, e = .returned (.tuple #[.slice q.a q.len q.cap, .int .i64 (uC u)]) /\ zXD w w' q (clashesL u (zQa d val)) /\ Pu w w' := by
 refine yWE _ u w _ (Calls.mono (zVU u w) ?_)
 rintro e w1 ⟨rfl, rfl⟩
 refine ⟨_, rfl, Br.of (fun c => ?_) (fun c => ?_)⟩
 ·have hu : ¬ isU u = true := by simpa using c
  exact ⟨⟨none, 0, 0⟩, by rw [uC, if_neg hu], by rw [clashesL, if_neg hu]; exact zXD.nil _ _, Pu.refl _⟩
 have hu : isU u = true := by simpa using c
 obtain ⟨n, rfl, hn⟩ := zQS hu
 have hr3 := hI.rh
 have hc3 := hI.chl hn
 have hrl := h.rs_len
 have hcl := h.cs_len hn
 have eL : clashesL (n : Int) (zQa d val) = ((List.range d.rh.length).filter fun i : Nat => zXM (zQa d val) n ((i : Int) + 1)).map fun (i : Nat) => (i : Int) + 1 := by
  rw [clashesL, if_pos hu, zQL, clashK]
  have e : (zQa d val).recs.length = d.rh.length := by simp [zQa]
  rw [e]
  congr 1
 rw [eL]
 refine zQz d.rh.length (fun k t w' => t.2 = (k : Int) + 1 /\ zXD w1 w' t.1 (((List.range k).filter fun i : Nat => zXM (zQa d val) n ((i : Int) + 1)).map fun (i : Nat) => (i : Int) + 1) /\ Pu w1 w') ⟨rfl, zXD.nil _ _, Pu.refl _⟩ ?_
 rintro k J ⟨t, m⟩ w2 hk ⟨hm, hN, hp2⟩ hJ
 obtain rfl : m = (k : Int) + 1 := hm
 dsimp only at hN
 have h2 := h.pu hp2
 refine ⟨d.rs, h2.recs, Br.of (fun d1 => ?_) (fun d1 => ?_)⟩
 ·have hk2 : k < d.rh.length := by have := zQn d1; omega
  have step : ∀ b : Bool, zXM (zQa d val) n ((k : Int) + 1) = b -> ((List.range (k + 1)).filter fun i : Nat => zXM (zQa d val) n ((i : Int) + 1)).map (fun (i : Nat) => (i : Int) + 1) = ((List.range k).filter fun i : Nat => zXM (zQa d val) n ((i : Int) + 1)).map (fun (i : Nat) => (i : Int) + 1) ++ if b then [(k : Int) + 1] else [] := fun b hb => by
   rw [List.range_succ, List.filter_append, List.map_append]
   congr 1
   cases b <;> simp [hb]
  refine Calls.mono (zWj h2 hn ((k : Int) + 1) (by omega)) ?_
  rintro e w3 ⟨rfl, rfl⟩
  refine ⟨_, rfl, Br.of (fun d2 => ?_) (fun d2 => ?_)⟩
  ·obtain ⟨i, hi⟩ := Option.isSome_iff_exists.1 (zKX.1 (zQn d2))
   rw [hi]
   obtain ⟨c, hci, hg⟩ := zJn hi
   have hil := yQO hi
   have mc := zJc hn (List.mem_of_getElem? hci)
   obtain ⟨x, hx⟩ := zXg hk2
   have ent : ∀ o v, (chC ((k : Int) + 1, c))[o]? = some v -> ∃ a, (d.cs n).a = some a /\ w3.cell? ((a.add (i * 5)).add o) = some v := fun o v hv => by
    obtain ⟨a, ea, _, g0⟩ := (h2.cs_row hn).elem zZu hci (o := o) (v := v) hv
    exact ⟨a, ea, g0⟩
   obtain ⟨a, ea, g0⟩ := ent 0 _ rfl
   obtain ⟨a1, ea1, g1⟩ := ent 1 _ rfl
   obtain ⟨a2, ea2, g2⟩ := ent 2 _ rfl
   obtain ⟨a3, ea3, g3⟩ := ent 3 _ rfl
   obtain ⟨a4, ea4, g4⟩ := ent 4 _ rfl
   rw [ea] at ea1 ea2 ea3 ea4; cases ea1; cases ea2; cases ea3; cases ea4
   refine ⟨(u4 hn).1, (u4 hn).2, d.cs n, h2.uCs hn, a, ea, by dsimp only; omega, by dsimp only; omega, _, by rw [zQL]; exact g0, _, by rw [zQL]; exact g1, c.1.s, by rw [zQL]; exact g2, _, by rw [zQL]; exact g3, c.2.s, by rw [zQL]; exact g4, ?_⟩
   refine (yVX h2 hI (k := (k : Int) + 1) mc.1 mc.2 (x := x) (by omega) (by omega) (by rw [show ((k : Int) + 1 - 1).toNat = k by omega]; exact hx)).mono ?_
   rintro e w4 ⟨rfl, hp4⟩
   have eP : zKD (toR val c.1, toR val c.2) (toR val x) = zXM (zQa d val) n ((k : Int) + 1) := by
    unfold zXM
    rw [zZx, hg]
    have e2 : recK (zQa d val) ((k : Int) + 1) = toR val x := by
     unfold recK
     show (d.rh.map (toR val)).getD _ _ = _
     rw [show ((k : Int) + 1 - 1).toNat = k by omega, List.getD_eq_getElem?_getD, List.getElem?_map, hx]; rfl
    rw [e2]; rfl
   rw [eP]
   refine ⟨_, rfl, Br.of (fun d3 => alB fun w5 hp5 hb5 => ?_) (fun d3 => ?_)⟩
   ·have hlen : (((List.range k).filter fun i : Nat => zXM (zQa d val) n ((i : Int) + 1)).map fun (i : Nat) => (i : Int) + 1).length <= 1000000 := by
     have h1 := List.length_filter_le (fun i : Nat => zXM (zQa d val) n ((i : Int) + 1)) (List.range k)
     rw [List.length_range] at h1
     rw [List.length_map]; omega
    obtain ⟨t', w6, hra, hN6, hf6⟩ := (hN.pu (hp4.trans hp5)).push ((hp2.trans hp4).trans hp5).size hb5 hlen
    refine ⟨t', w6, hra, ?_⟩
    rw [zQc (by omega) (by omega)]
    exact hJ _ _ hk2 ⟨by dsimp only; omega, by rw [step true d3]; exact hN6, ((hp2.trans hp4).trans hp5).andNew hf6 fun i hi => hN.2 i hi⟩
   ·rw [zQc (by omega) (by omega)]
    exact hJ _ _ hk2 ⟨by dsimp only; omega, by rw [step false d3]; simpa using hN.pu hp4, hp2.trans hp4⟩
  ·have hno : zXo (d.ch n) ((k : Int) + 1) = none := by
    cases e : zXo (d.ch n) ((k : Int) + 1) with
    | none => rfl
    | some i => exact absurd (zKX.2 (by rw [e]; rfl)) (zQg d2)
   rw [zQc (by omega) (by omega)]
   refine hJ _ _ hk2 ⟨by dsimp only; omega, ?_, hp2⟩
   rw [step false (by unfold zXM; rw [zZx, zJR hno]; rfl)]
   simpa using hN
 ·have hk2 : k = d.rh.length := by have := zQg d1; omega
  subst hk2
  exact ⟨t, by rw [uC, if_pos hu], hN, hp2⟩
theorem yZh (h : zQs w d val) (hI : Inv (zQa d val)) (u : Int) :
  Calls prog 77 #[d.ptr, .int .i64 u] w fun e w' => ∃ q : SV, e = .returned (.tuple #[.slice q.a q.len q.cap, .int .i64 (uC u)]) /\ zXD w w' q (changedL u (zQa d val)) /\ Pu w w' := by
 refine yWT _ u w _ (Calls.mono (zVU u w) ?_)
 rintro e w1 ⟨rfl, rfl⟩
 refine ⟨_, rfl, Br.of (fun c => ?_) (fun c => ?_)⟩
 ·have hu : ¬ isU u = true := by simpa using c
  exact ⟨⟨none, 0, 0⟩, by rw [uC, if_neg hu], by rw [changedL, if_neg hu]; exact zXD.nil _ _, Pu.refl _⟩
 have hu : isU u = true := by simpa using c
 obtain ⟨n, rfl, hn⟩ := zQS hu
 have hr3 := hI.rh
 have hc3 := hI.chl hn
 have ha3 := hI.ah hn
 have hrl := h.rs_len
 have hcl := h.cs_len hn
 have hal := h.as_len hn
 have e0 : (zQa d val).recs.length = d.rh.length := by simp [zQa]
 have eL : changedL (n : Int) (zQa d val) = ((List.range d.rh.length).filter fun i : Nat => (AL.get ((zQa d val).us n).ch ((i : Int) + 1)).isSome).map (fun (i : Nat) => (i : Int) + 1) ++ (List.range (d.ah n).length).map (fun (i : Nat) => -(i : Int) - 1) := by
  rw [changedL, if_pos hu, zQL, zX0, keysU, e0]
 rw [eL]
 have hlen : ∀ k, k <= d.rh.length -> (((List.range k).filter fun i : Nat => (AL.get ((zQa d val).us n).ch ((i : Int) + 1)).isSome).map fun (i : Nat) => (i : Int) + 1).length <= 1000 := fun k hk => by
  have h1 := List.length_filter_le (fun i : Nat => (AL.get ((zQa d val).us n).ch ((i : Int) + 1)).isSome) (List.range k)
  rw [List.length_range] at h1
  rw [List.length_map]; omega
 refine zQz d.rh.length (fun k t w' => t.2 = (k : Int) + 1 /\ zXD w1 w' t.1 (((List.range k).filter fun i : Nat => (AL.get ((zQa d val).us n).ch ((i : Int) + 1)).isSome).map fun (i : Nat) => (i : Int) + 1) /\ Pu w1 w') ⟨rfl, zXD.nil _ _, Pu.refl _⟩ ?_
 rintro k J ⟨t, m⟩ w2 hk ⟨hm, hN, hp2⟩ hJ
 obtain rfl : m = (k : Int) + 1 := hm
 dsimp only at hN
 have h2 := h.pu hp2
 refine ⟨d.rs, h2.recs, Br.of (fun d1 => ?_) (fun d1 => ?_)⟩
 ·have hk2 : k < d.rh.length := by have := zQn d1; omega
  refine Calls.mono (zWj h2 hn ((k : Int) + 1) (by omega)) ?_
  rintro e w3 ⟨rfl, rfl⟩
  refine ⟨_, rfl, Br.of (fun d2 => alB fun w5 hp5 hb5 => ?_) (fun d2 => ?_)⟩
  ·obtain ⟨i, hi⟩ := Option.isSome_iff_exists.1 (zKX.1 (zQn d2))
   obtain ⟨c, hci, hg⟩ := zJn hi
   obtain ⟨t', w6, hra, hN6, hf6⟩ := (hN.pu hp5).push (hp2.trans hp5).size hb5 (by have := hlen k hk; omega)
   refine ⟨t', w6, hra, ?_⟩
   rw [zQc (by omega) (by omega)]
   refine hJ _ _ hk2 ⟨by dsimp only; omega, ?_, (hp2.trans hp5).andNew hf6 fun i hi => hN.2 i hi⟩
   rw [zW3, List.map_append, if_pos (by rw [zZx, hg]; rfl)]
   exact hN6
  ·have hno : zXo (d.ch n) ((k : Int) + 1) = none := by
    cases e : zXo (d.ch n) ((k : Int) + 1) with
    | none => rfl
    | some i => exact absurd (zKX.2 (by rw [e]; rfl)) (zQg d2)
   rw [zQc (by omega) (by omega)]
   refine hJ _ _ hk2 ⟨by dsimp only; omega, ?_, hp2⟩
   rw [zW3, List.map_append, if_neg (by rw [zZx, zJR hno]; simp)]
   simpa using hN
 ·have hk2 : k = d.rh.length := by have := zQg d1; omega
  subst hk2
  refine zQz (d.ah n).length (fun k t w' => t.2 = (k : Int) /\ zXD w1 w' t.1 (((List.range d.rh.length).filter fun i : Nat => (AL.get ((zQa d val).us n).ch ((i : Int) + 1)).isSome).map (fun (i : Nat) => (i : Int) + 1) ++ (List.range k).map (fun (i : Nat) => -(i : Int) - 1)) /\ Pu w1 w') ⟨rfl, by simpa using hN, hp2⟩ ?_
  rintro k J2 ⟨t, m⟩ w3 hk3 ⟨hm, hN, hp3⟩ hJ2
  obtain rfl : m = (k : Int) := hm
  dsimp only at hN
  have h3 := h.pu hp3
  refine ⟨(u4 hn).1, (u4 hn).2, d.asv n, h3.uAp hn, Br.of (fun d2 => alB fun w5 hp5 hb5 => ?_) (fun d2 => ?_)⟩
  ·have hk4 : k < (d.ah n).length := by have := zQn d2; omega
   rw [zQc (n := 0 - (k : Int)) (by omega) (by omega), zQc (n := 0 - (k : Int) - 1) (by omega) (by omega)] at hb5
   obtain ⟨t', w6, hra, hN6, hf6⟩ := (hN.pu hp5).push (hp3.trans hp5).size hb5 (by
    rw [List.length_append, show (List.map (fun (i : Nat) => -(i : Int) - 1) (List.range k)).length = k by simp]
    have := hlen d.rh.length (Nat.le_refl _); omega)
   refine ⟨t', w6, hra, ?_⟩
   rw [zQc (by omega) (by omega)]
   refine hJ2 _ _ hk4 ⟨by simp, ?_, (hp3.trans hp5).andNew hf6 fun i hi => hN.2 i hi⟩
   rw [List.range_succ, List.map_append, ← List.append_assoc]
   have e : (0 - (k : Int) - 1) = -(k : Int) - 1 := by omega
   rw [e] at hN6
   exact hN6
  ·have hk4 : k = (d.ah n).length := by have := zQg d2; omega
   subst hk4
   exact ⟨t, by rw [uC, if_pos hu], hN, hp3⟩
end Go.Proofs.YtcihcbfcgjepfaaGreatDoor
/- Desks: the record that a user of the reference changes. No condition but those stated. -/
namespace Go.Proofs.YtcihcbfcgjepfaaGreatDoor
open Go.Sh Go.RowKit Tryz
variable {w w' : World} {d d' : zQr} {val : Nat -> List Val}
theorem zKn {g : Bool} {s : SV} {l : List Val} (h : RdV w s l) (hb : l.length <= 1000000) : Calls prog 89 #[.agg #[.bool g, .slice s.a s.len s.cap]] w fun e w' => ∃ q : SV, e = .returned (.agg #[.bool g, .slice q.a q.len q.cap]) /\ zZO w w' q l /\ Pu w w' := by
 refine yJ7 _ _ w _ (alB fun w1 hp1 hb1 => alB fun w2 hp2 hb2 => zQf fun w3 hp3 _ => ?_)
 have b1 := hp3.blk (hp2.blk hb1)
 have b2 := hp3.blk hb2
 have hp := (hp1.trans hp2).trans hp3
 have z1 := hp1.size
 have z2 := hp2.size
 have z3 := hp3.size
 have l1 : w.heap.size < w1.heap.size := zQA hb1
 have l2 : w1.heap.size < w2.heap.size := zQA hb2
 have h1 := h.pu hp
 have hlen := h.len
 obtain ⟨t, w4, hr, hrow, hf, hblk, _⟩ := zQ2 (P := prog) (ty := 75) bu75 yJj rfl (by omega) (zQj.nil w3 28 3) (A := s.a) (m := s.len) (c := s.cap) (news := l.flatMap zXH) (by rw [zQu zQI, hlen]) (fun j x hx => by
  have hj : j < l.length * 3 := by have := (List.getElem?_eq_some_iff.1 hx).1; rwa [zQu zQI] at this
  obtain ⟨v, hv⟩ := zXg (l := l) (k := j / 3) (by omega)
  obtain ⟨a, ha, c0, c1, c2⟩ := h1.get _ v hv
  have h2 := zXP zQI hv (j % 3) (by omega)
  rw [show j / 3 * 3 + j % 3 = j by omega, hx] at h2
  refine ⟨a, ha, ?_⟩
  have e : a.add j = (a.add (j / 3 * 3)).add (j % 3) := by
   rw [Addr.add_add]; congr 1; omega
  rw [e]
  rcases (by omega : j % 3 = 0 ∨ j % 3 = 1 ∨ j % 3 = 2) with e2 | e2 | e2 <;> rw [e2] at h2 ⊢ <;> simp [zXH] at h2 <;> subst h2 <;> assumption) (fun x hx => by
   obtain ⟨y, _, hy⟩ := List.mem_flatMap.1 hx
   simp [zXH] at hy
   rcases hy with rfl | rfl | rfl <;> rfl) (by show (0 + s.len) * (32 + 1) <= _; omega)
 rw [List.nil_append] at hrow
 have hp34 : Pu w3 w4 := (Pu.refl w3).andNew hf fun b hb => by simp [zQb] at hb
 have hnew : ∀ b ∈ zQb t, w3.heap.size <= b := fun b hb => by
  rcases hblk b hb with h | h
  ·simp [zQb] at h
  ·exact h
 refine ⟨fun u => Pu w3 u, Pu.refl _, _, fun u hu => cl0 (hu.blk b1), _, fun u hu => cl (hu.blk b1) 1, t, w4, hr, hp34, zQl (hp34.blk b2) yQw.symm rfl rfl fun w5 hb5 hf5 hs5 => ⟨_, cl hb5 0, _, cl hb5 1, t, rfl, ⟨hrow.fr hf5 fun b hb e => ?_, fun b hb => ?_⟩, (hp.trans hp34).andNew hf5 fun i hi => by have hi : i = w1.heap.size := hi; omega⟩⟩
 ·have := hnew b hb; have e : b = w1.heap.size := e; omega
 ·have := hnew b hb; omega
theorem zYS : ∀ {l : List Chg} {k : Int} {i : Nat} {c : zQy × zQy}, zXo l k = some i -> AL.put l k c = l.set i (k, c)
 | [], k, i, c, h => by simp [zXo] at h
 | (a, b) :: l, k, i, c, h => by
  simp only [zXo, List.findIdx?_cons] at h
  simp only [AL.put]
  by_cases e : a = k
  ·rw [if_pos (by simpa using e)] at h
   cases h
   rw [if_pos e]
   show (a, c) :: l = (k, c) :: l
   rw [e]
  ·rw [if_neg (by simpa using e)] at h
   obtain ⟨j, hj, rfl⟩ := Option.map_eq_some_iff.1 h
   rw [if_neg e, zYS (l := l) (i := j) hj]; rfl
theorem zVr {α : Type} : ∀ {l : List (Int × α)} {k : Int} {c : α}, AL.get l k = none -> AL.put l k c = l ++ [(k, c)]
 | [], k, c, _ => rfl
 | (a, b) :: l, k, c, h => by
  simp only [AL.get] at h
  simp only [AL.put]
  by_cases e : a = k
  ·rw [if_pos e] at h; cases h
  ·rw [if_neg e] at h
   rw [if_neg e, zVr h]; rfl
theorem yQ4 {α : Type} : ∀ {l : List (Int × α)} {k : Int} {b c : α}, AL.get l k = none -> AL.put (l ++ [(k, b)]) k c = l ++ [(k, c)] /\ AL.get (l ++ [(k, b)]) k = some b
 | [], k, b, c, _ => by simp [AL.put, AL.get]
 | (a, x) :: l, k, b, c, h => by
  simp only [AL.get] at h
  by_cases e : a = k
  ·rw [if_pos e] at h; cases h
  ·rw [if_neg e] at h
   obtain ⟨h1, h2⟩ := yQ4 (b := b) (c := c) h
   exact ⟨by simp only [List.cons_append, AL.put, if_neg e, h1], by simp only [List.cons_append, AL.get, if_neg e, h2]⟩
theorem yXr : ∀ {l : List Chg} {k : Int} {c : zQy × zQy}, zXo l k = none -> zXo (l ++ [(k, c)]) k = some l.length
 | [], k, c, _ => by simp [zXo]
 | (a, b) :: l, k, c, h => by
  simp only [zXo, List.findIdx?_cons] at h
  simp only [List.cons_append, zXo, List.findIdx?_cons]
  by_cases e : a = k
  ·rw [if_pos (by simpa using e)] at h; cases h
  ·rw [if_neg (by simpa using e)] at h ⊢
   have h2 : zXo l k = none := by
    cases hq : zXo l k with
    | none => rfl
    | some j => unfold zXo at hq; rw [hq] at h; cases h
   have := yXr (c := c) h2
   unfold zXo at this
   rw [this]; rfl
inductive zKV
 | ap (i : Nat)
 | rc (i : Nat)
 | cg (i : Nat) (k : Int)
def zKV.ok (s : zKV) (d : zQr) (u : Nat) (a : Addr) (x : zQy) : Prop := match s with
 | .ap i => (d.ah u)[i]? = some x /\ ∃ a0, (d.asv u).a = some a0 /\ a = a0.add (i * 2)
 | .rc i => d.rh[i]? = some x /\ ∃ a0, d.rs.a = some a0 /\ a = a0.add (i * 2)
 | .cg i k => zXo (d.ch u) k = some i /\ (∃ c, (d.ch u)[i]? = some (k, (c, x)) /\ AL.get (d.ch u) k = some (c, x)) /\ ∃ a0, (d.cs u).a = some a0 /\ a = (a0.add (i * 5)).add 3
def zKV.chg (s : zKV) (u : Nat) (f : Rec -> Rec) (σ : Dsk) : Dsk := match s with
 | .ap i => σ.setU u { σ.us u with ap := (σ.us u).ap.modify i f }
 | .rc i => { σ with recs := σ.recs.modify i f }
 | .cg i k => σ.setU u { σ.us u with ch := AL.put (σ.us u).ch k (((AL.get (σ.us u).ch k).getD (default, default)).1, f ((AL.get (σ.us u).ch k).getD (default, default)).2) }
theorem zKV.mem {s : zKV} {u : Nat} (hu : u < 4) {a : Addr} {x : zQy} (h : s.ok d u a x) : x ∈ zXf d := by
 cases s with
 | ap i => exact zX8 hu (List.mem_of_getElem? h.1)
 | rc i => exact zQK (List.mem_of_getElem? h.1)
 | cg i k =>
  obtain ⟨_, ⟨c, h1, _⟩, _⟩ := h
  exact (zJc hu (List.mem_of_getElem? h1)).2
theorem zKV.cell {s : zKV} {u : Nat} (hu : u < 4) {a : Addr} {x : zQy} (h : s.ok d u a x) (hR : zQs w d val) : w.cell? (a.add 1) = some (.slice x.s.a x.s.len x.s.cap) := by
 cases s with
 | ap i =>
  obtain ⟨h1, a0, h2, rfl⟩ := h
  obtain ⟨b, hb, _, hc⟩ := (hR.bd.aw u hu).elem zQk h1 (o := 1) (v := .slice x.s.a x.s.len x.s.cap) rfl
  rw [h2] at hb; cases hb
  exact hc
 | rc i =>
  obtain ⟨h1, a0, h2, rfl⟩ := h
  obtain ⟨b, hb, _, hc⟩ := hR.bd.rw_.elem zQk h1 (o := 1) (v := .slice x.s.a x.s.len x.s.cap) rfl
  rw [h2] at hb; cases hb
  exact hc
 | cg i k =>
  obtain ⟨_, ⟨c, h1, _⟩, a0, h2, rfl⟩ := h
  obtain ⟨b, hb, _, hc⟩ := (hR.cs_row hu).elem zZu h1 (o := 4) (v := .slice x.s.a x.s.len x.s.cap) rfl
  rw [h2] at hb; cases hb
  rw [Addr.add_add]; exact hc
theorem xQy (h : zQG w d val) {u : Nat} (hu : u < 4) {k : Int} {c : zQy × zQy} (hc : AL.get (d.ch u) k = some c) : ApC d u k c := by
 have q1 := (yZo hu).1 h.nd
 have q2 := zJz (d.ch u) k c
 rw [zWa hc] at q2
 have q3 : (uH d u ++ zXa d u).Perm (c.1 :: c.2 :: (chH (AL.del (d.ch u) k) ++ d.ah u ++ zXa d u)) := by
  have := (q2.append_right (d.ah u)).append_right (zXa d u)
  simpa [uH] using this
 exact (zXA q3).nodup_iff.1 q1
theorem gen_id {u : Nat} : d.gen u d.o d.rs d.rh (d.asv u) (d.ah u) (d.cs u) (d.ch u) (d.C u) = d := zKZ
theorem zVL {u : Nat} {o' : Nat -> Option zX4} {rh' ah' : List zQy} {C' : Nat} {ch' : List Chg} : zZz (d.gen u o' d.rs rh' (d.asv u) ah' (d.cs u) ch' C') = zZz d := by
 have e1 : (fun v => if v = u then d.asv u else d.asv v) = d.asv := by funext v; by_cases e : v = u <;> simp [e]
 have e2 : (fun v => if v = u then d.cs u else d.cs v) = d.cs := by funext v; by_cases e : v = u <;> simp [e]
 have e3 : (d.gen u o' d.rs rh' (d.asv u) ah' (d.cs u) ch' C').asv = d.asv := e1
 have e4 : (d.gen u o' d.rs rh' (d.asv u) ah' (d.cs u) ch' C').cs = d.cs := e2
 simp only [zZz, e3, e4]
 rfl
theorem zQs.setVal (h : zQs w d val) {x : zQy} (hx : x ∈ zXf d) {a : Addr} (ha : x.s.a = some a) {l' : List Val} (hf : Fr (· ∈ zQb x.s) w w') (hrow : zQj w' 28 3 x.s (l'.flatMap zXH)) : zQs w' d (zX6 val a.block l') := by
 have hb : a.block ∈ zQb x.s := by simp [zQb, ha]
 have hV : d.o a.block = some .V := h.bd.oV _ (zXk hx hb)
 have hf' : Fr (· = a.block) w w' := hf.mono fun i hi _ => by simpa [zQb, ha] using hi
 exact ⟨hf'.blk h.st fun e => (by rw [← show d.S = a.block from e, h.bd.oS] at hV; cases hV), h.bd.setVal hx ha hf' hrow, h.sd⟩
theorem zKV.set {s : zKV} {u : Nat} (hu : u < 4) {a : Addr} {x : zQy} (h : s.ok d u a x) (hR : zQs w d val) {j : Nat} (hj : j < (hv val x).length) (v : Val) {K : World -> Prop}
  (hK : ∀ w' val', zQs w' d val' -> Fr (Own d) w w' -> zQa d val' = s.chg u (setVal j v) (zQa d val) -> K w') : ∃ b, x.s.a = some b /\ j < x.s.len /\ stA prog 28 (b.add (j * 3)) #[.int .i64 v.kind, .int .i64 v.n, .string v.s] w K := by
 have hm := zKV.mem hu h
 have hrow := hR.bd.vr x hm
 have hl := hrow.len zQI (by decide)
 obtain ⟨b, hb⟩ := zXy hrow hj
 obtain ⟨b', hb', hst⟩ := hrow.stElem (P := prog) (t := 28) zQI (by decide) hj v zKR.symm rfl (K := K) fun w' g1 g2 g3 => by
  refine hK w' _ (hR.setVal hm hb g2 g1) (g2.mono fun i hi _ => by rw [Own, hR.bd.oV i (zXk hm hi)]; simp) ?_
  cases s with
  | ap i =>
   have hx : (d.ah u)[i]? = some x := h.1
   have hap : ((zQa d val).us u).ap[i]? = some (toR val x) := by show ((d.ah u).map (toR val))[i]? = _; rw [List.getElem?_map, hx]; rfl
   rw [zVt hR.bd.nd hR.bd.low hu hx hb]
   rw [zXX (f := fun r => { r with v := (hv val x).set j v }) (g := setVal j v) hap rfl]
   rfl
  | rc i =>
   have hx : d.rh[i]? = some x := h.1
   have hap : (zQa d val).recs[i]? = some (toR val x) := by show (d.rh.map (toR val))[i]? = _; rw [List.getElem?_map, hx]; rfl
   rw [zZL hR.bd.nd hR.bd.low hx hb]
   rw [zXX (f := fun r => { r with v := (hv val x).set j v }) (g := setVal j v) hap rfl]
   rfl
  | cg i k =>
   obtain ⟨_, ⟨c, h1, h2⟩, _⟩ := h
   have hA := xQy hR.bd hu h2
   have key := yQn (val := val) (val' := zX6 val b.block ((hv val x).set j v)) (o' := d.o) (cs' := d.cs u) (c2 := x) hR.bd.low hA (fun y hy => zZ2 (hy _ (by simp [zQb, hb])))
   rw [zWa h2, gen_id] at key
   rw [key]
   have e1 : toR (zX6 val b.block ((hv val x).set j v)) x = setVal j v (toR val x) := by rw [toR, zZj hb rfl]; rfl
   rw [e1]
   simp only [zKV.chg]
   rw [zZx, h2]; rfl
 rw [hb] at hb'; cases hb'
 exact ⟨b, hb, by omega, hst⟩
theorem zKV.mark {s : zKV} {u : Nat} (hu : u < 4) {a : Addr} {x : zQy} (h : s.ok d u a x) (hR : zQs w d val) (g : Bool) {K : World -> Prop}
  (hK : ∀ w' d', zQs w' d' val -> Fr (Own d) w w' -> d'.o = d.o -> d'.S = d.S -> zQa d' val = s.chg u (zZD g) (zQa d val) -> K w') : st1 a (.bool g) w K := by
 have hm := zKV.mem hu h
 have hnd := (yZo hu).1 hR.bd.nd
 have e0 : zXa d u = d.rh ++ (zXa d u).drop d.rh.length := by simp [zXa]
 cases s with
 | ap i =>
  obtain ⟨hx, a0, ha, rfl⟩ := h
  have hi : i < (d.ah u).length := (List.getElem?_eq_some_iff.1 hx).1
  have hap : ((zQa d val).us u).ap[i]? = some (toR val x) := by show ((d.ah u).map (toR val))[i]? = _; rw [List.getElem?_map, hx]; rfl
  obtain ⟨a1, ha1, hst⟩ := (hR.bd.aw u hu).stField (i := i) (o := 0) zQk hi (by decide) { x with g := g } (.bool g) (fun y hy => by rw [hx] at hy; cases hy; rfl) (K := K) fun w1 hr1 hf1 hs1 => by
   have own : ∀ b ∈ zQb (d.asv u), d.o b = some (.A u) := hR.bd.oA u hu
   have ne : ∀ {b : Nat} {κ : zX4}, d.o b = some κ -> κ ≠ .A u -> ¬ b ∈ zQb (d.asv u) := fun {b κ} hb hk e => by rw [own b e] at hb; exact hk (Option.some.inj hb).symm
   have hbd : zQG w1 (d.gen u d.o d.rs d.rh (d.asv u) ((d.ah u).set i { x with g := g }) (d.cs u) (d.ch u) (d.C u)) val := by
    refine hR.bd.gen hu hf1 (fun b κ hb _ _ hk _ => ⟨ne hb hk, hb⟩) hR.bd.oS (hR.bd.rw_.fr hf1 fun b hb => ne (hR.bd.oR b hb) (by simp)) hR.bd.oR hr1 own (fun e => ⟨(hR.bd.mp e u hu).fr hf1 (ne (hR.bd.oC e u hu) (by simp)), hR.bd.oC e u hu⟩) (fun e => ⟨(hR.bd.ml e u hu).fr hf1 fun b hb => ne (hR.bd.oK e u hu b hb) (by simp), hR.bd.oK e u hu⟩) (fun y hy => ?_) ?_ (fun b hb => Nat.lt_of_lt_of_le (hR.bd.lt b hb) hf1.size)
    ·left
     simp only [List.mem_append] at hy
     rcases hy with (hy | hy) | hy
     ·exact ⟨y, zZn hu (List.mem_append_left _ hy), rfl⟩
     ·rcases List.mem_or_eq_of_mem_set hy with hy | rfl
      ·exact ⟨y, zX8 hu hy, rfl⟩
      ·exact ⟨x, hm, rfl⟩
     ·exact ⟨y, zQK hy, rfl⟩
    ·rw [e0] at hnd
     unfold zKM
     rw [zQt, zQt, zWk (y := { x with g := g }) hx rfl, ← zQt, ← zQt]
     exact hnd
   refine hK w1 _ ⟨?_, hbd, hR.sd⟩ (hf1.mono fun c hc _ => by rw [Own, own c hc]; simp) rfl rfl ?_
   ·rw [zVL]
    exact hf1.blk hR.st (ne hR.bd.oS (by simp))
   ·rw [zWq, List.map_set]
    have e1 : toR val { x with g := g } = zZD g (toR val x) := rfl
    rw [e1, show (d.ah u).map (toR val) = ((zQa d val).us u).ap from rfl, zXO hap]
    rfl
  rw [ha] at ha1; cases ha1
  rw [yQM] at hst
  exact hst
 | rc i =>
  obtain ⟨hx, a0, ha, rfl⟩ := h
  have hi : i < d.rh.length := (List.getElem?_eq_some_iff.1 hx).1
  have hap : (zQa d val).recs[i]? = some (toR val x) := by show (d.rh.map (toR val))[i]? = _; rw [List.getElem?_map, hx]; rfl
  obtain ⟨a1, ha1, hst⟩ := hR.bd.rw_.stField (i := i) (o := 0) zQk hi (by decide) { x with g := g } (.bool g) (fun y hy => by rw [hx] at hy; cases hy; rfl) (K := K) fun w1 hr1 hf1 hs1 => by
   have own : ∀ b ∈ zQb d.rs, d.o b = some .R := hR.bd.oR
   have ne : ∀ {b : Nat} {κ : zX4}, d.o b = some κ -> κ ≠ .R -> ¬ b ∈ zQb d.rs := fun {b κ} hb hk e => by rw [own b e] at hb; exact hk (Option.some.inj hb).symm
   have hbd : zQG w1 (d.gen u d.o d.rs (d.rh.set i { x with g := g }) (d.asv u) (d.ah u) (d.cs u) (d.ch u) (d.C u)) val := by
    refine hR.bd.gen hu hf1 (fun b κ hb _ hk _ _ => ⟨ne hb hk, hb⟩) hR.bd.oS hr1 own ((hR.bd.aw u hu).fr hf1 fun b hb => ne (hR.bd.oA u hu b hb) (by simp)) (hR.bd.oA u hu) (fun e => ⟨(hR.bd.mp e u hu).fr hf1 (ne (hR.bd.oC e u hu) (by simp)), hR.bd.oC e u hu⟩) (fun e => ⟨(hR.bd.ml e u hu).fr hf1 fun b hb => ne (hR.bd.oK e u hu b hb) (by simp), hR.bd.oK e u hu⟩) (fun y hy => ?_) ?_ (fun b hb => Nat.lt_of_lt_of_le (hR.bd.lt b hb) hf1.size)
    ·left
     simp only [List.mem_append] at hy
     rcases hy with (hy | hy) | hy
     ·exact ⟨y, zZn hu (List.mem_append_left _ hy), rfl⟩
     ·exact ⟨y, zX8 hu hy, rfl⟩
     ·rcases List.mem_or_eq_of_mem_set hy with hy | rfl
      ·exact ⟨y, zQK hy, rfl⟩
      ·exact ⟨x, hm, rfl⟩
    ·rw [e0] at hnd
     unfold zKM
     rw [zQt, zQt (d.rh.set _ _), zWk (y := { x with g := g }) hx rfl, ← zQt, ← zQt]
     exact hnd
   refine hK w1 _ ⟨?_, hbd, hR.sd⟩ (hf1.mono fun c hc _ => by rw [Own, own c hc]; simp) rfl rfl ?_
   ·rw [zVL]
    exact hf1.blk hR.st (ne hR.bd.oS (by simp))
   ·rw [zKZ]
    have e1 : toR val { x with g := g } = zZD g (toR val x) := rfl
    show ({ zQa d val with recs := (d.rh.set i { x with g := g }).map (toR val) } : Dsk) = { zQa d val with recs := (zQa d val).recs.modify i (zZD g) }
    rw [List.map_set, e1, show d.rh.map (toR val) = (zQa d val).recs from rfl, zXO hap]
  rw [ha] at ha1; cases ha1
  rw [yQM] at hst
  exact hst
 | cg i k =>
  obtain ⟨hfi, ⟨c, hx, hg⟩, a0, ha, rfl⟩ := h
  have hi : i < (d.ch u).length := (List.getElem?_eq_some_iff.1 hx).1
  have hA := xQy hR.bd hu hg
  obtain ⟨a1, ha1, hst⟩ := (hR.cs_row hu).stField (i := i) (o := 3) zZu hi (by decide) (k, (c, { x with g := g })) (.bool g) (fun y hy => by rw [hx] at hy; cases hy; rfl) (K := K) fun w1 hr1 hf1 hs1 => by
   have own : ∀ b ∈ zQb (d.cs u), d.o b = some (.C u) := hR.bd.oK hR.sd u hu
   have ne : ∀ {b : Nat} {κ : zX4}, d.o b = some κ -> κ ≠ .C u -> ¬ b ∈ zQb (d.cs u) := fun {b κ} hb hk e => by rw [own b e] at hb; exact hk (Option.some.inj hb).symm
   rw [← zYS (c := (c, { x with g := g })) hfi] at hr1
   have hbd : zQG w1 (d.gen u d.o d.rs d.rh (d.asv u) (d.ah u) (d.cs u) (AL.put (d.ch u) k (c, { x with g := g })) (d.C u)) val := by
    refine hR.bd.gen hu hf1 (fun b κ hb _ _ _ hk => ⟨ne hb hk, hb⟩) hR.bd.oS (hR.bd.rw_.fr hf1 fun b hb => ne (hR.bd.oR b hb) (by simp)) hR.bd.oR ((hR.bd.aw u hu).fr hf1 fun b hb => ne (hR.bd.oA u hu b hb) (by simp)) (hR.bd.oA u hu) (fun e => absurd (e.symm.trans hR.sd) (by simp)) (fun e => ⟨hr1, own⟩) (fun y hy => ?_) (hA.gen hu rfl) (fun b hb => Nat.lt_of_lt_of_le (hR.bd.lt b hb) hf1.size)
    left
    simp only [List.mem_append] at hy
    rcases hy with (hy | hy) | hy
    ·have := (zJz (d.ch u) k (c, { x with g := g })).mem_iff.1 hy
     have mc := zJc hu (List.mem_of_getElem? hx)
     rcases List.mem_cons.1 this with rfl | this
     ·exact ⟨_, mc.1, rfl⟩
     ·rcases List.mem_cons.1 this with rfl | this
      ·exact ⟨x, hm, rfl⟩
      ·exact ⟨y, zZn hu (List.mem_append_left _ (yQN this)), rfl⟩
    ·exact ⟨y, zX8 hu hy, rfl⟩
    ·exact ⟨y, zQK hy, rfl⟩
   refine hK w1 _ ⟨?_, hbd, hR.sd⟩ (hf1.mono fun c hc _ => by rw [Own, own c hc]; simp) rfl rfl ?_
   ·rw [zVL]
    exact hf1.blk hR.st (ne hR.bd.oS (by simp))
   ·have key := yQn (val := val) (val' := val) (o' := d.o) (cs' := d.cs u) (c2 := { x with g := g }) hR.bd.low hA (fun y hy => rfl)
    rw [key]
    simp only [zKV.chg]
    rw [zZx, hg]; rfl
  rw [ha] at ha1; cases ha1
  exact hst
end Go.Proofs.YtcihcbfcgjepfaaGreatDoor
/- Desks: the reference opens a record to be changed. No condition but those stated. -/
namespace Go.Proofs.YtcihcbfcgjepfaaGreatDoor
open Go.Sh Go.RowKit Tryz
variable {w w' : World} {d d' : zQr} {val : Nat -> List Val}
theorem bu120 : prog.underlying 120 = some (.slice 136) := by kernel_rfl
theorem yVR : (prog.info? 136).map (fun i => (i.zero, i.size, i.bytes)) = some (some (.agg #[.int .i64 0, .bool false, .slice none 0 0, .bool false, .slice none 0 0]), 5, 72) := by kernel_rfl
theorem cg_fin (h : zQs w d val) {u : Nat} (hu : u < 4) {c : Chg} {r' : SV} {w5 : World} (hst : w5.heap[d.S]? = some (.cells (zZz { d with cs := fun v => if v = u then r' else d.cs v }) 125)) (hrow : zQj w5 136 5 r' ((d.ch u ++ [c]).flatMap chC))
  (hb : ∀ b ∈ zQb r', b ∈ zQb (d.cs u) ∨ w.heap.size <= b) (hf : Fr (fun b => b = d.S ∨ b ∈ zQb (d.cs u)) w w5) (h1 : zQj w 28 3 c.2.1.s ((hv val c.2.1).flatMap zXH)) (h2 : zQj w 28 3 c.2.2.s ((hv val c.2.2).flatMap zXH))
  (o1 : ∀ b ∈ zQb c.2.1.s, d.o b = some .V) (o2 : ∀ b ∈ zQb c.2.2.s, d.o b = some .V) (n1 : ∀ b ∈ zQb c.2.1.s, b ∉ vB (zXf d)) (n2 : ∀ b ∈ zQb c.2.2.s, b ∉ vB (zXf d)) (n12 : ∀ b ∈ zQb c.2.1.s, b ∉ zQb c.2.2.s) :
  ∃ d', zQ1 w w5 d d' val /\ d'.ch u = d.ch u ++ [c] /\ d'.cs u = r' /\ zQa d' val = (zQa d val).setU u { (zQa d val).us u with ch := ((zQa d val).us u).ch ++ [toC val c] } := by
 have oR := h.bd.oK h.sd u hu
 have ne : ∀ {b : Nat} {κ : zX4}, d.o b = some κ -> κ ≠ .S -> κ ≠ .C u -> ¬ (b = d.S ∨ b ∈ zQb (d.cs u)) := fun {b κ} hb h1 h3 e => by
  rcases e with e | e
  ·rw [e, h.bd.oS] at hb; exact h1 (Option.some.inj hb).symm
  ·rw [oR b e] at hb; exact h3 (Option.some.inj hb).symm
 have up : ∀ {b : Nat} {κ : zX4}, d.o b = some κ -> κ ≠ .C u -> (if b ∈ zQb r' then some (zX4.C u) else d.o b) = some κ := fun {b κ} hbo hk => by
  have hlw : b < w.heap.size := h.bd.lt b (by rw [hbo]; simp)
  rw [if_neg fun e => ?_]
  ·exact hbo
  ·rcases hb b e with e | e
   ·rw [oR b e] at hbo; exact hk (Option.some.inj hbo).symm
   ·omega
 have hbd := h.bd.gen hu (o' := fun b => if b ∈ zQb r' then some (.C u) else d.o b) (rs' := d.rs) (rh' := d.rh) (as' := d.asv u) (ah' := d.ah u) (cs' := r') (ch' := d.ch u ++ [c]) (C' := d.C u) hf
  (fun b κ hbo k1 k2 k3 k4 => ⟨ne hbo k1 k4, up hbo k4⟩) (up h.bd.oS (by simp)) (h.bd.rw_.fr hf fun b hb => ne (h.bd.oR b hb) (by simp) (by simp)) (fun b hb => up (h.bd.oR b hb) (by simp)) ((h.bd.aw u hu).fr hf fun b hb => ne (h.bd.oA u hu b hb) (by simp) (by simp)) (fun b hb => up (h.bd.oA u hu b hb) (by simp))
  (fun e => absurd (e.symm.trans h.sd) (by simp)) (fun _ => ⟨hrow, fun b hb2 => if_pos hb2⟩)
  (fun z hz => by
   have e : chH (d.ch u ++ [c]) = chH (d.ch u) ++ [c.2.1, c.2.2] := by simp [chH]
   rw [e] at hz
   simp only [List.mem_append, List.mem_cons, List.not_mem_nil, or_false] at hz
   rcases hz with ((hz | rfl | rfl) | hz) | hz
   ·exact .inl ⟨z, zZn hu (List.mem_append_left _ hz), rfl⟩
   ·exact .inr ⟨h1.fr hf fun b hb => ne (o1 b hb) (by simp) (by simp), fun b hb => up (o1 b hb) (by simp)⟩
   ·exact .inr ⟨h2.fr hf fun b hb => ne (o2 b hb) (by simp) (by simp), fun b hb => up (o2 b hb) (by simp)⟩
   ·exact .inl ⟨z, zX8 hu hz, rfl⟩
   ·exact .inl ⟨z, zQK hz, rfl⟩) (by
   have e : zXa d u = d.rh ++ (zXa d u).drop d.rh.length := by simp [zXa]
   have p : (zKM d u d.rh (d.ah u) (d.ch u ++ [c])).Perm (c.2.1 :: c.2.2 :: (uH d u ++ zXa d u)) := by
    unfold zKM
    rw [← e]
    have e2 : chH (d.ch u ++ [c]) = chH (d.ch u) ++ [c.2.1, c.2.2] := by simp [chH]
    rw [e2]
    have := List.perm_append_comm_assoc (chH (d.ch u)) [c.2.1, c.2.2] (d.ah u ++ zXa d u)
    simpa [uH, List.append_assoc] using this
   refine (zXA p).nodup_iff.2 ?_
   rw [zXd, zXd]
   have q : ∀ b, b ∈ vB (uH d u ++ zXa d u) -> b ∈ vB (zXf d) := fun b hb => (zXA (zJg d hu)).mem_iff.2 hb
   refine List.nodup_append.2 ⟨zWE _, List.nodup_append.2 ⟨zWE _, (yZo hu).1 h.bd.nd, fun a ha b hb e => ?_⟩, fun a ha b hb e => ?_⟩
   ·subst e; exact n2 a ha (q a hb)
   ·subst e
    rcases List.mem_append.1 hb with hb | hb
    ·exact n12 a ha hb
    ·exact n1 a ha (q a hb)) (fun b hbo => by
   by_cases e2 : b ∈ zQb r'
   ·exact hrow.lt b e2
   ·rw [if_neg e2] at hbo
    exact Nat.lt_of_lt_of_le (h.bd.lt b hbo) hf.size)
 have hC : zZz (d.gen u (fun b => if b ∈ zQb r' then some (.C u) else d.o b) d.rs d.rh (d.asv u) (d.ah u) r' (d.ch u ++ [c]) (d.C u)) = zZz { d with cs := fun v => if v = u then r' else d.cs v } := by
  have e : ∀ {α : Type} (f : Nat -> α), (fun v => if v = u then f u else f v) = f := fun f => by funext v; by_cases e : v = u <;> simp [e]
  simp only [zQr.gen, e]
  rfl
 refine ⟨d.gen u (fun b => if b ∈ zQb r' then some (.C u) else d.o b) d.rs d.rh (d.asv u) (d.ah u) r' (d.ch u ++ [c]) (d.C u), ⟨⟨by rw [hC]; exact hst, hbd, h.sd⟩, hf.mono fun i hi _ => ?_, fun b hbo => ?_, rfl⟩, by simp [zQr.gen], by simp [zQr.gen], ?_⟩
 ·rcases hi with rfl | hi
  ·rw [h.bd.oS]; simp
  ·rw [oR i hi]; simp
 ·have hbo : (if b ∈ zQb r' then some (zX4.C u) else d.o b) ≠ none := hbo
  by_cases e2 : b ∈ zQb r'
  ·rcases hb b e2 with h1 | h1
   ·left; rw [oR b h1]; simp
   ·right; exact h1
  ·rw [if_neg e2] at hbo; exact .inl hbo
 ·simp only [zQa, Dsk.setU, Dsk.mk.injEq]
  refine ⟨rfl, rfl, rfl, ?_, rfl⟩
  funext v
  by_cases e : v = u
  ·subst e; simp [zJ2, zQr.gen]
  ·simp [zJ2, zQr.gen, e]
theorem Inv.lock {σ : Dsk} (h : Inv σ) {u : Nat} (hu : u < 4) (h1 : 1 <= (σ.us u).at_) : Inv (lockS u σ) := by
 unfold lockS
 show Inv (if _ then σ else _)
 split
 ·exact h
 ·exact ⟨h.pg, h.vf, h.gr, h.ga, h.gc, h.cn, h.at_, h.rw_, h.nn, fun k v hv => by
   have hv : (if k = (σ.us u).at_ then some (u : Int) else σ.lk k) = some v := hv
   split at hv
   ·next e =>
    have := h.at_ u hu
    have hv := Option.some.inj hv
    exact ⟨by omega, by show k <= (σ.recs.length : Int); omega, by omega, by omega⟩
   ·exact h.lr k v hv⟩
def yZ4 (w : World) (d : zQr) (u : Nat) (σ' : (Rec -> Rec) -> Dsk) (n : Nat) (p : Option Addr) (w' : World) : Prop := ∃ a d' val' s x, p = some a /\ zQ1 w w' d d' val' /\ zKV.ok s d' u a x /\ (hv val' x).length = n /\ ∀ f, s.chg u f (zQa d' val') = σ' f
theorem rOpen1 (h : zQs w d val) (hI : Inv (zQa d val)) {u : Nat} (hu : u < 4) (h1 : 1 <= d.at_ u) (h2 : d.at_ u <= d.rh.length) {R : Rt}
  (hR : ∀ w' p, yZ4 w d u (fun f => (zQa d val).setU u { (zQa d val).us u with ch := AL.put ((zQa d val).us u).ch (d.at_ u) (((AL.get ((zQa d val).us u).ch (d.at_ u)).getD (recK (zQa d val) (d.at_ u), recK (zQa d val) (d.at_ u))).1, f ((AL.get ((zQa d val).us u).ch (d.at_ u)).getD (recK (zQa d val) (d.at_ u), recK (zQa d val) (d.at_ u))).2) }) d.flds.length p w' -> R (.returned (.tuple #[.pointer p, .int .i64 0])) w') :
  zWy R (some ⟨d.S, 0, none⟩) (some (((⟨d.S, 0, none⟩ : Addr).add 3).add ((u : Int).toNat * 4))) (match zXo (d.ch u) (d.at_ u) with | some i => (i : Int) | none => -1) (decide ((match zXo (d.ch u) (d.at_ u) with | some i => (i : Int) | none => -1) < 0)) [] w := by
 have hcl := h.cs_len hu
 have hrl := h.rs_len
 have hc3 := hI.chl hu
 have hr3 := hI.rh
 have hf16 : d.flds.length <= 16 := hI.f16
 have hl1 : 0 < d.flds.length := List.length_pos_iff.2 (zQE hI.vf).1
 cases hfi : zXo (d.ch u) (d.at_ u) with
 | some i =>
  obtain ⟨c, hci, hg⟩ := zJn hfi
  have hil := yQO hfi
  have mc := zJc hu (List.mem_of_getElem? hci)
  refine Br.of (fun c => by have := zQn c; dsimp only at this; omega) (fun _ => ?_)
  obtain ⟨a, ea, _, _⟩ := (h.cs_row hu).elem zZu hci (o := 0) rfl
  refine ⟨d.cs u, h.uCs hu, a, ea, by dsimp only; omega, by dsimp only; omega, hR w _ ⟨_, d, val, .cg i (d.at_ u), c.2, rfl, zQ1.refl h, ⟨hfi, ⟨c.1, hci, hg⟩, a, ea, ?_⟩, (h.read hI mc.2).2, fun f => ?_⟩⟩
  ·rw [zQL]
  ·simp only [zKV.chg]
   rw [zZx, hg]; rfl
 | none =>
  have hg := zJR hfi
  refine Br.of (fun _ => zQf fun w1 hp1 _ => ?_) (fun c => by have := zQg c; dsimp only at this; omega)
  have hlt : (d.at_ u - 1).toNat < d.rh.length := by omega
  obtain ⟨x, hx⟩ := zXg hlt
  have hxm := zQK (List.mem_of_getElem? hx)
  have hA1 := h.pu hp1
  have rd := h.read hI hxm
  obtain ⟨a, ea, _, g0⟩ := hA1.bd.rw_.elem zQk hx (o := 0) (v := .bool x.g) rfl
  obtain ⟨a', ea', _, g1⟩ := hA1.bd.rw_.elem zQk hx (o := 1) (v := .slice x.s.a x.s.len x.s.cap) rfl
  rw [ea] at ea'; cases ea'
  refine ⟨fun y => Pu w1 y, Pu.refl _, d.rs, fun y hy => hy.cell hA1.recs, d.at_ u, fun y hy => hy.cell (hA1.uAt hu), a, ea, ?_⟩
  rw [zQc (n := d.at_ u - 1) (by omega) (by omega)]
  refine ⟨by omega, by omega, x.g, fun y hy => hy.cell g0, x.s, fun y hy => hy.cell g1, alB fun w5 hp5 hb5 => ⟨hp5, zQl hb5 yQw.symm rfl rfl fun w6 hb6 hf6 _ => zQf fun w7 hp7 _ => ?_⟩⟩
  have hp16 : Pu w1 w6 := hp5.andNew hf6 fun i hi => by rw [show i = w1.heap.size from hi]; exact Nat.le_refl _
  have hp17 := hp16.trans hp7
  have hp07 := hp1.trans hp17
  have hA7 := h.pu hp07
  have hb7 := hp7.blk hb6
  refine ⟨fun y => Pu w7 y, Pu.refl _, d.cs u, fun y hy => hy.cell (hA7.uCs hu), d.at_ u, fun y hy => hy.cell (hA7.uAt hu), x.g, fun y hy => cl (hy.blk hb7) 0, x.s, fun y hy => cl (hy.blk hb7) 1, x.g, fun y hy => cl (hy.blk hb7) 0, x.s, fun y hy => cl (hy.blk hb7) 1, (zKn (rd.1.pu hp07) (by rw [rd.2]; omega)).mono ?_⟩
  rintro e w10 ⟨s1, rfl, n1, hp10⟩
  refine ⟨_, s1, rfl, hp10, (zKn ((rd.1.pu hp07).pu hp10) (by rw [rd.2]; omega)).mono ?_⟩
  rintro e w11 ⟨s2, rfl, n2, hp11⟩
  refine ⟨_, s2, rfl, hp10.trans hp11, alB fun w12 hp12 hb12 => ⟨(hp10.trans hp11).trans hp12, ?_⟩⟩
  have hp7c := (hp10.trans hp11).trans hp12
  have hA12 := hA7.pu hp7c
  obtain ⟨a1, ea1⟩ := zXy (i := 0) n1.1 (by rw [rd.2]; omega)
  obtain ⟨a2, ea2⟩ := zXy (i := 0) n2.1 (by rw [rd.2]; omega)
  have bk1 : zQb s1 = [a1.block] := by simp [zQb, ea1]
  have bk2 : zQb s2 = [a2.block] := by simp [zQb, ea2]
  have m1 : w7.heap.size <= a1.block := n1.2 _ (by rw [bk1]; simp)
  have m1' : a1.block < w10.heap.size := n1.1.lt _ (by rw [bk1]; simp)
  have m2 : w10.heap.size <= a2.block := n2.2 _ (by rw [bk2]; simp)
  have m2' : a2.block < w11.heap.size := n2.1.lt _ (by rw [bk2]; simp)
  have z0 := hp07.size
  have z12 := hp12.size
  have z10 := hp10.size
  have ou1 : d.o a1.block = none := h.bd.out (by omega)
  have bd1 := hA12.bd.ad ou1 (by omega) (hv val x)
  have ou2 : (d.ad a1.block).o a2.block = none := by
   show (if a2.block = a1.block then _ else _) = _
   rw [if_neg (by omega)]; exact h.bd.out (by omega)
  have bd2 := bd1.ad ou2 (by omega) (hv val x)
  have hA : zQs w12 ((d.ad a1.block).ad a2.block) (zX6 (zX6 val a1.block (hv val x)) a2.block (hv val x)) := ⟨hA12.st, bd2, hA12.sd⟩
  have v1 : hv (zX6 (zX6 val a1.block (hv val x)) a2.block (hv val x)) ⟨x.g, s1⟩ = hv val x := by
   rw [zZJ (by show a2.block ∉ zQb s1; rw [bk1]; simp; omega)]
   exact zZj ea1 rfl
  have v2 : hv (zX6 (zX6 val a1.block (hv val x)) a2.block (hv val x)) ⟨x.g, s2⟩ = hv val x := zZj ea2 rfl
  have ha4 : zQa ((d.ad a1.block).ad a2.block) (zX6 (zX6 val a1.block (hv val x)) a2.block (hv val x)) = zQa d val := by
   rw [zV2 bd1 ou2, zV2 hA12.bd ou1]
  have ob : ∀ b, b = a1.block ∨ b = a2.block -> ((d.ad a1.block).ad a2.block).o b = some .V := fun b hb => by
   show (if b = a2.block then some zX4.V else if b = a1.block then some .V else d.o b) = _
   rcases hb with hb | hb
   ·rw [if_neg (by omega), if_pos hb]
   ·rw [if_pos hb]
  have nlt : ∀ b ∈ vB (zXf d), b < w.heap.size := fun b hb => h.bd.lt b (by rw [h.bd.oV b hb]; simp)
  -- the change at the end of the row
  obtain ⟨r', w13, hra, hrow13, hf13, hblk13, hlen13⟩ := zQ2 (P := prog) (ty := 120) bu120 yVR rfl (by omega) (hA12.cs_row hu) (A := some ⟨w11.heap.size, 0, none⟩) (m := 1) (c := 1) (news := chC (d.at_ u, (⟨x.g, s1⟩, ⟨x.g, s2⟩))) rfl (fun j y hy => ⟨_, rfl, by rw [cl hb12]; simpa using hy⟩) (fun y hy => by simp at hy; rcases hy with rfl | rfl | rfl | rfl | rfl <;> rfl) (by show ((d.cs u).len + 1) * (72 + 1) <= _; omega)
  refine ⟨r', w13, hra, ?_⟩
  have oC := h.bd.oK h.sd u hu
  have nS : ¬ d.S ∈ zQb (d.cs u) := fun e => by have := oC _ e; rw [h.bd.oS] at this; cases this
  have hst13 := hf13.blk hA12.st nS
  rw [zJp, zQ9, zQe]
  refine zQv hst13 (by show 3 + u * 4 + 2 < 20; omega) fun w15 hw15 hb15 => ?_
  have hf15 : Fr (· = d.S) w13 w15 := by rw [hw15]; exact Fr.cell w13 _ _ _
  rw [yQt hu] at hb15
  have hrow13 : zQj w13 136 5 r' ((d.ch u ++ [((d.at_ u, ((⟨x.g, s1⟩ : zQy), (⟨x.g, s2⟩ : zQy))) : Chg)]).flatMap chC) := by rw [List.flatMap_append, List.flatMap_singleton]; exact hrow13
  have nS' : ∀ b ∈ zQb r', ¬ b = d.S := fun b hb e => by
   rcases hblk13 b hb with h1 | h1
   ·rw [e] at h1; exact nS h1
   ·have h2 := h.bd.lt d.S (by rw [h.bd.oS]; simp); omega
  have hF : Fr (fun b => b = d.S ∨ b ∈ zQb (d.cs u)) w12 w15 := (hf13.mono (B' := fun b => b = d.S ∨ b ∈ zQb (d.cs u)) fun i hi _ => .inr hi).trans hf15 fun i hi _ => .inl hi
  obtain ⟨d', hL, hch, hcs, habs⟩ := cg_fin hA hu (c := (d.at_ u, (⟨x.g, s1⟩, ⟨x.g, s2⟩))) (r' := r') hb15 (hrow13.fr hf15 nS') hblk13 hF (by rw [v1]; exact (n1.1.pu hp11).pu hp12) (by rw [v2]; exact n2.1.pu hp12)
   (fun b hb => ob b (.inl (by have hb : b ∈ zQb s1 := hb; rw [bk1] at hb; simpa using hb))) (fun b hb => ob b (.inr (by have hb : b ∈ zQb s2 := hb; rw [bk2] at hb; simpa using hb)))
   (fun b hb hbx => by have hb : b ∈ zQb s1 := hb; rw [bk1] at hb; simp at hb; have := nlt b hbx; omega) (fun b hb hbx => by have hb : b ∈ zQb s2 := hb; rw [bk2] at hb; simp at hb; have := nlt b hbx; omega)
   (fun b hb hbx => by have hb : b ∈ zQb s1 := hb; have hbx : b ∈ zQb s2 := hbx; rw [bk1] at hb; rw [bk2] at hbx; simp at hb hbx; omega)
  have cs15 : w15.cell? ((uR d u).add 2) = some (.slice r'.a r'.len r'.cap) := by
   rw [zQe, zQo hb15]
   have := yYs (d := { d with cs := fun v => if v = u then r' else d.cs v }) hu
   simpa using this
  have hrow15 := hrow13.fr hf15 nS'
  have hrl15 := hrow15.len zZu (by decide)
  rw [List.length_append, List.length_singleton] at hrl15
  have hlast : (d.ch u ++ [((d.at_ u, ((⟨x.g, s1⟩ : zQy), (⟨x.g, s2⟩ : zQy))) : Chg)])[(d.ch u).length]? = some (d.at_ u, ((⟨x.g, s1⟩ : zQy), (⟨x.g, s2⟩ : zQy))) := by simp
  obtain ⟨p, ep, _, _⟩ := hrow15.elem zZu hlast (o := 0) rfl
  refine ⟨r', cs15, r', cs15, p, ep, ?_⟩
  have ew : IntKind.i64.wrap (((r'.len : Nat) : Int) - 1) = ((d.ch u).length : Int) := by rw [zQc (by omega) (by omega)]; omega
  rw [ew]
  refine ⟨by omega, by omega, hR w15 _ ⟨_, d', _, .cg (d.ch u).length (d.at_ u), ⟨x.g, s2⟩, rfl, ?_, ⟨?_, ⟨⟨x.g, s1⟩, ?_, ?_⟩, p, by rw [hcs]; exact ep, by rw [zQL]⟩, by rw [v2]; exact rd.2, fun f => ?_⟩⟩
  ·have L0 : zQ1 w w12 d ((d.ad a1.block).ad a2.block) (zX6 (zX6 val a1.block (hv val x)) a2.block (hv val x)) := ⟨hA, Fr.pu (hp07.trans hp7c), fun b hb => by
    have hb : (if b = a2.block then some zX4.V else if b = a1.block then some .V else d.o b) ≠ none := hb
    by_cases q2 : b = a2.block
    ·right; omega
    ·by_cases q1 : b = a1.block
     ·right; omega
     ·rw [if_neg q2, if_neg q1] at hb; exact .inl hb, rfl⟩
   exact L0.trans hL
  ·rw [hch]; exact yXr hfi
  ·rw [hch]; exact hlast
  ·rw [hch]; exact (yQ4 (c := ((⟨x.g, s1⟩ : zQy), (⟨x.g, s2⟩ : zQy))) hg).2
  ·have recE : recK (zQa d val) (d.at_ u) = toR val x := by
    unfold recK
    show (d.rh.map (toR val)).getD _ _ = _
    rw [List.getD_eq_getElem?_getD, List.getElem?_map, hx]; rfl
   have hgA : AL.get ((zQa d val).us u).ch (d.at_ u) = none := by rw [zZx, hg]; rfl
   have eC : toC (zX6 (zX6 val a1.block (hv val x)) a2.block (hv val x)) (d.at_ u, ((⟨x.g, s1⟩ : zQy), (⟨x.g, s2⟩ : zQy))) = (d.at_ u, (toR val x, toR val x)) := by
    simp only [toC, toR, v1, v2]
   rw [habs, ha4, eC]
   simp only [zKV.chg]
   have eU : (((zQa d val).setU u { (zQa d val).us u with ch := ((zQa d val).us u).ch ++ [(d.at_ u, (toR val x, toR val x))] }).us u) = { (zQa d val).us u with ch := ((zQa d val).us u).ch ++ [(d.at_ u, (toR val x, toR val x))] } := by simp [Dsk.setU]
   rw [eU, hgA, recE]
   have pe := fun c => yQ4 (b := (toR val x, toR val x)) (c := c) hgA
   simp only [(pe (default, default)).2, (pe _).1, zVr hgA, Option.getD_some, Option.getD_none]
   simp only [Dsk.setU, Dsk.mk.injEq, true_and, and_true]
   funext v
   by_cases e : v = u <;> simp [e]
theorem yWP (h : zQs w d val) (hI : Inv (zQa d val)) {u : Nat} (hu : u < 4) (h0 : d.at_ u ≠ 0) (hM : 0 <= d.mode u /\ d.mode u <= 4) :
  Calls prog 123 #[d.ptr, .int .i64 (u : Int)] w fun e w' => ∃ p : Option Addr, e = .returned (.tuple #[.pointer p, .int .i64 (lockC u (zQa d val))]) /\
   ((lockC u (zQa d val) ≠ 0 /\ Pu w w') ∨ (lockC u (zQa d val) = 0 /\ yZ4 w d u (fun f => alterS u f (zQa d val)) d.flds.length p w')) := by
 have eM : ((zQa d val).us u).mode = d.mode u := rfl
 have eA : ((zQa d val).us u).at_ = d.at_ u := rfl
 have eK : (zQa d val).lk = d.lk := rfl
 have hat := hI.at_ u hu
 rw [eA, zX0, show (zQa d val).recs.length = d.rh.length by simp [zQa]] at hat
 have hal := h.as_len hu
 have hrl := h.rs_len
 have hr3 := hI.rh
 have ha3 := hI.ah hu
 have hc3 := hI.chl hu
 refine yZs _ _ w _ ⟨(u4 hu).1, (u4 hu).2, d.at_ u, h.uAt hu, Br.of (fun c => zQf fun w1 hp1 _ => ?_) (fun c => zQf fun w1 hp1 _ => ?_)⟩
 ·have c : d.at_ u < 0 := zQn c
  have h1 := h.pu hp1
  have hlt : (-d.at_ u - 1).toNat < (d.ah u).length := by omega
  obtain ⟨x, hx⟩ := zXg hlt
  obtain ⟨a, ea, _, _⟩ := (h1.bd.aw u hu).elem zQk hx (o := 0) (v := .bool x.g) rfl
  have ew : IntKind.i64.wrap ((IntKind.i64.wrap (0 - d.at_ u)) - 1) = -d.at_ u - 1 := by rw [zQc (n := 0 - d.at_ u) (by omega) (by omega), zQc (by omega) (by omega)]; omega
  have hC : lockC u (zQa d val) = 0 := by simp only [lockC, eM, eA]; rw [if_pos (.inr (.inr c))]
  refine ⟨d.asv u, h1.uAp hu, d.at_ u, h1.uAt hu, a, ea, ?_⟩
  rw [ew]
  refine ⟨by omega, by omega, _, by rw [hC], .inr ⟨hC, _, d, val, .ap (-d.at_ u - 1).toNat, x, rfl, zQ1.pu h hp1, ⟨hx, a, ea, rfl⟩, (h.read hI (zX8 hu (List.mem_of_getElem? hx))).2, fun f => ?_⟩⟩
  simp only [alterS, eA, zKV.chg]
  rw [if_pos c]
 have c : ¬ d.at_ u < 0 := zQg c
 have h1 := h.pu hp1
 obtain ⟨l, hl, hk⟩ := h1.lm
 -- no one else has the lock
 have free : lockC u (zQa d val) = 0 -> zYg (fun e w' => ∃ p : Option Addr, e = .returned (.tuple #[.pointer p, .int .i64 (lockC u (zQa d val))]) /\ ((lockC u (zQa d val) ≠ 0 /\ Pu w w') ∨ (lockC u (zQa d val) = 0 /\ yZ4 w d u (fun f => alterS u f (zQa d val)) d.flds.length p w')))
   (some ⟨d.S, 0, none⟩) (u : Int) (some (((⟨d.S, 0, none⟩ : Addr).add 3).add ((u : Int).toNat * 4))) [] w1 := fun hC => by
  have fin : ∀ {w3 : World} {lk' : Int -> Option Int}, zQs w3 { d with lk := lk' } val -> zQ1 w w3 d { d with lk := lk' } val -> { zQa d val with lk := lk' } = lockS u (zQa d val) -> d.mode u ≠ 0 ->
    zWy (fun e w' => ∃ p : Option Addr, e = .returned (.tuple #[.pointer p, .int .i64 (lockC u (zQa d val))]) /\ ((lockC u (zQa d val) ≠ 0 /\ Pu w w') ∨ (lockC u (zQa d val) = 0 /\ yZ4 w d u (fun f => alterS u f (zQa d val)) d.flds.length p w')))
    (some ⟨d.S, 0, none⟩) (some (((⟨d.S, 0, none⟩ : Addr).add 3).add ((u : Int).toNat * 4))) (match zXo (d.ch u) (d.at_ u) with | some i => (i : Int) | none => -1) (decide ((match zXo (d.ch u) (d.at_ u) with | some i => (i : Int) | none => -1) < 0)) [] w3 := fun {w3 lk'} h3 L3 e3 hm => by
   have hI3 : Inv (zQa { d with lk := lk' } val) := by
    show Inv { zQa d val with lk := lk' }
    rw [e3]
    exact hI.lock hu (by rw [eA]; omega)
   refine rOpen1 (d := { d with lk := lk' }) h3 hI3 hu (by show 1 <= d.at_ u; omega) (by show d.at_ u <= d.rh.length; omega) fun w' p hP => ⟨p, by rw [hC], .inr ⟨hC, ?_⟩⟩
   obtain ⟨a, d', val', s, x, e1, hL, e4, e5, e6⟩ := hP
   refine ⟨a, d', val', s, x, e1, L3.trans hL, e4, e5, fun f => ?_⟩
   rw [e6 f]
   have e7 : zQa { d with lk := lk' } val = lockS u (zQa d val) := e3
   have e5 : ((lockS u (zQa d val)).us u) = (zQa d val).us u := by unfold lockS; simp only; split <;> rfl
   have e8 : recK (lockS u (zQa d val)) (d.at_ u) = recK (zQa d val) (d.at_ u) := by unfold lockS; simp only; split <;> rfl
   simp only [e7, e5, e8, alterS, eA, eM]
   rw [if_neg c, if_neg hm]
  have lock : d.mode u = 1 ∨ d.mode u = 3 -> ∀ {w3 : World}, Pu w1 w3 -> ∃ m100 : Option Nat, w3.cell? ((⟨d.S, 0, none⟩ : Addr).add 19) = some (.map m100) /\ ∃ n104 : Int, w3.cell? ((((⟨d.S, 0, none⟩ : Addr).add 3).add ((u : Int).toNat * 4)).add 1) = some (.int .i64 n104) /\
    doE prog (Instr.mapUpdate 80 (.map m100) (.int .i64 n104) (.int .i64 (IntKind.i64.wrap ((u : Int) + 1)))) w3 fun w33 => ∃ n112 : Int, w33.cell? ((((⟨d.S, 0, none⟩ : Addr).add 3).add ((u : Int).toNat * 4)).add 1) = some (.int .i64 n112) /\
    Calls prog 130 #[.pointer (some ⟨d.S, 0, none⟩), .int .i64 (u : Int), .int .i64 n112] w33 fun e w35 => ∃ n113 : Int, e = .returned (.int .i64 n113) /\
    zWy (fun e w' => ∃ p : Option Addr, e = .returned (.tuple #[.pointer p, .int .i64 (lockC u (zQa d val))]) /\ ((lockC u (zQa d val) ≠ 0 /\ Pu w w') ∨ (lockC u (zQa d val) = 0 /\ yZ4 w d u (fun f => alterS u f (zQa d val)) d.flds.length p w')))
     (some ⟨d.S, 0, none⟩) (some (((⟨d.S, 0, none⟩ : Addr).add 3).add ((u : Int).toNat * 4))) n113 (decide (n113 < 0)) [] w35 := fun hm {w3} hp3 => by
   have h3 := h1.pu hp3
   obtain ⟨w4, hrun, hm4, hf4, hs4⟩ := (hl.pu hp3).upd (P := prog) zV8 xZd (d.at_ u) ((u : Int) + 1)
   have neL : ∀ {b : Nat} {κ : zX4}, d.o b = some κ -> κ ≠ .L -> ¬ b = d.L := fun {b κ} hb hk e => by rw [e, h.bd.oL] at hb; exact hk (Option.some.inj hb).symm
   have h4 : zQs w4 { d with lk := fun k => if k = d.at_ u then some (u : Int) else d.lk k } val := ⟨hf4.blk h3.st (neL h.bd.oS (by simp)), h3.bd.lks hf4 hm4 fun k => (by
    rw [AL.get_put, h.sd]
    by_cases e : d.at_ u = k
    ·rw [if_pos e, if_pos e.symm]; rfl
    ·rw [if_neg e, if_neg (Ne.symm e), hk]; rfl), h.sd⟩
   refine ⟨some d.L, h3.locks, d.at_ u, h3.uAt hu, w4, by rw [zQc (by omega) (by omega)]; exact hrun, d.at_ u, h4.uAt hu, Calls.mono (zWj h4 hu (d.at_ u) (by show (d.ch u).length <= _; omega)) ?_⟩
   rintro e w5 ⟨rfl, rfl⟩
   refine ⟨_, rfl, fin h4 ((zQ1.pu h (hp1.trans hp3)).trans ⟨h4, hf4.mono fun i hi _ => by rw [show i = d.L from hi, h.bd.oL]; simp, fun b hb => .inl hb, rfl⟩) ?_ (by omega)⟩
   simp only [lockS, eM, eA, eK]
   rw [if_neg (by omega)]
  refine ⟨d.mode u, h1.uMode hu, Br.of (fun m0 => zQf fun w3 hp3 _ => ?_) (fun m0 => ⟨d.mode u, h1.uMode hu, Br.of (fun m1 => zQf fun w3 hp3 _ => ?_) (fun m1 => ⟨d.mode u, h1.uMode hu, Br.of (fun m3 => zQf fun w3 hp3 _ => ?_) (fun m3 => ?_)⟩)⟩)⟩
  ·have m0 : d.mode u = 0 := zQ6 m0
   have h3 := h1.pu hp3
   have hlt : (d.at_ u - 1).toNat < d.rh.length := by omega
   obtain ⟨x, hx⟩ := zXg hlt
   obtain ⟨a, ea, _, _⟩ := h3.bd.rw_.elem zQk hx (o := 0) (v := .bool x.g) rfl
   refine ⟨d.rs, h3.recs, d.at_ u, h3.uAt hu, a, ea, ?_⟩
   rw [zQc (n := d.at_ u - 1) (by omega) (by omega)]
   refine ⟨by omega, by omega, _, by rw [hC], .inr ⟨hC, _, d, val, .rc (d.at_ u - 1).toNat, x, rfl, zQ1.pu h (hp1.trans hp3), ⟨hx, a, ea, rfl⟩, (h.read hI (zQK (List.mem_of_getElem? hx))).2, fun f => ?_⟩⟩
   simp only [alterS, eA, eM, zKV.chg]
   rw [if_neg c, if_pos m0]
  ·exact lock (.inl (zQ6 m1)) hp3
  ·exact lock (.inr (zQ6 m3)) hp3
  ·have m0 : d.mode u ≠ 0 := zQm m0
   have m1 : d.mode u ≠ 1 := zQm m1
   have m3 : d.mode u ≠ 3 := zQm m3
   refine ⟨d.at_ u, h1.uAt hu, Calls.mono (zWj h1 hu (d.at_ u) (by omega)) ?_⟩
   rintro e w5 ⟨rfl, rfl⟩
   refine ⟨_, rfl, fin (lk' := d.lk) h1 (zQ1.pu h hp1) ?_ m0⟩
   simp only [lockS, eM, eA]
   rw [if_pos (by omega)]; rfl
 refine ⟨some d.L, h1.locks, d.at_ u, h1.uAt hu, _, zWb hl _, ?_⟩
 rw [hk]
 have eC : lockC u (zQa d val) = if d.mode u = 2 ∨ d.mode u = 4 then 0 else match d.lk (d.at_ u) with | some v => if v = (u : Int) then 0 else 12 | none => 0 := by
  simp only [lockC, eM, eA, eK]
  by_cases q : d.mode u = 2 ∨ d.mode u = 4
  ·rw [if_pos q, if_pos (by rcases q with q | q; exact .inl q; exact .inr (.inl q))]
  ·rw [if_neg q, if_neg (by omega)]; rfl
 cases hv : d.lk (d.at_ u) with
 | none =>
  refine Br.of (fun q => by cases q) (fun _ => free ?_)
  rw [eC, hv]; simp
 | some v =>
  have hv2 := hI.lr (d.at_ u) v hv
  refine Br.of (fun q => Br.of (fun q2 => ?_) (fun q2 => free ?_)) (fun q => ?_)
  ·have q2 : v + 1 ≠ (u : Int) + 1 := by
    have := zQC q2
    rwa [zQc (n := (u : Int) + 1) (by omega) (by omega)] at this
   have busy : d.mode u = 0 ∨ d.mode u = 1 ∨ d.mode u = 3 -> lockC u (zQa d val) = 12 := fun hm => by
    rw [eC, if_neg (by omega), hv]
    show (if v = (u : Int) then (0 : Int) else 12) = 12
    rw [if_neg (by omega)]
   have bad : lockC u (zQa d val) = 12 -> ∃ p : Option Addr, Ending.returned (.tuple #[.pointer none, .int .i64 12]) = .returned (.tuple #[.pointer p, .int .i64 (lockC u (zQa d val))]) /\ ((lockC u (zQa d val) ≠ 0 /\ Pu w w1) ∨ (lockC u (zQa d val) = 0 /\ yZ4 w d u (fun f => alterS u f (zQa d val)) d.flds.length p w1)) := fun hb =>
    ⟨none, by rw [hb], .inl ⟨by rw [hb]; decide, hp1⟩⟩
   refine ⟨d.mode u, h1.uMode hu, Br.of (fun m0 => bad (busy (.inl (zQ6 m0)))) (fun m0 => ⟨d.mode u, h1.uMode hu, Br.of (fun m1 => bad (busy (.inr (.inl (zQ6 m1))))) (fun m1 => ⟨d.mode u, h1.uMode hu, Br.of (fun m3 => bad (busy (.inr (.inr (zQ6 m3))))) (fun m3 => free ?_)⟩)⟩)⟩
   have m0 : d.mode u ≠ 0 := zQm m0
   have m1 : d.mode u ≠ 1 := zQm m1
   have m3 : d.mode u ≠ 3 := zQm m3
   rw [eC, if_pos (by omega)]
  ·have q2 : v + 1 = (u : Int) + 1 := by
    have := zQw q2
    rwa [zQc (n := (u : Int) + 1) (by omega) (by omega)] at this
   rw [eC, hv]
   split
   ·rfl
   ·show (if v = (u : Int) then (0 : Int) else 12) = 0
    rw [if_pos (by omega)]
  ·have : v + 1 = 0 := zQw q
   omega
end Go.Proofs.YtcihcbfcgjepfaaGreatDoor
/- Desks: the modes of the users stay in their range. In plain words. No condition but those stated. -/
namespace Go.Proofs.YtcihcbfcgjepfaaGreatDoor
open Go.Sh Go.RowKit Tryz
variable {σ τ : Dsk}
def Md (σ : Dsk) : Prop := ∀ u, u < 4 -> 0 <= (σ.us u).mode /\ (σ.us u).mode <= 4
def Ms (σ τ : Dsk) : Prop := ∀ u, (τ.us u).mode = (σ.us u).mode
theorem Ms.refl (σ : Dsk) : Ms σ σ := fun _ => rfl
theorem Ms.trans {ρ : Dsk} (h : Ms σ τ) (k : Ms τ ρ) : Ms σ ρ := fun u => (k u).trans (h u)
theorem Md.same (h : Md σ) (k : Ms σ τ) : Md τ := fun u hu => by rw [k u]; exact h u hu
theorem yKr (h : τ.us = σ.us) : Ms σ τ := fun u => by rw [h]
theorem zJJ {u : Nat} {x : Usr} (h : x.mode = (σ.us u).mode) : Ms σ (σ.setU u x) := fun v => by
 show (if v = u then x else σ.us v).mode = _
 split
 ·next e => rw [e]; exact h
 ·rfl
theorem md_new (t : Tbl) : Md (Dsk.new t) := fun u _ => by show (0 : Int) <= 0 /\ (0 : Int) <= 4; decide
theorem yXu (u : Nat) : Ms σ (zX2 u σ) := (zJJ (σ := σ) (u := u) (x := { σ.us u with ch := [], ap := [] }) rfl).trans (yKr rfl)
theorem yWs (u : Nat) : Ms σ (storedS u σ) := by
 unfold storedS
 refine Ms.trans ?_ (yXu u)
 exact (yKr (σ := σ) (τ := { σ with recs := zXb (σ.us u).ch σ.recs ++ (σ.us u).ap }) rfl).trans (zJJ rfl)
theorem yXq (u : Nat) (f : Bool) : Ms σ (storeS u f σ) := by
 unfold storeS
 split
 ·exact yWs u
 ·exact Ms.refl _
theorem zVD (u : Nat) : Ms σ (leaveS u σ) := by
 unfold leaveS
 split
 ·exact Ms.refl _
 ·exact yXq u false
theorem yVd (v : Int) (f : Bool) : Ms σ (storeES v f σ) := by
 unfold storeES
 split
 ·exact yXq _ f
 ·exact Ms.refl _
theorem ms_go (v k : Int) : Ms σ (goS v k σ) := by
 unfold goS
 split
 ·exact Ms.refl _
 ·simp only
  split
  ·exact zJJ rfl
  ·exact (zVD _).trans (zJJ rfl)
theorem yQb (u : Nat) : Ms σ (appendedS u σ) := by
 unfold appendedS
 split
 ·exact (yKr (σ := σ) (τ := { σ with recs := σ.recs ++ [blankR σ] }) rfl).trans (zJJ rfl)
 ·exact zJJ rfl
theorem ms_app (v : Int) : Ms σ (appS v σ) := by
 unfold appS
 split
 ·exact Ms.refl _
 ·split
  ·exact Ms.refl _
  ·split
   ·exact zVD _
   ·exact (zVD _).trans (yQb _)
theorem yQU (u : Nat) : (lockS u σ).us = σ.us := by
 unfold lockS
 simp only
 split <;> rfl
theorem yXB (u : Nat) (f : Rec -> Rec) : Ms σ (alterS u f σ) := by
 unfold alterS
 simp only
 split
 ·exact zJJ rfl
 ·split
  ·exact yKr rfl
  ·exact (yKr (yQU u)).trans (zJJ (by rw [yQU]))
theorem xXE (v : Int) (nm : ByteArray) (x : Val) : Ms σ (setS v nm x σ) := by
 unfold setS
 split
 ·split
  ·exact Ms.refl _
  ·exact yXB _ _
 ·exact Ms.refl _
theorem xZt (v : Int) (g : Bool) : Ms σ (markS v g σ) := by
 unfold markS
 split
 ·exact yXB _ _
 ·exact Ms.refl _
theorem yW1 (u : Nat) : Ms σ (revertU u σ) := by
 unfold revertU
 refine Ms.trans ?_ (yXu u)
 exact zJJ rfl
theorem yJ6 (v : Int) : Ms σ (revertS v σ) := by
 unfold revertS
 split
 ·exact yW1 _
 ·exact Ms.refl _
theorem Md.fall (h : Md σ) (v : Int) : Md (fallS v σ) := by
 unfold fallS
 split
 ·intro u hu
  show 0 <= (if u = v.toNat then _ else (revertU v.toNat σ).us u).mode /\ (if u = v.toNat then _ else (revertU v.toNat σ).us u).mode <= 4
  split
  ·show (0 : Int) <= 0 /\ (0 : Int) <= 4; decide
  ·exact (h.same (yW1 v.toNat)) u hu
 ·exact h
theorem Md.mode (h : Md σ) (v m : Int) : Md (modeS v m σ) := by
 unfold modeS
 split
 ·next hc =>
  have hm : 0 <= m /\ m <= 4 := by
   unfold modeC at hc
   split at hc
   ·cases hc
   ·split at hc
    ·cases hc
    ·omega
  intro u hu
  show 0 <= (if u = v.toNat then _ else σ.us u).mode /\ (if u = v.toNat then _ else σ.us u).mode <= 4
  split
  ·exact hm
  ·exact h u hu
 ·exact h
end Go.Proofs.YtcihcbfcgjepfaaGreatDoor
