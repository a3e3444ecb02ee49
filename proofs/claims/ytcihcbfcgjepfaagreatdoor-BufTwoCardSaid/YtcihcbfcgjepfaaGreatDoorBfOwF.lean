import Derived.Test.YtcihcbfcgjepfaaGreatDoorBfOwE
import Derived.Test.YtcihcbfcgjepfaaGreatDoorBfPrA
import Derived.Test.YtcihcbfcgjepfaaGreatDoorBfOwB
import Derived.Test.YtcihcbfcgjepfaaGreatDoorShTwenty
import Derived.Test.YtcihcbfcgjepfaaGreatDoorBfOwC
import Derived.Test.YtcihcbfcgjepfaaGreatDoorBtO
import Derived.OpenShut
/- Desks: a new desk. No condition but those stated. -/
set_option maxRecDepth 100000
set_option linter.unusedVariables false
set_option linter.unusedSimpArgs false
namespace Go.Proofs.YtcihcbfcgjepfaaGreatDoor
open Go.Sh Go.RowKit
variable {w w' : World} {d d' : DLay} {val : Nat -> List Val} {mu : Int}
theorem firstBad_all {l : List Fld} {p : Int} : ∀ {rs : List Rec}, firstBad l p rs = 0 -> ∀ r ∈ rs, validR l p r = 0
  | [], _, r, h => by cases h
  | x :: rs, h, r, hr => by
    unfold firstBad at h
    split at h
    · next hx => exact absurd h hx
    · next hx =>
      rcases List.mem_cons.1 hr with rfl | hr
      · simpa using hx
      · exact firstBad_all h r hr
theorem inv_new {t : Tbl} (h : validT t = 0) : Inv (Dsk.new t) := by
  unfold validT at h
  split at h
  · next hp =>
    split at h
    · next hf => exact absurd h hf
    · next hf =>
      split at h
      · cases h
      · next hl =>
        refine ⟨hp, (by simpa using hf : validF t.fields = 0), firstBad_all h, ?_, ?_, ?_, ?_, ?_, ?_, ?_⟩
        · intro u hu r hr; simp [Dsk.new, Usr.new] at hr
        · intro u hu c hc; simp [Dsk.new, Usr.new] at hc
        · intro u hu; simp [Dsk.new, Usr.new]
        · intro u hu; simp [Dsk.new, Usr.new]
        · intro u hu _ h2; simp [Dsk.new, Usr.new] at h2
        · simp [allN, Dsk.new, Usr.new]; omega
        · intro k v hk; simp [Dsk.new] at hk
  · cases h
def valOf : List HRec -> List Rec -> Nat -> List Val
  | h :: hs, r :: rs => fun b => if b ∈ blkOf h.s then r.v else valOf hs rs b
  | _, _ => fun _ => []
theorem row_none {s : SV} {l : List Val} (h : RowAt w 28 3 s (l.flatMap valV)) (hn : s.a = none) : l = [] := by
  cases l with
  | nil => rfl
  | cons v l =>
    obtain ⟨a, ha⟩ := row_some (i := 0) h (by simp)
    rw [hn] at ha; cases ha
theorem valOf_hv : ∀ {hs : List HRec} {rs : List Rec}, RecsAt w hs rs -> (vB hs).Nodup -> hs.map (toR (valOf hs rs)) = rs
  | [], [], _, _ => rfl
  | h :: hs, r :: rs, ⟨⟨h1, h2⟩, h3⟩, hn => by
    rw [vB_cons] at hn
    obtain ⟨_, n2, n3⟩ := List.nodup_append.1 hn
    have ih := valOf_hv h3 n2
    simp only [List.map_cons]
    congr 1
    · rw [toR, h1]
      unfold hv
      cases ha : h.s.a with
      | none =>
        have := row_none h2 ha
        cases r; simp only at this ⊢; rw [this]
      | some a =>
        simp only [valOf]
        rw [if_pos (by simp [blkOf, ha])]
    · refine Eq.trans (List.map_congr_left fun x hx => ?_) ih
      have : hv (valOf (h :: hs) (r :: rs)) x = hv (valOf hs rs) x := by
        unfold hv
        cases ha : x.s.a with
        | none => rfl
        | some a =>
          simp only [valOf]
          rw [if_neg fun e => n3 _ e _ (mem_vB hx (show a.block ∈ blkOf x.s by simp [blkOf, ha])) rfl]
      rw [toR, this]; rfl
theorem valOf_row : ∀ {hs : List HRec} {rs : List Rec}, RecsAt w hs rs -> (vB hs).Nodup -> ∀ x ∈ hs, RowAt w 28 3 x.s ((hv (valOf hs rs) x).flatMap valV)
  | hs, rs, h, hn, x, hx => by
    obtain ⟨i, hi⟩ := List.getElem?_of_mem hx
    have e := valOf_hv h hn
    have h1 : rs[i]? = some (toR (valOf hs rs) x) := by rw [← e, List.getElem?_map, hi, e]; rfl
    obtain ⟨y, hy, _, hr⟩ := h.at_ h1
    rw [hi] at hy; cases hy
    exact hr
def deskN (page : Int) (fs rs : SV) (L c0 k : Nat) : Array Value := #[.int .i32 0, .int .u32 0, .int .i64 page, .slice fs.a fs.len fs.cap, .slice rs.a rs.len rs.cap,
  .int .i64 0, .int .i64 0, .map (if 0 < k then some (c0 + 0) else none), .slice none 0 0, .int .i64 0, .int .i64 0, .map (if 1 < k then some (c0 + 1) else none), .slice none 0 0,
  .int .i64 0, .int .i64 0, .map (if 2 < k then some (c0 + 2) else none), .slice none 0 0, .int .i64 0, .int .i64 0, .map (if 3 < k then some (c0 + 3) else none), .slice none 0 0, .map (some L)]
theorem deskN_set {page : Int} {fs rs : SV} {L c0 k : Nat} (hk : k < 4) : (deskN page fs rs L c0 k).setIfInBounds (5 + k * 4 + 2) (.map (some (c0 + k))) = deskN page fs rs L c0 (k + 1) := by
  rcases (by omega : k = 0 ∨ k = 1 ∨ k = 2 ∨ k = 3) with rfl | rfl | rfl | rfl <;> rfl
def newLay (S L c0 : Nat) (t : Tbl) (fs rs : SV) (hs : List HRec) : DLay where
  sd := false
  o b := if b = S then some .S else if b = L then some .L else if c0 <= b /\ b < c0 + 4 then some (.C (b - c0)) else if b ∈ blkOf fs then some .F else if b ∈ blkOf rs then some .R else if b ∈ vB hs then some .V else none
  S := S
  L := L
  C u := c0 + u
  page := t.page
  flds := t.fields
  fs := fs
  rs := rs
  rh := hs
  mode _ := 0
  at_ _ := 0
  asv _ := ⟨none, 0, 0⟩
  ah _ := []
  cs _ := ⟨none, 0, 0⟩
  ch _ := []
  lk _ := none
theorem new_c {t : Tbl} {f r : SV} (h : RdTbl w t f r) (hl : Lim.ok t.fields) : Calls Tryz.prog 11 #[tblA t f r] w fun e w' => Pu w w' /\ (validT t ≠ 0 -> e = .returned (.tuple #[.pointer none, .int .i64 (validT t)])) /\
    (validT t = 0 -> ∃ d val, e = .returned (.tuple #[d.ptr, .int .i64 0]) /\ DeskAt w' d 0 val /\ absD d val = Dsk.new t /\ ∀ b, d.o b ≠ none -> w.heap.size <= b) := by
  refine F11_calls _ _ _ w _ (alB fun w1 hp1 hb1 => ?_)
  refine ⟨_, cl hb1 0, f, cl hb1 1, r, cl hb1 2, (validTbl_c (h.pu hp1) hl).mono ?_⟩
  rintro e w2 ⟨rfl, hp2⟩
  have hp02 := hp1.trans hp2
  refine ⟨_, rfl, Br.of (fun c => ?_) (fun c => dwE_intro fun w8 hp8 _ => ?_)⟩
  · have c := bntrue c
    exact ⟨hp02, fun _ => rfl, fun e => absurd e c⟩
  have c := bnfalse c
  have hI := inv_new c
  have hb8 := hp8.blk (hp2.blk hb1)
  have hp08 := hp02.trans hp8
  have z1 : w.heap.size < w1.heap.size := blk_lt hb1
  have zz : w1.heap.size <= w8.heap.size := (hp2.trans hp8).size
  have f16 : t.fields.length <= 16 := hI.f16
  have r300 : t.recs.length <= 300 := hI.r300
  refine ⟨fun y => Pu w8 y, Pu.refl _, f, fun y hy => cl (hy.blk hb8) 1, r, fun y hy => cl (hy.blk hb8) 2, (cloneF_c (h.fields.pu hp08) (by omega)).mono ?_⟩
  rintro e w9 ⟨qf, rfl, hqf, hqn, hp9⟩
  refine ⟨qf, rfl, hp9, (copiedAll_c (RdRecs.of (h.recs.pu (hp08.trans hp9))) (by omega) fun x hx => by have h1 := validR_right (hI.gr x hx); have e : (Dsk.new t).flds.length = t.fields.length := rfl; omega).mono ?_⟩
  rintro e w10 ⟨qr, hs, rfl, hN, hp10⟩
  have hb10 := hp10.blk (hp9.blk hb8)
  have z9 := hp9.size
  have z10 := hp10.size
  refine ⟨qr, rfl, ?_⟩
  rw [add_def]
  refine st1_intro hb10 (by show 0 + 1 < 3; omega) fun w11 hw11 hb11 => ?_
  rw [add_def]
  refine st1_intro hb11 (by show 0 + 2 < 3; omega) fun w12 hw12 hb12 => ?_
  have hf12 : Fr (· = w.heap.size) w10 w12 := by
    refine (show Fr (· = w.heap.size) w10 w11 by rw [hw11]; exact Fr.cell w10 _ _ _).trans (show Fr (· = w.heap.size) w11 w12 by rw [hw12]; exact Fr.cell w11 _ _ _) fun i hi _ => hi
  have s12 : w12.heap.size = w10.heap.size := by rw [hw12, hw11]; simp
  have n1 : ∀ {b : Nat}, w8.heap.size <= b -> ¬ b = w.heap.size := fun {b} hb e => by omega
  have hqf12 := (hqf.pu hp10).fr hf12 fun b hb => n1 (hqn b hb)
  have hrow12 := hN.row.fr hf12 fun b hb => n1 (by have := hN.new b hb; omega)
  have hrec12 := hN.recs.fr hf12 fun b hb => n1 (by have := (hN.vnew b hb).1; omega)
  have hp012 : Pu w w12 := ((hp08.trans hp9).trans hp10).andNew hf12 fun i hi => by rw [show i = w.heap.size from hi]; exact Nat.le_refl _
  refine ⟨_, cl hb12 0, qf, cl hb12 1, qr, cl hb12 2, alE_intro fun w13 hw13 => ?_⟩
  have hp13 : Pu w12 w13 := by rw [hw13]; exact Pu.alloc w12 _
  have s13 : w13.heap.size = w12.heap.size + 1 := by rw [hw13]; simp
  have hm13 : MapAt w13 intK intK w12.heap.size ([] : List (Int × Int)) := by rw [hw13]; exact MapAt.new w12 _ _
  refine alB fun w14 hp14 hb14 => ?_
  have z14 := hp14.size
  have l14 : w13.heap.size < w14.heap.size := blk_lt hb14
  have zf : ∀ b ∈ blkOf qf, w8.heap.size <= b /\ b < w12.heap.size := fun b hb => ⟨hqn b hb, by rw [s12]; have := hqf.lt b hb; omega⟩
  have zr : ∀ b ∈ blkOf qr, w9.heap.size <= b /\ b < w12.heap.size := fun b hb => ⟨hN.new b hb, by rw [s12]; exact hN.row.lt b hb⟩
  have zv : ∀ b ∈ vB hs, w9.heap.size <= b /\ b < w12.heap.size := fun b hb => ⟨(hN.vnew b hb).1, by
    obtain ⟨x, hx, hxb⟩ := List.mem_flatMap.1 hb
    exact (valOf_row hrec12 hN.nd x hx).lt b hxb⟩
  have zfr : ∀ b ∈ blkOf qf, b < w9.heap.size := hqf.lt
  refine loopUp 4 (fun k t' w' => t' = (k : Int) /\ w'.heap.size = w14.heap.size + k /\ w'.heap[w13.heap.size]? = some (.cells (deskN t.page qf qr w12.heap.size w14.heap.size k) 93) /\ (∀ v, v < k -> MapAt w' intK chV (w14.heap.size + v) []) /\ Fr (· = w13.heap.size) w14 w') ⟨rfl, rfl, hb14, fun v hv => absurd hv (by omega), Fr.refl _ _⟩ ?_
  rintro k J t' w15 hk ⟨ht, hsz, hbk, hms, hf⟩ hJ
  obtain rfl : t' = (k : Int) := ht
  refine Br.of (fun d1 => ?_) (fun d1 => ?_)
  · have hk2 : k < 4 := by have := dtrue d1; omega
    refine alE_intro fun w16 hw16 => ?_
    have hp16 : Pu w15 w16 := by rw [hw16]; exact Pu.alloc w15 _
    have s16 : w16.heap.size = w15.heap.size + 1 := by rw [hw16]; simp
    have hm16 : MapAt w16 intK chV w15.heap.size [] := by rw [hw16]; exact MapAt.new w15 _ _
    refine ⟨by omega, by omega, ?_⟩
    rw [Int.toNat_natCast, add_def, add_def, add_def]
    have hb16 := hp16.blk hbk
    rw [show 0 + 5 + k * 4 + 2 = 5 + k * 4 + 2 by omega]
    refine st1_intro hb16 (by show 5 + k * 4 + 2 < 22; omega) fun w17 hw17 hb17 => ?_
    have hf17 : Fr (· = w13.heap.size) w16 w17 := by rw [hw17]; exact Fr.cell w16 _ _ _
    have s17 : w17.heap.size = w16.heap.size := by rw [hw17]; simp
    rw [wrap_in (by omega) (by omega)]
    refine hJ _ _ hk2 ⟨by omega, by omega, ?_, fun v hv => ?_, (hf.trans (Fr.pu hp16 : Fr (· = w13.heap.size) w15 w16) fun i hi _ => hi).trans hf17 fun i hi _ => hi⟩
    · rw [hb17, hsz, deskN_set hk2]
    · by_cases e : v = k
      · subst e
        rw [← hsz]
        exact hm16.fr hf17 (by omega)
      · exact ((hms v (by omega)).pu hp16).fr hf17 (by omega)
  · have hk2 : k = 4 := by have := dfalse d1; omega
    subst hk2
    have hpF : Pu w w15 := ((hp012.trans hp13).trans hp14).andNew hf fun i hi => by rw [show i = w13.heap.size from hi]; have := hp012.size; omega
    have hp1214 : Pu w12 w14 := hp13.trans hp14
    have nS : ∀ {b : Nat}, b < w12.heap.size + 1 -> ¬ b = w13.heap.size := fun {b} hb e => by omega
    have o0 : ∀ {b : Nat}, b < w12.heap.size -> (newLay w13.heap.size w12.heap.size w14.heap.size t qf qr hs).o b = if b ∈ blkOf qf then some .F else if b ∈ blkOf qr then some .R else if b ∈ vB hs then some .V else none := fun {b} hb => by
      show (if b = w13.heap.size then _ else if b = w12.heap.size then _ else if w14.heap.size <= b /\ b < w14.heap.size + 4 then _ else _) = _
      rw [if_neg (by omega), if_neg (by omega), if_neg (by omega)]
    refine ⟨hpF, fun e => absurd c e, fun _ => ⟨newLay w13.heap.size w12.heap.size w14.heap.size t qf qr hs, valOf hs t.recs, rfl, ⟨hbk, ?_, rfl⟩, ?_, fun b hb => ?_⟩⟩
    · have eAll : allH (newLay w13.heap.size w12.heap.size w14.heap.size t qf qr hs) = hs := by simp [allH, uH, chH, newLay]
      have hrecF : RecsAt w15 hs t.recs := (hrec12.fr (Fr.pu hp1214 : Fr (fun _ => False) w12 w14) fun _ _ h => h).fr hf fun b hb => nS (by have := zv b hb; omega)
      refine ⟨(hqf12.pu hp1214).fr hf fun b hb => nS (by have := zf b hb; omega), (hrow12.pu hp1214).fr hf fun b hb => nS (by have := zr b hb; omega), fun u hu => RowAt.nil _ _ _, fun _ u hu => hms u hu, fun e => (by cases e), ⟨[], (hm13.pu hp14).fr hf (nS (by omega)), fun k => rfl⟩, fun x hx => ?_, fun v hv => ⟨rfl, rfl⟩, by rw [eAll]; exact hN.nd, ?_, ?_, fun _ u hu => ?_, fun e => (by cases e), fun b hb => ?_, fun b hb => ?_, fun u hu b hb => by simp [newLay, blkOf] at hb, fun b hb => ?_, fun b hb => ?_⟩
      · rw [eAll] at hx; exact valOf_row hrecF hN.nd x hx
      · show (if w13.heap.size = w13.heap.size then _ else _) = _; rw [if_pos rfl]
      · show (if w12.heap.size = w13.heap.size then _ else if w12.heap.size = w12.heap.size then _ else _) = _; rw [if_neg (by omega), if_pos rfl]
      · show (if w14.heap.size + u = w13.heap.size then _ else if w14.heap.size + u = w12.heap.size then _ else if w14.heap.size <= w14.heap.size + u /\ w14.heap.size + u < w14.heap.size + 4 then some (DKey.C (w14.heap.size + u - w14.heap.size)) else _) = _
        rw [if_neg (by omega), if_neg (by omega), if_pos (by omega), Nat.add_sub_cancel_left]
      · replace hb : b ∈ blkOf qf := hb
        rw [o0 (zf b hb).2, if_pos hb]
      · replace hb : b ∈ blkOf qr := hb
        rw [o0 (zr b hb).2, if_neg (fun e => by have := zfr b e; have := zr b hb; omega), if_pos hb]
      · rw [eAll] at hb
        rw [o0 (zv b hb).2, if_neg (fun e => by have := zfr b e; have := zv b hb; omega), if_neg (hN.vnew b hb).2, if_pos hb]
      · have hb : (if b = w13.heap.size then some DKey.S else if b = w12.heap.size then some .L else if w14.heap.size <= b /\ b < w14.heap.size + 4 then some (.C (b - w14.heap.size)) else if b ∈ blkOf qf then some .F else if b ∈ blkOf qr then some .R else if b ∈ vB hs then some .V else none) ≠ none := hb
        by_cases e1 : b = w13.heap.size
        · omega
        rw [if_neg e1] at hb
        by_cases e2 : b = w12.heap.size
        · omega
        rw [if_neg e2] at hb
        by_cases e3 : w14.heap.size <= b /\ b < w14.heap.size + 4
        · omega
        rw [if_neg e3] at hb
        by_cases e4 : b ∈ blkOf qf
        · have := zf b e4; omega
        rw [if_neg e4] at hb
        by_cases e5 : b ∈ blkOf qr
        · have := zr b e5; omega
        rw [if_neg e5] at hb
        by_cases e6 : b ∈ vB hs
        · have := zv b e6; omega
        rw [if_neg e6] at hb; exact absurd rfl hb
    · have e := valOf_hv hrec12 hN.nd
      simp only [absD, newLay, Dsk.new, e]
      rfl
    · have hb : (if b = w13.heap.size then some DKey.S else if b = w12.heap.size then some .L else if w14.heap.size <= b /\ b < w14.heap.size + 4 then some (.C (b - w14.heap.size)) else if b ∈ blkOf qf then some .F else if b ∈ blkOf qr then some .R else if b ∈ vB hs then some .V else none) ≠ none := hb
      have := hp012.size
      by_cases e1 : b = w13.heap.size
      · omega
      rw [if_neg e1] at hb
      by_cases e2 : b = w12.heap.size
      · omega
      rw [if_neg e2] at hb
      by_cases e3 : w14.heap.size <= b /\ b < w14.heap.size + 4
      · omega
      rw [if_neg e3] at hb
      by_cases e4 : b ∈ blkOf qf
      · have := zf b e4; omega
      rw [if_neg e4] at hb
      by_cases e5 : b ∈ blkOf qr
      · have := zr b e5; omega
      rw [if_neg e5] at hb
      by_cases e6 : b ∈ vB hs
      · have := zv b e6; omega
      rw [if_neg e6] at hb; exact absurd rfl hb
end Go.Proofs.YtcihcbfcgjepfaaGreatDoor

/- Desks: the program's known desk: two users of one record. No condition but those stated. -/
set_option maxRecDepth 100000
set_option linter.unusedVariables false
set_option linter.unusedSimpArgs false
namespace Go.Proofs.YtcihcbfcgjepfaaGreatDoor
open Go.Sh Go.RowKit
variable {w w' : World} {d d' : DLay} {val : Nat -> List Val} {mu : Int}
structure One (w0 w : World) (d : DLay) (val : Nat -> List Val) (σ : Dsk) : Prop where
  pu : Pu w0 w
  at_ : DeskAt w d 0 val
  abs : absD d val = σ
  inv : Inv σ
  new : ∀ b, d.o b ≠ none -> w0.heap.size <= b
theorem One.step {w0 : World} {σ σ' : Dsk} {val' : Nat -> List Val} (h : One w0 w d val σ) (hL : DLeft w w' d d' 0 val') (ha : absD d' val' = σ') (hI : Inv σ') : One w0 w' d' val' σ' :=
  ⟨h.pu.andNew hL.fr fun i hi => h.new i hi, hL.sys, ha, hI, fun b hb => (hL.own b hb).elim (h.new b) fun hz => Nat.le_trans h.pu.size hz⟩
theorem One.plus {w0 w1 : World} {σ : Dsk} (h : One w0 w d val σ) (hp : Pu w w1) : One w0 w1 d val σ := ⟨h.pu.trans hp, h.at_.pu hp, h.abs, h.inv, h.new⟩
theorem rd_one {α : Type} [Enc α] {b : Nat} {vs : List Value} {ty : TypeId} {x : α} (hb : w.heap[b]? = some (.cells vs.toArray ty)) (h : Enc.rd w vs x) : RdSl w ⟨some ⟨b, 0, none⟩, 1, 1⟩ [x] :=
  ⟨rfl, Nat.le_refl _, (by show 1 <= 140737488355328; omega), fun i y hy => by
    cases i with
    | succ i => simp at hy
    | zero =>
      simp at hy; subst hy
      refine ⟨_, rfl, vs, h, fun j v hv => ?_⟩
      rw [Nat.zero_mul, add0, cl hb]
      simpa using hv⟩
def kA : ByteArray := ⟨#[65]⟩
def kT : Tbl := ⟨0, [⟨kA, 2, 5, false⟩], [⟨false, [⟨2, 0, ⟨#[]⟩⟩]⟩]⟩
def kV (n : Int) : Val := ⟨2, n, ⟨#[]⟩⟩
def kU (u : Nat) (σ : Dsk) : Dsk := setS u kA (kV ((u : Int) + 1)) (goS u 1 (modeS u 2 σ))
def kS : Nat -> Dsk
  | 0 => Dsk.new kT
  | k + 1 => kU k (kS k)
theorem k_valid : validT kT = 0 := by decide +kernel
theorem k_mode (u : Nat) (hu : u < 2) : modeC u 2 (kS u) = 0 := by
  rcases (by omega : u = 0 ∨ u = 1) with rfl | rfl <;> decide +kernel
theorem k_go (u : Nat) (hu : u < 2) : goC u 1 (modeS u 2 (kS u)) = 0 := by
  rcases (by omega : u = 0 ∨ u = 1) with rfl | rfl <;> decide +kernel
theorem k_set (u : Nat) (hu : u < 2) : setC u kA (kV ((u : Int) + 1)) (goS u 1 (modeS u 2 (kS u))) = 0 := by
  rcases (by omega : u = 0 ∨ u = 1) with rfl | rfl <;> decide +kernel
def k3 : Dsk := storeES 0 false (kS 2)
def k4 : Dsk := storeES 1 false k3
def k5 : Dsk := storeES 1 true k4
theorem k_s1 : storeE 0 false (kS 2) = 0 := by decide +kernel
theorem k_s2 : storeE 1 false k3 = 13 := by decide +kernel
theorem k_s3 : storeE 1 true k4 = 0 := by decide +kernel
theorem k_now : nowR 1 kA k5 = (kV 2, 0) := by decide +kernel
theorem in64_small {n : Int} (h1 : 0 <= n) (h2 : n <= 1000) : In64 n := ⟨by omega, by omega⟩
theorem ptr_nil (S : Nat) (x y : Operand) (w : World) : (eqS .eql 32 x y (.pointer (some ⟨S, 0, none⟩)) (.pointer none)).run Tryz.prog w = .ok (.bool false) w := eqS_ptr_nil bu32 _ _ _ w
theorem known_c (w : World) : Calls Tryz.prog 10 #[] w fun e w' => e = .returned (.bool true) /\ Pu w w' := by
  refine F10_calls w _ (alB fun w1 hp1 hb1 => (rNum_c 0 w1).mono ?_)
  rintro e w2 ⟨rfl, hp2⟩
  refine ⟨_, _, _, rfl, alB fun w3 hp3 hb3 => alB fun w4 hp4 hb4 => ?_⟩
  have hp02 := hp1.trans hp2
  have hp04 := (hp02.trans hp3).trans hp4
  have b1 := hp4.blk (hp3.blk (hp2.blk hb1))
  have b3 := hp4.blk hb3
  have rV : RdSl w4 ⟨some ⟨w2.heap.size, 0, none⟩, 1, 1⟩ [(⟨2, 0, ⟨#[]⟩⟩ : Val)] := rd_one b3 ⟨rfl, in64_small (by decide) (by decide), in64_small (by decide) (by decide)⟩
  have rF : RdSl w4 ⟨some ⟨w.heap.size, 0, none⟩, 1, 1⟩ [(⟨kA, 2, 5, false⟩ : Fld)] := rd_one b1 ⟨rfl, in64_small (by decide) (by decide), in64_small (by decide) (by decide)⟩
  have rR : RdSl w4 ⟨some ⟨w3.heap.size, 0, none⟩, 1, 1⟩ [(⟨false, [⟨2, 0, ⟨#[]⟩⟩]⟩ : Rec)] := rd_one hb4 ⟨_, rfl, rV⟩
  have rT : RdTbl w4 kT ⟨some ⟨w.heap.size, 0, none⟩, 1, 1⟩ ⟨some ⟨w3.heap.size, 0, none⟩, 1, 1⟩ := ⟨in64_small (by decide) (by decide), rF, rR⟩
  refine (new_c rT (by intro f hf; simp [kT] at hf; subst hf; show 1 <= 140737488355328; omega)).mono ?_
  rintro e w5 ⟨hp5, -, hgood⟩
  obtain ⟨d, val, rfl, hD, habs, hnew⟩ := hgood k_valid
  have hI := inv_new k_valid
  have hO : One w w5 d val (kS 0) := ⟨hp04.trans hp5, hD, habs, hI, fun b hb => Nat.le_trans hp04.size (hnew b hb)⟩
  refine ⟨some ⟨d.S, 0, none⟩, 0, rfl, ?_⟩
  show ∃ b27 : Bool, ∃ w25 : World, _ /\ _
  refine ⟨false, w5, ptr_nil _ _ _ w5, ?_⟩
  show F10_3 _ _ _ _ _
  refine loopUp 2 (fun k t w' => t = (k : Int) /\ ∃ dk valk, dk.S = d.S /\ One w w' dk valk (kS k)) ⟨rfl, d, val, rfl, hO⟩ ?_
  rintro k J t w6 hk ⟨ht, dk, valk, hS, h6⟩ hJ
  obtain rfl : t = (k : Int) := ht
  have ep : (some ⟨d.S, 0, none⟩ : Option Addr) = some ⟨dk.S, 0, none⟩ := by rw [hS]
  rw [ep]
  refine Br.of (fun d1 => ?_) (fun d1 => ?_)
  · have hk2 : k < 2 := by have := dtrue d1; omega
    refine (mode_c h6.at_ (k : Int) 2).mono ?_
    rintro e w7 ⟨rfl, d7, hL7, ha7⟩
    rw [h6.abs] at ha7 ⊢
    rw [k_mode k hk2]
    have h7 := h6.step hL7 ha7 (h6.inv.mode _ _)
    refine ⟨_, rfl, ?_⟩
    show Calls Tryz.prog 15 #[dk.ptr, _, _] w7 _
    rw [show dk.ptr = d7.ptr by unfold DLay.ptr; rw [hL7.ptr]]
    refine (go_c h7.at_ (by rw [h7.abs]; exact h7.inv) (k : Int) 1).mono ?_
    rintro e w8 ⟨rfl, d8, v8, hL8, ha8⟩
    rw [h7.abs] at ha8 ⊢
    rw [k_go k hk2]
    have h8 := h7.step hL8 ha8 (h7.inv.go _ _)
    refine ⟨_, rfl, ?_⟩
    show Calls Tryz.prog 37 _ w8 _
    rw [wrap_in (n := (k : Int) + 1) (by omega) (by omega)]
    refine (rNum_c ((k : Int) + 1) w8).mono ?_
    rintro e w9 ⟨rfl, hp9⟩
    have h9 := h8.plus hp9
    refine ⟨_, _, _, rfl, ?_⟩
    rw [show (some ⟨dk.S, 0, none⟩ : Option Addr) = some ⟨d8.S, 0, none⟩ by rw [hL8.ptr, hL7.ptr]]
    refine (set_c h9.at_ (by rw [h9.abs]; exact h9.inv) (k : Int) kA (kV ((k : Int) + 1))).mono ?_
    rintro e w10 ⟨rfl, d10, v10, hL10, ha10⟩
    rw [h9.abs] at ha10 ⊢
    rw [k_set k hk2]
    have h10 := h9.step hL10 ha10 (h9.inv.set _ _ _)
    refine ⟨_, rfl, ?_⟩
    show J _ w10
    refine hJ _ _ hk2 ⟨by omega, d10, v10, by rw [hL10.ptr, hL8.ptr, hL7.ptr, hS], h10⟩
  · have hk2 : k = 2 := by have := dfalse d1; omega
    subst hk2
    refine (Store_c h6.at_ (by rw [h6.abs]; exact h6.inv) 0 false).mono ?_
    rintro e w7 ⟨q7, rfl, -, d7, v7, hL7, ha7⟩
    rw [h6.abs] at ha7 ⊢
    rw [k_s1]
    have h7 := h6.step hL7 ha7 (h6.inv.storeE _ _)
    refine ⟨q7, _, rfl, ?_⟩
    rw [show (some ⟨dk.S, 0, none⟩ : Option Addr) = some ⟨d7.S, 0, none⟩ by rw [hL7.ptr]]
    refine (Store_c h7.at_ (by rw [h7.abs]; exact h7.inv) 1 false).mono ?_
    rintro e w8 ⟨q8, rfl, -, d8, v8, hL8, ha8⟩
    rw [h7.abs] at ha8 ⊢
    have e2 : storeE 1 false (storeES 0 false (kS 2)) = 13 := k_s2
    rw [e2]
    have h8 := h7.step hL8 ha8 (h7.inv.storeE _ _)
    refine ⟨q8, _, rfl, ?_⟩
    rw [show (some ⟨d7.S, 0, none⟩ : Option Addr) = some ⟨d8.S, 0, none⟩ by rw [hL8.ptr]]
    refine (Store_c h8.at_ (by rw [h8.abs]; exact h8.inv) 1 true).mono ?_
    rintro e w9 ⟨q9, rfl, -, d9, v9, hL9, ha9⟩
    rw [h8.abs] at ha9 ⊢
    have e3 : storeE 1 true (storeES 1 false (storeES 0 false (kS 2))) = 0 := k_s3
    rw [e3]
    have h9 := h8.step hL9 ha9 (h8.inv.storeE _ _)
    refine ⟨q9, _, rfl, ?_⟩
    rw [show (some ⟨d8.S, 0, none⟩ : Option Addr) = some ⟨d9.S, 0, none⟩ by rw [hL9.ptr]]
    refine (now_c h9.at_ (by rw [h9.abs]; exact h9.inv) 1 kA).mono ?_
    rintro e w10 ⟨rfl, hL10⟩
    rw [h9.abs]
    have e4 : nowR 1 kA (storeES 1 true (storeES 1 false (storeES 0 false (kS 2)))) = (kV 2, 0) := k_now
    rw [e4]
    have h10 := h9.step hL10 h9.abs h9.inv
    refine ⟨_, _, _, _, rfl, alB fun w11 hp11 hb11 => stA_fill hb11 bs28.symm rfl rfl fun w12 hb12 hf12 _ => ?_⟩
    have hp12 : Pu w w12 := (h10.pu.trans hp11).andNew hf12 fun i hi => by rw [show i = w10.heap.size from hi]; exact h10.pu.size
    show ∃ n88 : Int, _ /\ _
    exact ⟨2, cl hb12 1, rfl, hp12⟩
end Go.Proofs.YtcihcbfcgjepfaaGreatDoor

/- Desks: acts that are handed in; what is too large. No condition but those stated. -/
set_option maxRecDepth 100000
set_option linter.unusedVariables false
set_option linter.unusedSimpArgs false
namespace Go.Proofs.YtcihcbfcgjepfaaGreatDoor
open Go.Sh Go.RowKit
structure Act where
  op : Int
  a : Int
  b : Int
  c : Int
  s : ByteArray
  t : ByteArray
def Act.ok (a : Act) : Prop := In64 a.op /\ In64 a.a /\ In64 a.b /\ In64 a.c
def Act.vals (a : Act) : List Value := [.int .i64 a.op, .int .i64 a.a, .int .i64 a.b, .int .i64 a.c, .string a.s, .string a.t]
instance : Enc Act where
  sz := 6
  rd _ vs a := vs = a.vals /\ a.ok
  len h := by rw [h.1]; rfl
  pu _ h := h
instance : Lim Act := ⟨fun a => Lim.ok a.s /\ Lim.ok a.t⟩
theorem actAt {w : World} {s : SV} {l : List Act} (h : RdSl w s l) {i : Nat} {x : Act} (hx : l[i]? = some x) : ∃ a, s.a = some a /\ i < s.len /\ x.ok /\ w.cell? ((a.add (i * 6)).add 0) = some (.int .i64 x.op) /\ w.cell? ((a.add (i * 6)).add 1) = some (.int .i64 x.a) /\
    w.cell? ((a.add (i * 6)).add 2) = some (.int .i64 x.b) /\ w.cell? ((a.add (i * 6)).add 3) = some (.int .i64 x.c) /\ w.cell? ((a.add (i * 6)).add 4) = some (.string x.s) /\ w.cell? ((a.add (i * 6)).add 5) = some (.string x.t) := by
  obtain ⟨a, ha, vs, h1, h2⟩ := h.get i x hx
  obtain ⟨rfl, hok⟩ : vs = x.vals /\ x.ok := h1
  have hi : i < l.length := (List.getElem?_eq_some_iff.1 hx).1
  have h2 : CellsAt w (a.add (i * 6)) x.vals := h2
  exact ⟨a, ha, by rw [h.len]; exact hi, hok, h2 0 _ rfl, h2 1 _ rfl, h2 2 _ rfl, h2 3 _ rfl, h2 4 _ rfl, h2 5 _ rfl⟩
theorem over_c {w : World} {t : Tbl} {f r s : SV} {l : List Act} (h : RdTbl w t f r) (hl : RdSl w s l) : Calls Tryz.prog 9 #[tblA t f r, .slice s.a s.len s.cap] w fun e w' => ∃ b : Bool, e = .returned (.bool b) /\ Pu w w' /\ (b = false -> l.length <= 200) := by
  refine F9_calls _ _ _ _ w _ (alB fun w1 hp1 hb1 => ⟨_, cl hb1 0, _, cl hb1 1, _, cl hb1 2, (weight_c (h.pu hp1)).mono ?_⟩)
  rintro e w2 ⟨n, rfl, hp2⟩
  have hp := hp1.trans hp2
  have hlen := hl.len
  have hlim := hl.lim
  refine ⟨n, rfl, ?_⟩
  refine loopUp l.length (fun k t w' => t.2 = (k : Int) /\ Pu w w') ⟨rfl, hp⟩ ?_
  rintro k J ⟨n3, m⟩ w3 hk ⟨hm, hp3⟩ hJ
  obtain rfl : m = (k : Int) := hm
  dsimp only
  refine Br.of (fun d1 => dwE_intro fun w4 hp4 _ => ?_) (fun d1 => ?_)
  · have hk2 : k < l.length := by have := dtrue d1; omega
    obtain ⟨x, hx⟩ := at_k hk2
    obtain ⟨a, ha, hi, hok, _, _, _, _, c4, c5⟩ := actAt ((hl.pu hp3).pu hp4) hx
    refine ⟨a, ha, by omega, by omega, x.s, c4, a, ha, by omega, by omega, x.t, c5, ?_⟩
    rw [wrap_in (n := (k : Int) + 1) (by omega) (by omega)]
    exact hJ _ _ hk2 ⟨by dsimp only; omega, hp3.trans hp4⟩
  · refine Br.of (fun d2 => ⟨true, rfl, hp3, fun e => by cases e⟩) (fun d2 => ⟨_, rfl, hp3, fun e => ?_⟩)
    have := dfalse e; omega
end Go.Proofs.YtcihcbfcgjepfaaGreatDoor

/- Desks: the law on two users of one record, walked. No condition but those stated. -/
set_option maxRecDepth 100000
set_option linter.unusedVariables false
set_option linter.unusedSimpArgs false
namespace Go.Proofs.YtcihcbfcgjepfaaGreatDoor
open Go.Sh Go.RowKit
variable {w w' : World} {d d' : DLay} {val : Nat -> List Val}
def TwoK (R : Rt) (p3 : Option Addr) (p5 : Option Addr) (p7 : Option Addr) (n72 : Int) (l74 : SV) (l78 : SV) (l82 : SV) (r12 : Nat) (r13 : Nat) (ds : Ds) (w69 : World) : Prop :=
  ∃ s135_0 : ByteArray, w69.cell? ((⟨r12, 0, none⟩ : Addr).add 0) = some (.string s135_0) /\
  ∃ n135_1 : Int, w69.cell? ((⟨r12, 0, none⟩ : Addr).add 1) = some (.int .i64 n135_1) /\
  ∃ n135_2 : Int, w69.cell? ((⟨r12, 0, none⟩ : Addr).add 2) = some (.int .i64 n135_2) /\
  ∃ b135_3 : Bool, w69.cell? ((⟨r12, 0, none⟩ : Addr).add 3) = some (.bool b135_3) /\
  ptrE p3 fun a70 =>
  ∃ n137 : Int, w69.cell? a70 = some (.int .i64 n137) /\
  ptrE p5 fun a71 =>
  0 <= (0 : Int) /\ (0 : Int) < ((2 : Nat) : Int) /\
  ∃ n139_0 : Int, w69.cell? ((a71.add ((0 : Int).toNat * 3)).add 0) = some (.int .i64 n139_0) /\
  ∃ n139_1 : Int, w69.cell? ((a71.add ((0 : Int).toNat * 3)).add 1) = some (.int .i64 n139_1) /\
  ∃ s139_2 : ByteArray, w69.cell? ((a71.add ((0 : Int).toNat * 3)).add 2) = some (.string s139_2) /\
  Calls Tryz.prog 13 #[.agg #[.string s135_0, .int .i64 n135_1, .int .i64 n135_2, .bool b135_3], .int .i64 n137, .agg #[.int .i64 n139_0, .int .i64 n139_1, .string s139_2]] w69 fun e w72 =>
  ∃ n140_0_0 : Int, ∃ n140_0_1 : Int, ∃ s140_0_2 : ByteArray, ∃ n140_1 : Int, e = .returned (.tuple #[.agg #[.int .i64 n140_0_0, .int .i64 n140_0_1, .string s140_0_2], .int .i64 n140_1]) /\
  alE (.cells #[.int .i64 0, .int .i64 0, .string (⟨#[]⟩ : ByteArray)] 28) w72 fun r14 w73 =>
  stA Tryz.prog 28 (⟨r14, 0, none⟩ : Addr) #[.int .i64 n140_0_0, .int .i64 n140_0_1, .string s140_0_2] w73 fun w74 =>
  ∃ s144_0 : ByteArray, w74.cell? ((⟨r13, 0, none⟩ : Addr).add 0) = some (.string s144_0) /\
  ∃ n144_1 : Int, w74.cell? ((⟨r13, 0, none⟩ : Addr).add 1) = some (.int .i64 n144_1) /\
  ∃ n144_2 : Int, w74.cell? ((⟨r13, 0, none⟩ : Addr).add 2) = some (.int .i64 n144_2) /\
  ∃ b144_3 : Bool, w74.cell? ((⟨r13, 0, none⟩ : Addr).add 3) = some (.bool b144_3) /\
  ptrE p3 fun a75 =>
  ∃ n146 : Int, w74.cell? a75 = some (.int .i64 n146) /\
  ptrE p5 fun a76 =>
  0 <= (1 : Int) /\ (1 : Int) < ((2 : Nat) : Int) /\
  ∃ n148_0 : Int, w74.cell? ((a76.add ((1 : Int).toNat * 3)).add 0) = some (.int .i64 n148_0) /\
  ∃ n148_1 : Int, w74.cell? ((a76.add ((1 : Int).toNat * 3)).add 1) = some (.int .i64 n148_1) /\
  ∃ s148_2 : ByteArray, w74.cell? ((a76.add ((1 : Int).toNat * 3)).add 2) = some (.string s148_2) /\
  Calls Tryz.prog 13 #[.agg #[.string s144_0, .int .i64 n144_1, .int .i64 n144_2, .bool b144_3], .int .i64 n146, .agg #[.int .i64 n148_0, .int .i64 n148_1, .string s148_2]] w74 fun e w77 =>
  ∃ n149_0_0 : Int, ∃ n149_0_1 : Int, ∃ s149_0_2 : ByteArray, ∃ n149_1 : Int, e = .returned (.tuple #[.agg #[.int .i64 n149_0_0, .int .i64 n149_0_1, .string s149_0_2], .int .i64 n149_1]) /\
  alE (.cells #[.int .i64 0, .int .i64 0, .string (⟨#[]⟩ : ByteArray)] 28) w77 fun r16 w78 =>
  stA Tryz.prog 28 (⟨r16, 0, none⟩ : Addr) #[.int .i64 n149_0_0, .int .i64 n149_0_1, .string s149_0_2] w78 fun w79 =>
  Calls Tryz.prog 14 #[.pointer p7, .int .i64 0, .int .i64 2] w79 fun e w80 =>
  ∃ n153 : Int, e = .returned (.int .i64 n153) /\
  Br (n153 != 0) (
  runD Tryz.prog ds w80 fun w81 =>
  R (.returned (.bool false)) w81) (
  Calls Tryz.prog 14 #[.pointer p7, .int .i64 1, .int .i64 4] w80 fun e w82 =>
  ∃ n157 : Int, e = .returned (.int .i64 n157) /\
  Br (n157 != 0) (
  runD Tryz.prog ds w82 fun w83 =>
  R (.returned (.bool false)) w83) (
  Calls Tryz.prog 15 #[.pointer p7, .int .i64 0, .int .i64 (IntKind.i64.wrap (((IntKind.i64.wrap ((n72.tmod ((l74.len : Nat) : Int)) + ((l78.len : Nat) : Int))).tmod ((l82.len : Nat) : Int)) + 1))] w82 fun e w84 =>
  ∃ n163 : Int, e = .returned (.int .i64 n163) /\
  Br (n163 != 0) (
  runD Tryz.prog ds w84 fun w85 =>
  R (.returned (.bool false)) w85) (
  Calls Tryz.prog 15 #[.pointer p7, .int .i64 1, .int .i64 (IntKind.i64.wrap (((IntKind.i64.wrap ((n72.tmod ((l74.len : Nat) : Int)) + ((l78.len : Nat) : Int))).tmod ((l82.len : Nat) : Int)) + 1))] w84 fun e w86 =>
  ∃ n169 : Int, e = .returned (.int .i64 n169) /\
  Br (n169 != 0) (
  runD Tryz.prog ds w86 fun w87 =>
  R (.returned (.bool false)) w87) (
  F3_2 R p5 p7 (IntKind.i64.wrap (((IntKind.i64.wrap ((n72.tmod ((l74.len : Nat) : Int)) + ((l78.len : Nat) : Int))).tmod ((l82.len : Nat) : Int)) + 1)) (some (⟨r12, 0, none⟩ : Addr)) (some (⟨r13, 0, none⟩ : Addr)) (some (⟨r14, 0, none⟩ : Addr)) n140_1 (some (⟨r16, 0, none⟩ : Addr)) n149_1 ds w86))))
theorem getD_modify {α : Type} {f : α -> α} {l : List α} {k : Nat} {x : α} (h : k < l.length) : (l.modify k f).getD k x = f (l.getD k x) := by
  rw [List.getD_eq_getElem?_getD, List.getD_eq_getElem?_getD, List.getElem?_modify, List.getElem?_eq_getElem h]; simp
theorem idx_name {l : List Fld} (hv : validF l = 0) {i : Nat} {a : Fld} (ha : l[i]? = some a) : idxN l a.name = some i := by
  have hn := (validF_ok hv).2.2.1
  unfold idxN
  rw [List.findIdx?_eq_some_iff_getElem]
  obtain ⟨hi, e⟩ := List.getElem?_eq_some_iff.1 ha
  refine ⟨hi, by simp [e], fun j hj => ?_⟩
  have := List.pairwise_iff_getElem.1 hn j i (by simp; omega) (by simpa using hi) hj
  simp only [List.getElem_map, e] at this
  simpa using this
theorem two_end {w0 w1 : World} (hp : Pu w0 w1) {r14 r16 r22 r24 : Nat} {x0 x1 y0 y1 : Val} {n15 n17 : Int} (h14 : w1.heap[r14]? = some (.cells #[.int .i64 x0.kind, .int .i64 x0.n, .string x0.s] 28)) (h16 : w1.heap[r16]? = some (.cells #[.int .i64 x1.kind, .int .i64 x1.n, .string x1.s] 28))
    (h22 : w1.heap[r22]? = some (.cells #[.int .i64 y0.kind, .int .i64 y0.n, .string y0.s] 28)) (h24 : w1.heap[r24]? = some (.cells #[.int .i64 y1.kind, .int .i64 y1.n, .string y1.s] 28)) (e0 : n15 = 0 -> y0 = x0) (e1 : n17 = 0 -> y1 = x1) :
    F3_1 (fun e w' => e = .returned (.bool true) /\ Pu w0 w') (some ⟨r14, 0, none⟩) n15 (some ⟨r16, 0, none⟩) n17 (some ⟨r22, 0, none⟩) (some ⟨r24, 0, none⟩) false [] w1 := by
  have kn : ∀ {w2 : World}, Pu w0 w2 -> Calls Tryz.prog 10 #[] w2 fun e w10 => ∃ b248 : Bool, e = .returned (.bool b248) /\ (Ending.returned (.bool b248) = .returned (.bool true) /\ Pu w0 w10) := fun {w2} hp2 => by
    refine (known_c w2).mono ?_
    rintro e w3 ⟨rfl, hp3⟩
    exact ⟨true, rfl, rfl, hp2.trans hp3⟩
  have second : ∀ {w2 : World}, Pu w1 w2 -> Br (n17 == 0) (∃ n242_0 : Int, w2.cell? ((⟨r24, 0, none⟩ : Addr).add 0) = some (.int .i64 n242_0) /\ ∃ n242_1 : Int, w2.cell? ((⟨r24, 0, none⟩ : Addr).add 1) = some (.int .i64 n242_1) /\ ∃ s242_2 : ByteArray, w2.cell? ((⟨r24, 0, none⟩ : Addr).add 2) = some (.string s242_2) /\
      ∃ n243_0 : Int, w2.cell? ((⟨r16, 0, none⟩ : Addr).add 0) = some (.int .i64 n243_0) /\ ∃ n243_1 : Int, w2.cell? ((⟨r16, 0, none⟩ : Addr).add 1) = some (.int .i64 n243_1) /\ ∃ s243_2 : ByteArray, w2.cell? ((⟨r16, 0, none⟩ : Addr).add 2) = some (.string s243_2) /\
      Calls Tryz.prog 19 #[.agg #[.int .i64 n242_0, .int .i64 n242_1, .string s242_2], .agg #[.int .i64 n243_0, .int .i64 n243_1, .string s243_2]] w2 fun e w8 => ∃ b244 : Bool, e = .returned (.bool b244) /\ Br (!b244) (Ending.returned (.bool false) = .returned (.bool true) /\ Pu w0 w8)
        (Calls Tryz.prog 10 #[] w8 fun e w10 => ∃ b248 : Bool, e = .returned (.bool b248) /\ (Ending.returned (.bool b248) = .returned (.bool true) /\ Pu w0 w10)))
      (Calls Tryz.prog 10 #[] w2 fun e w12 => ∃ b248 : Bool, e = .returned (.bool b248) /\ (Ending.returned (.bool b248) = .returned (.bool true) /\ Pu w0 w12)) := fun {w2} hp2 => by
    refine Br.of (fun c => ?_) (fun _ => kn (hp.trans hp2))
    have e := e1 (btrue c)
    subst e
    have b24 := hp2.blk h24
    have b16 := hp2.blk h16
    refine ⟨_, cl b24 0, _, cl b24 1, _, cl b24 2, _, cl b16 0, _, cl b16 1, _, cl b16 2, (sameValue_c y1 y1 w2).mono ?_⟩
    rintro e w3 ⟨rfl, hp3⟩
    refine ⟨_, rfl, ?_⟩
    rw [decide_eq_true rfl]
    exact kn ((hp.trans hp2).trans hp3)
  show Br (n15 == 0) _ _
  refine Br.of (fun c => ?_) (fun _ => second (Pu.refl w1))
  have e := e0 (btrue c)
  subst e
  refine ⟨_, cl h22 0, _, cl h22 1, _, cl h22 2, _, cl h14 0, _, cl h14 1, _, cl h14 2, (sameValue_c y0 y0 w1).mono ?_⟩
  rintro e w3 ⟨rfl, hp3⟩
  refine ⟨_, rfl, ?_⟩
  rw [decide_eq_true rfl]
  exact second hp3
theorem twoK_c {w0 : World} {t : Tbl} (hv : validT t = 0) {i j : Nat} (hij : i ≠ j) {a b : Fld} (ha : t.fields[i]? = some a) (hb : t.fields[j]? = some b) {k : Nat} (hk : k < t.recs.length) {n72 : Int} {l74 l78 l82 : SV} (ek : IntKind.i64.wrap (((IntKind.i64.wrap ((n72.tmod ((l74.len : Nat) : Int)) + ((l78.len : Nat) : Int))).tmod ((l82.len : Nat) : Int)) + 1) = (k : Int) + 1)
    {r3 r5 r12 r13 : Nat} {v0 v1 : Val} {cf cr : Value} (h3 : w.heap[r3]? = some (.cells #[.int .i64 t.page, cf, cr] 25)) (h5 : w.heap[r5]? = some (.cells #[.int .i64 v0.kind, .int .i64 v0.n, .string v0.s, .int .i64 v1.kind, .int .i64 v1.n, .string v1.s] 29))
    (h12 : w.heap[r12]? = some (.cells #[.string a.name, .int .i64 a.kind, .int .i64 a.width, .bool a.null] 38)) (h13 : w.heap[r13]? = some (.cells #[.string b.name, .int .i64 b.kind, .int .i64 b.width, .bool b.null] 38))
    (n3 : d.o r3 = none) (n5 : d.o r5 = none) (n12 : d.o r12 = none) (n13 : d.o r13 = none) (hO : One w0 w d val (Dsk.new t)) :
    TwoK (fun e w' => e = .returned (.bool true) /\ Pu w0 w') (some ⟨r3, 0, none⟩) (some ⟨r5, 0, none⟩) (some ⟨d.S, 0, none⟩) n72 l74 l78 l82 r12 r13 [] w := by
  have hI := inv_new hv
  have hvf : validF t.fields = 0 := hI.vf
  have ia := idx_name hvf ha
  have ib := idx_name hvf hb
  have ga : t.fields.getD i default = a := by rw [List.getD_eq_getElem?_getD, ha]; rfl
  have gb : t.fields.getD j default = b := by rw [List.getD_eq_getElem?_getD, hb]; rfl
  have hk1 : 1 <= (k : Int) + 1 := by omega
  have hk2 : (k : Int) + 1 <= t.recs.length := by omega
  unfold TwoK
  rw [ek]
  refine ⟨_, cl h12 0, _, cl h12 1, _, cl h12 2, _, cl h12 3, _, cl0 h3, by decide, by decide, _, cl h5 0, _, cl h5 1, _, cl h5 2, (rFit_c a t.page v0 w).mono ?_⟩
  rintro e w1 ⟨rfl, hp1⟩
  refine ⟨_, _, _, _, rfl, alB fun w2 hp2 hb2 => stA_fill hb2 bs28.symm rfl rfl fun w3 hb3 hf3 _ => ?_⟩
  have hp13 : Pu w1 w3 := hp2.andNew hf3 fun i hi => by rw [show i = w1.heap.size from hi]; exact Nat.le_refl _
  have hp03 := hp1.trans hp13
  refine ⟨_, cl (hp03.blk h13) 0, _, cl (hp03.blk h13) 1, _, cl (hp03.blk h13) 2, _, cl (hp03.blk h13) 3, _, cl0 (hp03.blk h3), by decide, by decide, _, cl (hp03.blk h5) 3, _, cl (hp03.blk h5) 4, _, cl (hp03.blk h5) 5, (rFit_c b t.page v1 w3).mono ?_⟩
  rintro e w4 ⟨rfl, hp4⟩
  refine ⟨_, _, _, _, rfl, alB fun w5 hp5 hb5 => stA_fill hb5 bs28.symm rfl rfl fun w6 hb6 hf6 _ => ?_⟩
  have hp46 : Pu w4 w6 := hp5.andNew hf6 fun i hi => by rw [show i = w4.heap.size from hi]; exact Nat.le_refl _
  have hp36 := hp4.trans hp46
  have hp06 := hp03.trans hp36
  generalize hx0 : fitS a t.page v0 = x0 at hb3 ⊢
  generalize hx1 : fitS b t.page v1 = x1 at hb6 ⊢
  have b14 := hp36.blk hb3
  have b16 := hb6
  have b12 := hp06.blk h12
  have b13 := hp06.blk h13
  have b5 := hp06.blk h5
  have n14 : d.o w1.heap.size = none := hO.at_.bd.out (hp1.size)
  have n16 : d.o w4.heap.size = none := hO.at_.bd.out ((hp03.trans hp4).size)
  generalize w1.heap.size = r14 at b14 n14 ⊢
  generalize w4.heap.size = r16 at b16 n16 ⊢
  have h6 := hO.plus hp06
  clear h3 h5 h12 h13 hb2 hb3 hb5 hb6 hf3 hf6 hp1 hp2 hp13 hp03 hp4 hp5 hp46 hp36 hp06 hO
  -- a step keeps what is not the desk's
  obtain ⟨m0, s0⟩ := two_mode0 (t := t)
  obtain ⟨m1, s1⟩ := two_mode1 (t := t) (recs := t.recs)
  obtain ⟨g0, s2⟩ := two_go0 (t := t) (recs := t.recs) hk1 hk2
  obtain ⟨g1, s3⟩ := two_go1 (t := t) (recs := t.recs) hk1 hk2
  obtain ⟨q0, s4⟩ := two_set0 (t := t) (recs := t.recs) hk1 ia v0 (c1 := [])
  rw [ga, hx0] at q0 s4
  obtain ⟨q1, s5⟩ := two_set1 (t := t) (recs := t.recs) hk1 ib v1 (c0 := c2 ((k : Int) + 1) (t.recs.getD ((k : Int) + 1 - 1).toNat default) i x0)
  rw [gb, hx1] at q1 s5
  have ek2 : ((k : Int) + 1 - 1).toNat = k := by omega
  rw [ek2] at s4 q1 s5
  generalize hr0 : t.recs.getD k default = r0 at s4 q1 s5
  obtain ⟨t1, s6⟩ := two_store1 (t := t) (recs := t.recs) hk1 (c0 := c2 ((k : Int) + 1) r0 i x0) (i := j) (x := x1)
  rw [ek2, hr0] at t1 s6
  have rr : r0 ∈ t.recs := by rw [← hr0, List.getD_eq_getElem?_getD, List.getElem?_eq_getElem hk]; exact List.getElem_mem hk
  have vr0 := validR_iff.1 (hI.gr r0 rr)
  have il : i < r0.v.length := by rw [vr0.1]; exact (List.getElem?_eq_some_iff.1 ha).1
  have jl : j < r0.v.length := by rw [vr0.1]; exact (List.getElem?_eq_some_iff.1 hb).1
  obtain ⟨pi, hpi⟩ := at_k il
  obtain ⟨pj, hpj⟩ := at_k jl
  have ea1 : (r2 r0 j x1 r0).v[i]? = some pi := by rw [r2_at hpi hpi, if_neg (fun h => hij h.2.symm)]
  have ea2 : (r2 r0 j x1 r0).v[j]? = some (if x1.2 = 0 then x1.1 else pj) := by
    rw [r2_at hpj hpj]
    by_cases e : x1.2 = 0
    · rw [if_pos ⟨e, rfl⟩, if_pos e]
      by_cases e2 : pj = x1.1
      · rw [if_pos e2, e2]
      · rw [if_neg e2]
    · rw [if_neg (fun h => e h.1), if_neg e]
  have gd : (t.recs.modify k (r2 r0 j x1)).getD ((k : Int) + 1 - 1).toNat default = r2 r0 j x1 r0 := by rw [ek2, getD_modify hk, hr0]
  obtain ⟨t0, s7⟩ := two_store0 (t := t) (recs := t.recs.modify k (r2 r0 j x1)) hk1 (r0 := r0) (i := i) (x := x0) (fun z hz => by rw [gd, ea1] at hz; rw [hpi, hz])
  rw [ek2] at s7
  have fld : (r2 r0 i x0 (r2 r0 j x1 r0)).v[i]? = some (if x0.2 = 0 then x0.1 else pi) /\ (r2 r0 i x0 (r2 r0 j x1 r0)).v[j]? = some (if x1.2 = 0 then x1.1 else pj) := by
    constructor
    · rw [r2_at hpi ea1]
      by_cases e : x0.2 = 0
      · rw [if_pos ⟨e, rfl⟩, if_pos e]
        by_cases e2 : pi = x0.1
        · rw [if_pos e2, e2]
        · rw [if_neg e2]
      · rw [if_neg (fun h => e h.1), if_neg e]
    · rw [r2_at hpj ea2, if_neg (fun h => hij h.2)]
  have nw : ∀ {nm : ByteArray} {m : Nat} {v : Val}, idxN t.fields nm = some m -> (r2 r0 i x0 (r2 r0 j x1 r0)).v[m]? = some v -> nowR ((k : Int) + 1) nm (k2 t ((k : Int) + 1) [] [] ((t.recs.modify k (r2 r0 j x1)).modify k (r2 r0 i x0))) = (v, 0) := fun {nm m v} hm hv => by
    unfold nowR
    rw [if_neg (by show ¬ ((k : Int) + 1 < 1 ∨ (k : Int) + 1 > (((t.recs.modify k (r2 r0 j x1)).modify k (r2 r0 i x0)).length : Nat)); simp; omega)]
    unfold valueR
    show (match (some (recK _ _) : Option Rec), idxN t.fields nm with | some r, some i => (r.v.getD i noV, (0 : Int)) | _, _ => (noV, 4)) = _
    rw [hm]
    have e5 : recK (k2 t ((k : Int) + 1) [] [] ((t.recs.modify k (r2 r0 j x1)).modify k (r2 r0 i x0))) ((k : Int) + 1) = r2 r0 i x0 (r2 r0 j x1 r0) := by
      unfold recK
      show ((t.recs.modify k (r2 r0 j x1)).modify k (r2 r0 i x0)).getD _ default = _
      rw [ek2, getD_modify (by simpa using hk), getD_modify hk, hr0]
    rw [e5]
    simp only [List.getD_eq_getElem?_getD, hv]; rfl
  -- the calls
  have keepB : ∀ {wa wb : World} {da db : DLay} {va : Nat -> List Val}, DLeft wa wb da db 0 va -> ∀ {r : Nat} {o : Obj}, da.o r = none -> wa.heap[r]? = some o -> wb.heap[r]? = some o /\ db.o r = none := fun {wa wb da db va} hL {r o} hn hb =>
    ⟨hL.fr.blk hb fun e => e hn, by
      cases e : db.o r with
      | none => rfl
      | some κ =>
        rcases hL.own r (by rw [e]; simp) with h1 | h1
        · exact absurd hn h1
        · have := blk_lt hb; omega⟩
  refine (mode_c h6.at_ 0 2).mono ?_
  rintro e w7 ⟨rfl, d7, hL7, ha7⟩
  rw [h6.abs] at ha7 ⊢
  rw [m0]
  have h7 := h6.step hL7 ha7 (h6.inv.mode _ _)
  rw [s0] at h7
  obtain ⟨b14, n14⟩ := keepB hL7 n14 b14
  obtain ⟨b16, n16⟩ := keepB hL7 n16 b16
  obtain ⟨b12, n12⟩ := keepB hL7 n12 b12
  obtain ⟨b13, n13⟩ := keepB hL7 n13 b13
  obtain ⟨b5, n5⟩ := keepB hL7 n5 b5
  rw [show d.S = d7.S from hL7.ptr.symm]
  refine ⟨_, rfl, ?_⟩
  show Calls Tryz.prog 14 _ w7 _
  refine (mode_c h7.at_ 1 4).mono ?_
  rintro e w8 ⟨rfl, d8, hL8, ha8⟩
  rw [h7.abs] at ha8 ⊢
  rw [m1]
  have h8 := h7.step hL8 ha8 (h7.inv.mode _ _)
  rw [s1] at h8
  obtain ⟨b14, n14⟩ := keepB hL8 n14 b14
  obtain ⟨b16, n16⟩ := keepB hL8 n16 b16
  obtain ⟨b12, n12⟩ := keepB hL8 n12 b12
  obtain ⟨b13, n13⟩ := keepB hL8 n13 b13
  obtain ⟨b5, n5⟩ := keepB hL8 n5 b5
  rw [show d7.S = d8.S from hL8.ptr.symm]
  refine ⟨_, rfl, ?_⟩
  show Calls Tryz.prog 15 _ w8 _
  refine (go_c h8.at_ (by rw [h8.abs]; exact h8.inv) 0 ((k : Int) + 1)).mono ?_
  rintro e w9 ⟨rfl, d9, v9, hL9, ha9⟩
  rw [h8.abs] at ha9 ⊢
  rw [g0]
  have h9 := h8.step hL9 ha9 (h8.inv.go _ _)
  rw [s2] at h9
  obtain ⟨b14, n14⟩ := keepB hL9 n14 b14
  obtain ⟨b16, n16⟩ := keepB hL9 n16 b16
  obtain ⟨b12, n12⟩ := keepB hL9 n12 b12
  obtain ⟨b13, n13⟩ := keepB hL9 n13 b13
  obtain ⟨b5, n5⟩ := keepB hL9 n5 b5
  rw [show d8.S = d9.S from hL9.ptr.symm]
  refine ⟨_, rfl, ?_⟩
  show Calls Tryz.prog 15 _ w9 _
  refine (go_c h9.at_ (by rw [h9.abs]; exact h9.inv) 1 ((k : Int) + 1)).mono ?_
  rintro e w10 ⟨rfl, d10, v10, hL10, ha10⟩
  rw [h9.abs] at ha10 ⊢
  rw [g1]
  have h10 := h9.step hL10 ha10 (h9.inv.go _ _)
  rw [s3] at h10
  obtain ⟨b14, n14⟩ := keepB hL10 n14 b14
  obtain ⟨b16, n16⟩ := keepB hL10 n16 b16
  obtain ⟨b12, n12⟩ := keepB hL10 n12 b12
  obtain ⟨b13, n13⟩ := keepB hL10 n13 b13
  obtain ⟨b5, n5⟩ := keepB hL10 n5 b5
  rw [show d9.S = d10.S from hL10.ptr.symm]
  refine ⟨_, rfl, ?_⟩
  refine Br.of (fun c => absurd rfl (bntrue c)) (fun _ => ?_)
  refine ⟨_, cl0 b12, by decide, by decide, _, cl b5 0, _, cl b5 1, _, cl b5 2, (set_c h10.at_ (by rw [h10.abs]; exact h10.inv) 0 a.name v0).mono ?_⟩
  rintro e w11 ⟨rfl, d11, v11, hL11, ha11⟩
  rw [h10.abs] at ha11 ⊢
  rw [q0]
  have h11 := h10.step hL11 ha11 (h10.inv.set _ _ _)
  rw [s4] at h11
  obtain ⟨b14, n14⟩ := keepB hL11 n14 b14
  obtain ⟨b16, n16⟩ := keepB hL11 n16 b16
  obtain ⟨b12, n12⟩ := keepB hL11 n12 b12
  obtain ⟨b13, n13⟩ := keepB hL11 n13 b13
  obtain ⟨b5, n5⟩ := keepB hL11 n5 b5
  rw [show d10.S = d11.S from hL11.ptr.symm]
  refine ⟨_, rfl, Br.of (fun c => absurd rfl (bntrue c)) (fun _ => ?_)⟩
  refine ⟨_, cl0 b13, by decide, by decide, _, cl b5 3, _, cl b5 4, _, cl b5 5, (set_c h11.at_ (by rw [h11.abs]; exact h11.inv) 1 b.name v1).mono ?_⟩
  rintro e w12 ⟨rfl, d12, v12, hL12, ha12⟩
  rw [h11.abs] at ha12 ⊢
  rw [q1]
  have h12 := h11.step hL12 ha12 (h11.inv.set _ _ _)
  rw [s5] at h12
  obtain ⟨b14, n14⟩ := keepB hL12 n14 b14
  obtain ⟨b16, n16⟩ := keepB hL12 n16 b16
  obtain ⟨b12, n12⟩ := keepB hL12 n12 b12
  obtain ⟨b13, n13⟩ := keepB hL12 n13 b13
  rw [show d11.S = d12.S from hL12.ptr.symm]
  refine ⟨_, rfl, Br.of (fun c => absurd rfl (bntrue c)) (fun _ => ?_)⟩
  refine (Store_c h12.at_ (by rw [h12.abs]; exact h12.inv) 1 false).mono ?_
  rintro e w13 ⟨z13, rfl, -, d13, v13, hL13, ha13⟩
  rw [h12.abs] at ha13 ⊢
  rw [t1]
  have h13 := h12.step hL13 ha13 (h12.inv.storeE _ _)
  rw [s6] at h13
  obtain ⟨b14, n14⟩ := keepB hL13 n14 b14
  obtain ⟨b16, n16⟩ := keepB hL13 n16 b16
  obtain ⟨b12, n12⟩ := keepB hL13 n12 b12
  obtain ⟨b13, n13⟩ := keepB hL13 n13 b13
  rw [show d12.S = d13.S from hL13.ptr.symm]
  refine ⟨z13, _, rfl, (Store_c h13.at_ (by rw [h13.abs]; exact h13.inv) 0 false).mono ?_⟩
  rintro e w14 ⟨z14, rfl, -, d14, v14, hL14, ha14⟩
  rw [h13.abs] at ha14 ⊢
  rw [t0]
  have h14 := h13.step hL14 ha14 (h13.inv.storeE _ _)
  rw [s7] at h14
  obtain ⟨b14, n14⟩ := keepB hL14 n14 b14
  obtain ⟨b16, n16⟩ := keepB hL14 n16 b16
  obtain ⟨b12, n12⟩ := keepB hL14 n12 b12
  obtain ⟨b13, n13⟩ := keepB hL14 n13 b13
  rw [show d13.S = d14.S from hL14.ptr.symm]
  refine ⟨z14, _, rfl, _, cl0 b12, (now_c h14.at_ (by rw [h14.abs]; exact h14.inv) ((k : Int) + 1) a.name).mono ?_⟩
  rintro e w15 ⟨rfl, hL15⟩
  rw [h14.abs, nw ia fld.1]
  have h15 := h14.step hL15 h14.abs h14.inv
  obtain ⟨b14, n14⟩ := keepB hL15 n14 b14
  obtain ⟨b16, n16⟩ := keepB hL15 n16 b16
  obtain ⟨b13, n13⟩ := keepB hL15 n13 b13
  refine ⟨_, _, _, _, rfl, alB fun w16 hp16 hb16 => stA_fill hb16 bs28.symm rfl rfl fun w17 hb17 hf17 _ => ?_⟩
  have hp17 : Pu w15 w17 := hp16.andNew hf17 fun i hi => by rw [show i = w15.heap.size from hi]; exact Nat.le_refl _
  have h17 := h15.plus hp17
  refine ⟨_, cl0 (hp17.blk b13), (now_c h17.at_ (by rw [h17.abs]; exact h17.inv) ((k : Int) + 1) b.name).mono ?_⟩
  rintro e w18 ⟨rfl, hL18⟩
  rw [h17.abs, nw ib fld.2]
  have h18 := h17.step hL18 h17.abs h17.inv
  have n22 : d14.o w15.heap.size = none := h15.at_.bd.out (Nat.le_refl _)
  obtain ⟨b22, n22⟩ := keepB hL18 n22 hb17
  obtain ⟨b14, n14⟩ := keepB hL18 n14 (hp17.blk b14)
  obtain ⟨b16, n16⟩ := keepB hL18 n16 (hp17.blk b16)
  refine ⟨_, _, _, _, rfl, alB fun w19 hp19 hb19 => stA_fill hb19 bs28.symm rfl rfl fun w20 hb20 hf20 _ => ?_⟩
  have hp20 : Pu w18 w20 := hp19.andNew hf20 fun i hi => by rw [show i = w18.heap.size from hi]; exact Nat.le_refl _
  refine Br.of (fun c => absurd rfl (bntrue c)) (fun _ => ?_)
  refine Br.of (fun c => absurd rfl (bntrue c)) (fun _ => ?_)
  refine Br.of (fun c => absurd rfl (bntrue c)) (fun _ => ?_)
  exact two_end (h18.pu.trans hp20) (hp20.blk b14) (hp20.blk b16) (hp20.blk b22) hb20 (fun e => by rw [if_pos e]) (fun e => by rw [if_pos e])
end Go.Proofs.YtcihcbfcgjepfaaGreatDoor

/- Desks: rows of numbers and of values of a fixed length that are handed in. No condition but those stated. -/
set_option maxRecDepth 100000
set_option linter.unusedVariables false
namespace Go.Proofs.YtcihcbfcgjepfaaGreatDoor
open Go.ChangeShapes Go.WideShapes Go.ChangeAt Go.RowKit Go.Sh
theorem all_mem {H : Type} {P : Program} {e : TypeId} : ∀ {ds : List (DataW H)} {j : Nat} {d : DataW H}, ds[j]? = some d -> ∀ n ∈ d.weights P e, n ∈ DataW.weightsAll P e ds
  | [], j, d, h, n, _ => by simp at h
  | x :: ds, 0, d, h, n, hn => by
    simp at h; subst h
    simp only [DataW.weightsAll, List.mem_append]; exact .inl hn
  | x :: ds, j + 1, d, h, n, hn => by
    simp only [DataW.weightsAll, List.mem_append]
    exact .inr (all_mem (by simpa using h) n hn)
theorem open_arr {P : Program} {H : Type} {enc : TypeId × Value -> H} {α : Type} [Enc α] [Lim α] {t e : TypeId} {n : Nat} {w : World} {base : Nat} {sp : Nat -> Bool} {held : Bool} (ht : P.underlying t = some (.array n e)) (hce : P.cellsOf e = Enc.sz α) (ho : Opens P e α)
    {fuel : Nat} {cs : List Value} {x : DataW H × List MemPlace} (h : DataW.trod enc P w base sp held fuel t cs = some x) (hr : ∀ m ∈ x.1.weights P t, m <= reachBytes) :
    cs.length = P.cellsOf t /\ ∀ i, i < n -> ∃ a : α, Enc.rd w ((cs.drop (i * Enc.sz α)).take (Enc.sz α)) a /\ Lim.ok a := by
  obtain ⟨xs, m, _, rfl, hlen, hxl, hxs⟩ := DataW.trod_array ht h
  refine ⟨hlen, fun i hi => ?_⟩
  have hk := hxs i hi
  rw [hce, List.getElem?_eq_getElem (by omega)] at hk
  refine ho H enc w base sp held m _ _ hk fun k hk2 => hr k ?_
  simp only [DataW.weights, ht]
  exact all_mem (j := i) (by rw [List.getElem?_map, List.getElem?_eq_getElem (by omega)]; rfl) k hk2
structure I3 where
  a : Int
  b : Int
  c : Int
structure V2 where
  a : Val
  b : Val
instance : Enc I3 where
  sz := 3
  rd _ vs x := vs = [.int .i64 x.a, .int .i64 x.b, .int .i64 x.c]
  len h := by rw [h]; rfl
  pu _ h := h
instance : Lim I3 := ⟨fun _ => True⟩
instance : Enc V2 where
  sz := 6
  rd _ vs x := vs = [.int .i64 x.a.kind, .int .i64 x.a.n, .string x.a.s, .int .i64 x.b.kind, .int .i64 x.b.n, .string x.b.s]
  len h := by rw [h]; rfl
  pu _ h := h
instance : Lim V2 := ⟨fun x => x.a.s.size <= 140737488355328 /\ x.b.s.size <= 140737488355328⟩
theorem opens_i3 : Opens Tryz.prog 26 I3 := fun H enc w base sp held fuel cs x h hr => by
  obtain ⟨hl, hA⟩ := open_arr (P := Tryz.prog) (t := 26) (e := 3) (n := 3) (α := Int) (by kernel_rfl) (by kernel_rfl) (opens_int (by kernel_rfl)) h hr
  have hl : cs.length = 3 := hl.trans (by kernel_rfl)
  obtain ⟨v0, v1, v2, rfl⟩ : ∃ v0 v1 v2, cs = [v0, v1, v2] := by
    match cs, hl with
    | [a, b, c], _ => exact ⟨a, b, c, rfl⟩
  obtain ⟨a, ⟨ra, _⟩, _⟩ := hA 0 (by omega)
  obtain ⟨b, ⟨rb, _⟩, _⟩ := hA 1 (by omega)
  obtain ⟨c, ⟨rc, _⟩, _⟩ := hA 2 (by omega)
  replace ra : [v0] = [.int .i64 a] := ra
  replace rb : [v1] = [.int .i64 b] := rb
  replace rc : [v2] = [.int .i64 c] := rc
  simp only [List.cons.injEq, and_true] at ra rb rc
  subst ra rb rc
  exact ⟨⟨a, b, c⟩, rfl, trivial⟩
theorem opens_v2 : Opens Tryz.prog 29 V2 := fun H enc w base sp held fuel cs x h hr => by
  obtain ⟨hl, hA⟩ := open_arr (P := Tryz.prog) (t := 29) (e := 28) (n := 2) (α := Val) (by kernel_rfl) (by kernel_rfl) opens_val h hr
  have hl : cs.length = 6 := hl.trans (by kernel_rfl)
  obtain ⟨v0, v1, v2, v3, v4, v5, rfl⟩ : ∃ v0 v1 v2 v3 v4 v5, cs = [v0, v1, v2, v3, v4, v5] := by
    match cs, hl with
    | [a, b, c, d, e, f], _ => exact ⟨a, b, c, d, e, f, rfl⟩
  obtain ⟨a, ⟨ra, _⟩, la⟩ := hA 0 (by omega)
  obtain ⟨b, ⟨rb, _⟩, lb⟩ := hA 1 (by omega)
  replace ra : [v0, v1, v2] = valV a := ra
  replace rb : [v3, v4, v5] = valV b := rb
  simp only [valV, List.cons.injEq, and_true] at ra rb
  obtain ⟨rfl, rfl, rfl⟩ := ra
  obtain ⟨rfl, rfl, rfl⟩ := rb
  exact ⟨⟨a, b⟩, rfl, la, lb⟩
end Go.Proofs.YtcihcbfcgjepfaaGreatDoor

/- Desks: the law on two users of one record. No condition but those stated. -/
set_option maxRecDepth 100000
set_option linter.unusedVariables false
set_option linter.unusedSimpArgs false
namespace Go.Proofs.YtcihcbfcgjepfaaGreatDoor
open Go.Sh Go.RowKit
variable {w w' : World}
theorem bs38 : sizeB Tryz.prog 38 = 4 := by kernel_rfl
theorem mod_idx (n : Int) {L : Nat} (h : 0 < L) (hL : L <= 1000000) : ∃ m : Nat, m < L /\ (n.tmod (L : Int) + L).tmod (L : Int) = (m : Int) := by
  have h1 := Int.tmod_lt_of_pos n (b := (L : Int)) (by omega)
  have h2 := Int.lt_tmod_of_pos n (b := (L : Int)) (by omega)
  have h3 := Int.tmod_lt_of_pos (n.tmod (L : Int) + L) (b := (L : Int)) (by omega)
  have h4 := Int.tmod_nonneg (a := n.tmod (L : Int) + L) (L : Int) (by omega)
  exact ⟨((n.tmod (L : Int) + L).tmod (L : Int)).toNat, by omega, by omega⟩
theorem tmod_in (n : Int) {L : Nat} (h : 0 < L) (hL : L <= 1000000) : IntKind.i64.wrap (n.tmod (L : Int) + L) = n.tmod (L : Int) + L := by
  have h1 := Int.tmod_lt_of_pos n (b := (L : Int)) (by omega)
  have h2 := Int.lt_tmod_of_pos n (b := (L : Int)) (by omega)
  exact wrap_in (by omega) (by omega)
theorem other_idx (n : Int) {F i : Nat} (hF : 2 <= F) (hL : F <= 1000000) (hi : i < F) : ∃ j : Nat, j < F /\ i ≠ j /\
    (IntKind.i64.wrap ((IntKind.i64.wrap ((i : Int) + 1)) + ((IntKind.i64.wrap ((IntKind.i64.wrap ((n.tmod (IntKind.i64.wrap ((F : Int) - 1))) + (F : Int))) - 1)).tmod (IntKind.i64.wrap ((F : Int) - 1))))).tmod (F : Int) = (j : Int) := by
  have e1 : IntKind.i64.wrap ((F : Int) - 1) = ((F - 1 : Nat) : Int) := by rw [wrap_in (by omega) (by omega)]; omega
  rw [e1]
  obtain ⟨m, hm, em⟩ := mod_idx n (L := F - 1) (by omega) (by omega)
  have h1 := Int.tmod_lt_of_pos n (b := ((F - 1 : Nat) : Int)) (by omega)
  have h2 := Int.lt_tmod_of_pos n (b := ((F - 1 : Nat) : Int)) (by omega)
  rw [wrap_in (n := (i : Int) + 1) (by omega) (by omega), wrap_in (n := n.tmod ((F - 1 : Nat) : Int) + (F : Int)) (by omega) (by omega), wrap_in (n := n.tmod ((F - 1 : Nat) : Int) + (F : Int) - 1) (by omega) (by omega)]
  have e2 : n.tmod ((F - 1 : Nat) : Int) + (F : Int) - 1 = n.tmod ((F - 1 : Nat) : Int) + ((F - 1 : Nat) : Int) := by omega
  rw [e2, em, wrap_in (by omega) (by omega)]
  have e3 : (i : Int) + 1 + (m : Int) = ((i + 1 + m : Nat) : Int) := by omega
  rw [e3, tmod_nat]
  refine ⟨(i + 1 + m) % F, Nat.mod_lt _ (by omega), fun e => ?_, rfl⟩
  by_cases h : i + 1 + m < F
  · rw [Nat.mod_eq_of_lt h] at e; omega
  · rw [Nat.mod_eq_sub_mod (by omega), Nat.mod_eq_of_lt (by omega)] at e; omega
theorem bufTwo_c (w : World) (t : Tbl) (f r : SV) (h : RdTbl w t f r) (hl : Lim.ok t) (a0 a1 a2 : Int) (v0 v1 : Val) (hv0 : v0.s.size <= 140737488355328) (hv1 : v1.s.size <= 140737488355328) :
    Calls Tryz.prog 3 #[tblA t f r, .agg #[.int .i64 a0, .int .i64 a1, .int .i64 a2], .agg #[.int .i64 v0.kind, .int .i64 v0.n, .string v0.s, .int .i64 v1.kind, .int .i64 v1.n, .string v1.s]] w fun e w' => e = .returned (.bool true) /\ Pu w w' := by
  refine F3_calls _ _ _ _ _ _ _ _ _ _ _ _ w _ (alB fun w1 hp1 hb1 => alB fun w2 hp2 hb2 => alB fun w3 hp3 hb3 => ?_)
  have hp03 := (hp1.trans hp2).trans hp3
  have b1 := hp3.blk (hp2.blk hb1)
  have b2 := hp3.blk hb2
  have kn : ∀ {w4 : World}, Pu w w4 -> Calls Tryz.prog 10 #[] w4 fun e w10 => ∃ b248 : Bool, e = .returned (.bool b248) /\ (Ending.returned (.bool b248) = .returned (.bool true) /\ Pu w w10) := fun {w4} hp => by
    refine (known_c w4).mono ?_
    rintro e w5 ⟨rfl, hp5⟩
    exact ⟨true, rfl, rfl, hp.trans hp5⟩
  refine ⟨_, cl b1 0, f, cl b1 1, r, cl b1 2, (over_c (h.pu hp03) (s := ⟨none, 0, 0⟩) (l := []) (RdSl.nil _ _ _)).mono ?_⟩
  rintro e w4 ⟨ov, rfl, hp4, -⟩
  have hp04 := hp03.trans hp4
  refine ⟨_, rfl, Br.of (fun _ => kn hp04) (fun _ => ?_)⟩
  have c1 := hp4.blk b1
  have c2' := hp4.blk b2
  have c3 := hp4.blk hb3
  refine ⟨by decide, by decide, v0.s, by rw [add_def, add_def, cell_blk c3]; rfl, by decide, by decide, v1.s, by rw [add_def, add_def, cell_blk c3]; rfl, Br.of (fun _ => kn hp04) (fun _ => ?_)⟩
  refine ⟨_, cl c1 0, f, cl c1 1, r, cl c1 2, (new_c (h.pu hp04) hl.1).mono ?_⟩
  rintro e w5 ⟨hp5, hbad, hgood⟩
  have hp05 := hp04.trans hp5
  have d1 := hp5.blk c1
  have hT5 := h.pu hp05
  -- what is not looked at
  have out : ∀ (w6 : World) (p7 : Option Addr) (n8 : Int), Pu w5 w6 -> n8 = validT t -> F3_3 (fun e w' => e = .returned (.bool true) /\ Pu w w') (some ⟨w.heap.size, 0, none⟩) (some ⟨w1.heap.size, 0, none⟩) (some ⟨w2.heap.size, 0, none⟩) p7 n8 true [] w6 := fun w6 p7 n8 hp6 en => by
    have d6 := hp6.blk d1
    refine ⟨_, cl d6 0, f, cl d6 1, r, cl d6 2, (rValidTbl_c (hT5.pu hp6)).mono ?_⟩
    rintro e w7 ⟨rfl, hp7⟩
    refine ⟨_, rfl, Br.of (fun _ => kn ((hp05.trans hp6).trans hp7)) (fun c => absurd en (bfalse c))⟩
  by_cases hv : validT t = 0
  · obtain ⟨d, val, rfl, hD, habs, hnew⟩ := hgood hv
    refine ⟨some ⟨d.S, 0, none⟩, 0, rfl, ?_⟩
    have hO : One w w5 d val (Dsk.new t) := ⟨hp05, hD, habs, inv_new hv, fun b hb => Nat.le_trans hp04.size (hnew b hb)⟩
    have hI := inv_new hv
    have rl := hT5.recs.len
    have fl := hT5.fields.len
    have r300 : t.recs.length <= 300 := hI.r300
    have f16 : t.fields.length <= 16 := hI.f16
    refine Br.of (fun c => absurd rfl (bntrue c)) (fun _ => ⟨false, w5, ptr_nil _ _ _ w5, ?_⟩)
    refine ⟨r, cl d1 2, Br.of (fun _ => out w5 _ 0 (Pu.refl _) hv.symm) (fun hr0 => ⟨f, cl d1 1, ?_⟩)⟩
    have hr0 := bfalse hr0
    by_cases hF : ((f.len : Nat) : Int) < 2
    · rw [decide_eq_true hF]; exact out w5 _ 0 (Pu.refl _) hv.symm
    rw [decide_eq_false hF]
    refine Br.of (fun c => by cases c) (fun _ => ?_)
    refine dwE_intro fun w6 hp6 _ => ?_
    have e1 := hp6.blk d1
    have e2 := hp6.blk (hp5.blk c2')
    refine ⟨by decide, by decide, a0, by rw [add_def, cell_blk e2]; rfl, r, cl e1 2, rfl, by omega, r, cl e1 2, r, cl e1 2, rfl, by omega, ?_⟩
    refine dwE_intro fun w7 hp7 _ => ?_
    have e1 := hp7.blk e1
    have e2 := hp7.blk e2
    refine ⟨by decide, by decide, a1, by rw [add_def, cell_blk e2]; rfl, f, cl e1 1, rfl, by omega, f, cl e1 1, f, cl e1 1, rfl, by omega, ?_⟩
    refine dwE_intro fun w8 hp8 _ => ?_
    have e1 := hp8.blk e1
    have e2 := hp8.blk e2
    have ew : IntKind.i64.wrap ((f.len : Int) - 1) = (f.len : Int) - 1 := wrap_in (by omega) (by omega)
    refine ⟨by decide, by decide, a2, by rw [add_def, cell_blk e2]; rfl, f, cl e1 1, rfl, by rw [ew]; omega, f, cl e1 1, f, cl e1 1, rfl, by rw [ew]; omega, f, cl e1 1, rfl, by omega, ?_⟩
    refine dwE_intro fun w9 hp9 _ => ?_
    have e1 := hp9.blk e1
    have hp59 := ((hp6.trans hp7).trans hp8).trans hp9
    have e3 := hp59.blk (hp5.blk c3)
    have hT9 := hT5.pu hp59
    have hO9 := hO.plus hp59
    obtain ⟨i, hi, ei⟩ := mod_idx a1 (L := f.len) (by omega) (by omega)
    obtain ⟨j, hj, hij, ej⟩ := other_idx a2 (F := f.len) (by omega) (by omega) hi
    obtain ⟨k, hk, ek⟩ := mod_idx a0 (L := r.len) (by omega) (by omega)
    have ekk : IntKind.i64.wrap (((IntKind.i64.wrap ((a0.tmod ((r.len : Nat) : Int)) + ((r.len : Nat) : Int))).tmod ((r.len : Nat) : Int)) + 1) = (k : Int) + 1 := by
      rw [tmod_in a0 (by omega) (by omega), ek, wrap_in (by omega) (by omega)]
    obtain ⟨A, hA⟩ := at_k (l := t.fields) (k := i) (by omega)
    obtain ⟨B, hB⟩ := at_k (l := t.fields) (k := j) (by omega)
    obtain ⟨pa, hpa, _, _, _, _, x0, x1, x2, x3⟩ := fldAt hT9.fields hA
    obtain ⟨pb, hpb, _, _, _, _, y0, y1, y2, y3⟩ := fldAt hT9.fields hB
    have hpp : pa = pb := by rw [hpa] at hpb; exact Option.some.inj hpb
    subst hpp
    have n3 : d.o w.heap.size = none := by
      cases e : d.o w.heap.size with
      | none => rfl
      | some κ => have q := hnew _ (by rw [e]; simp); have := blk_lt c1; omega
    have n5 : d.o w2.heap.size = none := by
      cases e : d.o w2.heap.size with
      | none => rfl
      | some κ => have q := hnew _ (by rw [e]; simp); have := blk_lt c3; omega
    refine ⟨fun y => Pu w9 y, Pu.refl _, f, fun y hy => cl (hy.blk e1) 1, pa, hpa, ?_⟩
    rw [tmod_in a1 (by omega) (by omega), ei]
    refine ⟨by omega, by omega, A.name, fun y hy => hy.cell x0, A.kind, fun y hy => hy.cell x1, A.width, fun y hy => hy.cell x2, A.null, fun y hy => hy.cell x3, f, fun y hy => cl (hy.blk e1) 1, pa, hpa, ?_⟩
    rw [ej]
    refine ⟨by omega, by omega, B.name, fun y hy => hy.cell y0, B.kind, fun y hy => hy.cell y1, B.width, fun y hy => hy.cell y2, B.null, fun y hy => hy.cell y3, ?_, ?_⟩
    · refine alB fun wA hpA hbA => ⟨hpA, alB fun wB hpB hbB => ⟨hpA.trans hpB, stA_fill (hpB.blk hbA) bs38.symm rfl rfl fun wC hbC hfC _ => ?_⟩⟩
      have zA : w9.heap.size < wA.heap.size := blk_lt hbA
      have hpC : Pu w9 wC := (hpA.trans hpB).andNew hfC fun i hi => by rw [show i = w9.heap.size from hi]; exact Nat.le_refl _
      refine ⟨hpC, stA_fill (hfC.blk hbB (by show ¬ wA.heap.size = w9.heap.size; omega)) bs38.symm rfl rfl fun wD hbD hfD _ => ?_⟩
      have hpD : Pu w9 wD := hpC.andNew hfD fun i hi => by have hi : i = wA.heap.size := hi; omega
      exact twoK_c (k := k) hv hij hA hB (by omega) ekk (hpD.blk e1) (hpD.blk e3) (hfD.blk hbC (by show ¬ w9.heap.size = wA.heap.size; omega)) hbD n3 n5 (hO9.at_.bd.out (Nat.le_refl _)) (hO9.at_.bd.out (by omega)) (hO9.plus hpD)
    · refine alB fun wA hpA hbA => ⟨hpA, alB fun wB hpB hbB => ⟨hpA.trans hpB, stA_fill hbB bs38.symm rfl rfl fun wC hbC hfC _ => ?_⟩⟩
      have zA : w9.heap.size < wA.heap.size := blk_lt hbA
      have hpC : Pu w9 wC := (hpA.trans hpB).andNew hfC fun i hi => by have hi : i = wA.heap.size := hi; omega
      refine ⟨hpC, stA_fill (hfC.blk (hpB.blk hbA) (by show ¬ w9.heap.size = wA.heap.size; omega)) bs38.symm rfl rfl fun wD hbD hfD _ => ?_⟩
      have hpD : Pu w9 wD := hpC.andNew hfD fun i hi => by have hi : i = w9.heap.size := hi; omega
      exact twoK_c (k := k) hv hij hA hB (by omega) ekk (hpD.blk e1) (hpD.blk e3) (hfD.blk hbC (by show ¬ wA.heap.size = w9.heap.size; omega)) hbD n3 n5 (hO9.at_.bd.out (by omega)) (hO9.at_.bd.out (Nat.le_refl _)) (hO9.plus hpD)
  · rw [hbad hv]
    exact ⟨none, _, rfl, Br.of (fun _ => out w5 none _ (Pu.refl _) rfl) (fun c => absurd (bnfalse c) hv)⟩
theorem bufTwo_row_c (w : World) (t : Tbl) (f r : SV) (h : RdTbl w t f r) (hl : Lim.ok t) (a : I3) (_ : Lim.ok a) (v : V2) (hv : Lim.ok v) : Calls Tryz.prog 3 #[tblA t f r, .agg #[.int .i64 a.a, .int .i64 a.b, .int .i64 a.c], .agg #[.int .i64 v.a.kind, .int .i64 v.a.n, .string v.a.s, .int .i64 v.b.kind, .int .i64 v.b.n, .string v.b.s]] w fun e w' => e = .returned (.bool true) /\ Pu w w' := bufTwo_c w t f r h hl a.a a.b a.c v.a v.b hv.1 hv.2
end Go.Proofs.YtcihcbfcgjepfaaGreatDoor
