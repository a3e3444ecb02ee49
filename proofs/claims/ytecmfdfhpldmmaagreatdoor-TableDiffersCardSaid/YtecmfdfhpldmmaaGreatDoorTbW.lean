import Derived.Test.YtecmfdfhpldmmaaGreatDoorTbV
import Derived.Test.YtecmfdfhpldmmaaGreatDoorTbFdiff
import Derived.Test.YtecmfdfhpldmmaaGreatDoorShTwentyThree
/- Table: in which records two tables differ; the law on it. No condition. -/
set_option maxRecDepth 100000
set_option linter.unusedVariables false
set_option linter.unusedSimpArgs false
namespace Go.Proofs.YtecmfdfhpldmmaaGreatDoor
open Go.Sh Go.RowKit

theorem struct23 : structK Tryz.prog 23 [.str, .int .i64, .int .i64, .bool] = true := by kernel_rfl
theorem guard23 : Tryz.prog.eqGuardType Tryz.prog.depth 23 = false := by kernel_rfl
theorem structK25 : structK Tryz.prog 25 [.int .i64, .int .i64, .str] = true := by kernel_rfl
theorem under4 : Tryz.prog.underlying 4 = some .bool := by kernel_rfl
theorem fldV_inj {a b : Fld} (h : fldV a = fldV b) : a = b := by
  obtain ⟨a1, a2, a3, a4⟩ := a; obtain ⟨b1, b2, b3, b4⟩ := b
  simp [fldV] at h; simp [h]
theorem neFld (x y : Operand) (a b : Fld) (w : World) : (eqS .neq 23 x y (fldA a) (fldA b)).run Tryz.prog w = .ok (.bool (!decide (a = b))) w := by
  refine neS_rowK (ks := [.str, .int .i64, .int .i64, .bool]) (xs := fldV a) (ys := fldV b) struct23 guard23 rfl rfl ?_ w
  rw [decide_eq_true_iff]
  exact ⟨fun h => by rw [h], fldV_inj⟩
theorem neVal (x y : Operand) (a b : Val) (w : World) : (eqS .neq 25 x y (valA a) (valA b)).run Tryz.prog w = .ok (.bool (!decide (a = b))) w := by
  refine neS_rowK (ks := [.int .i64, .int .i64, .str]) (xs := valV a) (ys := valV b) structK25 guard25 rfl rfl ?_ w
  rw [decide_eq_true_iff]
  exact ⟨fun h => by rw [h], valV_inj⟩
/-- Fields that can be read. -/
structure RdF (w : World) (s : SV) (l : List Fld) : Prop where
  len : s.len = l.length
  lim : l.length ≤ 140737488355328
  get : ∀ i f, l[i]? = some f → ∃ a, s.a = some a ∧ w.cell? ((a.add (i * 4)).add 0) = some (.string f.name) ∧ w.cell? ((a.add (i * 4)).add 1) = some (.int .i64 f.kind) ∧ w.cell? ((a.add (i * 4)).add 2) = some (.int .i64 f.width) ∧ w.cell? ((a.add (i * 4)).add 3) = some (.bool f.null)
theorem RdF.pu {w w' : World} {s : SV} {l : List Fld} (h : RdF w s l) (hp : Pu w w') : RdF w' s l := ⟨h.len, h.lim, fun i v hv => by
  obtain ⟨a, h1, h2, h3, h4, h5⟩ := h.get i v hv
  exact ⟨a, h1, hp.cell h2, hp.cell h3, hp.cell h4, hp.cell h5⟩⟩
theorem RdF.of {w : World} {s : SV} {l : List Fld} (h : RdSl w s l) : RdF w s l := ⟨h.len, by have := h.lim; have := h.len; omega, fun i v hv => by
  obtain ⟨a, h1, _, _, _, _, h2, h3, h4, h5⟩ := fldAt h hv
  exact ⟨a, h1, h2, h3, h4, h5⟩⟩
theorem ne_of_at {α : Type} {a b : List α} {k : Nat} {x y : α} (hx : a[k]? = some x) (hy : b[k]? = some y) (h : x ≠ y) : a ≠ b := fun e => by
  subst e; rw [hx] at hy; cases hy; exact h rfl
theorem equalF_c {w : World} {s t : SV} {a b : List Fld} (ha : RdF w s a) (hb : RdF w t b) : Calls Tryz.prog 77 #[.slice s.a s.len s.cap, .slice t.a t.len t.cap] w fun e w' => e = .returned (.bool (decide (a = b))) ∧ Pu w w' := by
  refine F77_calls _ _ w _ ?_
  have hla := ha.len
  have hlb := hb.len
  have hlim := ha.lim
  refine Br.of (fun d => ⟨by rw [decide_eq_false (fun e => bntrue d (by rw [hla, hlb, e]))], Pu.refl _⟩) (fun d => ?_)
  have hab : a.length = b.length := by have := bnfalse d; omega
  refine loopUp a.length (fun k t w' => t = (k : Int) ∧ a.take k = b.take k ∧ Pu w w') ⟨rfl, by simp, Pu.refl _⟩ ?_
  rintro k J t w2 hk ⟨ht, he, hp⟩ hJ
  obtain rfl : t = (k : Int) := ht
  refine Br.of (fun d1 => dwE_intro fun w3 hp3 _ => ?_) (fun d1 => ?_)
  · have hk2 : k < a.length := by have := dtrue d1; omega
    obtain ⟨x, hx⟩ := at_k hk2
    obtain ⟨y, hy⟩ := at_k (show k < b.length by omega)
    obtain ⟨p, hpa, c0, c1, c2, c3⟩ := ((ha.pu hp).pu hp3).get k x hx
    obtain ⟨q, hqa, e0, e1, e2, e3⟩ := ((hb.pu hp).pu hp3).get k y hy
    refine ⟨p, hpa, by omega, by omega, _, c0, _, c1, _, c2, _, c3, q, hqa, by omega, by omega, _, e0, _, e1, _, e2, _, e3, _, fun w => neFld _ _ x y w, Br.of (fun d2 => ⟨?_, hp.trans hp3⟩) (fun d2 => ?_)⟩
    · rw [decide_eq_false (ne_of_at hx hy (by simpa using d2))]
    · rw [wrap_in (by omega) (by omega)]
      exact hJ _ _ hk2 ⟨by omega, eq_of_take he hx hy (by simpa using d2), hp.trans hp3⟩
  · have hk2 : k = a.length := by have := dfalse d1; omega
    subst hk2
    rw [List.take_length, hab, List.take_length] at he
    exact ⟨by rw [decide_eq_true he], hp⟩
theorem sameFields_c {w : World} {s t : SV} {a b : List Fld} (ha : RdF w s a) (hb : RdF w t b) : Calls Tryz.prog 79 #[.slice s.a s.len s.cap, .slice t.a t.len t.cap] w fun e w' => e = .returned (.bool (decide (a = b))) ∧ Pu w w' := by
  refine F79_calls _ _ w _ ?_
  have hla := ha.len
  have hlb := hb.len
  have hlim := ha.lim
  refine Br.of (fun d => ⟨by rw [decide_eq_false (fun e => bntrue d (by rw [hla, hlb, e]))], Pu.refl _⟩) (fun d => ?_)
  have hab : a.length = b.length := by have := bnfalse d; omega
  refine loopUp a.length (fun k t w' => t = (k : Int) ∧ a.take k = b.take k ∧ Pu w w') ⟨rfl, by simp, Pu.refl _⟩ ?_
  rintro k J t w2 hk ⟨ht, he, hp⟩ hJ
  obtain rfl : t = (k : Int) := ht
  refine Br.of (fun d1 => dwE_intro fun w3 hp3 _ => ?_) (fun d1 => ?_)
  · have hk2 : k < a.length := by have := dtrue d1; omega
    obtain ⟨x, hx⟩ := at_k hk2
    obtain ⟨y, hy⟩ := at_k (show k < b.length by omega)
    obtain ⟨p, hpa, c0, c1, c2, c3⟩ := ((ha.pu hp).pu hp3).get k x hx
    obtain ⟨q, hqa, e0, e1, e2, e3⟩ := ((hb.pu hp).pu hp3).get k y hy
    refine ⟨p, hpa, by omega, by omega, _, c0, _, c1, _, c2, _, c3, q, hqa, by omega, by omega, _, e0, _, e1, _, e2, _, e3, _, fun w => neFld _ _ x y w, Br.of (fun d2 => ⟨?_, hp.trans hp3⟩) (fun d2 => ?_)⟩
    · rw [decide_eq_false (ne_of_at hx hy (by simpa using d2))]
    · rw [wrap_in (by omega) (by omega)]
      exact hJ _ _ hk2 ⟨by omega, eq_of_take he hx hy (by simpa using d2), hp.trans hp3⟩
  · have hk2 : k = a.length := by have := dfalse d1; omega
    subst hk2
    rw [List.take_length, hab, List.take_length] at he
    exact ⟨by rw [decide_eq_true he], hp⟩
theorem equalV_c {w : World} {s t : SV} {a b : List Val} (ha : RdV w s a) (hb : RdV w t b) : Calls Tryz.prog 78 #[.slice s.a s.len s.cap, .slice t.a t.len t.cap] w fun e w' => e = .returned (.bool (decide (a = b))) ∧ Pu w w' := by
  refine F78_calls _ _ w _ ?_
  have hla := ha.len
  have hlb := hb.len
  have hlim := ha.lim
  refine Br.of (fun d => ⟨by rw [decide_eq_false (fun e => bntrue d (by rw [hla, hlb, e]))], Pu.refl _⟩) (fun d => ?_)
  have hab : a.length = b.length := by have := bnfalse d; omega
  refine loopUp a.length (fun k t w' => t = (k : Int) ∧ a.take k = b.take k ∧ Pu w w') ⟨rfl, by simp, Pu.refl _⟩ ?_
  rintro k J t w2 hk ⟨ht, he, hp⟩ hJ
  obtain rfl : t = (k : Int) := ht
  refine Br.of (fun d1 => dwE_intro fun w3 hp3 _ => ?_) (fun d1 => ?_)
  · have hk2 : k < a.length := by have := dtrue d1; omega
    obtain ⟨x, hx⟩ := at_k hk2
    obtain ⟨y, hy⟩ := at_k (show k < b.length by omega)
    obtain ⟨p, hpa, c0, c1, c2⟩ := ((ha.pu hp).pu hp3).get k x hx
    obtain ⟨q, hqa, e0, e1, e2⟩ := ((hb.pu hp).pu hp3).get k y hy
    refine ⟨p, hpa, by omega, by omega, _, c0, _, c1, _, c2, q, hqa, by omega, by omega, _, e0, _, e1, _, e2, _, fun w => neVal _ _ x y w, Br.of (fun d2 => ⟨?_, hp.trans hp3⟩) (fun d2 => ?_)⟩
    · rw [decide_eq_false (ne_of_at hx hy (by simpa using d2))]
    · rw [wrap_in (by omega) (by omega)]
      exact hJ _ _ hk2 ⟨by omega, eq_of_take he hx hy (by simpa using d2), hp.trans hp3⟩
  · have hk2 : k = a.length := by have := dfalse d1; omega
    subst hk2
    rw [List.take_length, hab, List.take_length] at he
    exact ⟨by rw [decide_eq_true he], hp⟩

/-! ### Which records differ -/
def difB (a b : List Rec) (i : Nat) : Bool := !decide (a[i]? = b[i]?)
def difL (a b : List Rec) (n : Nat) : List Int := ((List.range n).filter (difB a b)).map fun (i : Nat) => (i : Int) + 1
theorem difL_yes {a b : List Rec} {n : Nat} (h : difB a b n = true) : difL a b (n + 1) = difL a b n ++ [(n : Int) + 1] := by
  simp [difL, List.range_succ, List.filter_append, h]
theorem difL_no {a b : List Rec} {n : Nat} (h : difB a b n = false) : difL a b (n + 1) = difL a b n := by
  simp [difL, List.range_succ, List.filter_append, h]
theorem difL_len (a b : List Rec) (n : Nat) : (difL a b n).length ≤ n := by
  unfold difL; rw [List.length_map]
  have := List.length_filter_le (difB a b) (List.range n)
  simpa using this
def difS (a b : Tbl) : List Int × Int := if validT a ≠ 0 then ([], validT a) else if validT b ≠ 0 then ([], validT b) else if a.page ≠ b.page ∨ a.fields ≠ b.fields then ([], 10) else (difL a.recs b.recs (max a.recs.length b.recs.length), 0)
theorem validT_ok {t : Tbl} (h : validT t = 0) : pageB t.page = true ∧ validF t.fields = 0 ∧ t.recs.length ≤ 300 ∧ firstBad t.fields t.page t.recs = 0 := by
  unfold validT at h
  split at h
  · rename_i h1
    split at h
    · rename_i h2; exact absurd h h2
    · rename_i h2
      split at h
      · cases h
      · rename_i h3; exact ⟨h1, by omega, by omega, h⟩
  · cases h
theorem rec_eq {x y : Rec} : (x = y) ↔ (x.gone = y.gone ∧ x.v = y.v) := by
  obtain ⟨a, b⟩ := x; obtain ⟨c, d⟩ := y; simp
theorem difB_out {a b : List Rec} {i : Nat} (hm : i < max a.length b.length) (h : a.length ≤ i ∨ b.length ≤ i) : difB a b i = true := by
  unfold difB
  rw [Bool.not_eq_true', decide_eq_false_iff_not]
  intro e
  rcases h with h | h
  · rw [List.getElem?_eq_none h, List.getElem?_eq_getElem (by omega)] at e; cases e
  · rw [List.getElem?_eq_none (l := b) h, List.getElem?_eq_getElem (by omega)] at e; cases e
theorem difB_in {a b : List Rec} {i : Nat} {x y : Rec} (hx : a[i]? = some x) (hy : b[i]? = some y) : difB a b i = !(decide (x.gone = y.gone) && decide (x.v = y.v)) := by
  unfold difB
  rw [hx, hy]
  congr 1
  rw [← Bool.decide_and]
  refine dec_eq ?_
  rw [Option.some_inj, rec_eq]
theorem dif_push {w0 w : World} {s : SV} {a b : List Rec} {k : Nat} (h : NewI w0 w s (difL a b k)) (hp : Pu w0 w) (hk : k < 1000) {J : SV × Int → World → Prop}
    (hJ : ∀ (s' : SV) w', NewI w0 w' s' (difL a b (k + 1)) → Pu w0 w' → J (s', (k : Int) + 1) w') (hd : difB a b k = true) :
    alE (.cells #[.int .i64 (IntKind.i64.wrap ((k : Int) + 1))] 3) w fun r w4 => ∃ l90 : SV, ∃ w5 : World, (Builtin.append_ #[55, 55] 55 #[.slice s.a s.len s.cap, .slice (some ⟨r, 0, none⟩) 1 1]).run Tryz.prog w4 = .ok (.slice l90.a l90.len l90.cap) w5 ∧ J (l90, IntKind.i64.wrap ((k : Int) + 1)) w5 := by
  rw [wrap_in (by omega) (by omega)]
  refine alB fun w4 hp4 hb4 => ?_
  have hl := difL_len a b k
  obtain ⟨s', w5, e5, r5, f5⟩ := (h.pu hp4).push (hp.trans hp4).size hb4 (by omega)
  refine ⟨s', w5, e5, hJ s' w5 (by rw [difL_yes hd]; exact r5) ?_⟩
  exact (hp.trans hp4).andNew f5 fun i hi => h.2 i hi
theorem tbl_blk {w : World} {r : Nat} {t : Tbl} {f q : SV} (h : w.heap[r]? = some (.cells #[.int .i64 t.page, .slice f.a f.len f.cap, .slice q.a q.len q.cap] 35)) : w.cell? ((⟨r, 0, none⟩ : Addr).add 0) = some (.int .i64 t.page) ∧ w.cell? ((⟨r, 0, none⟩ : Addr).add 1) = some (.slice f.a f.len f.cap) ∧ w.cell? ((⟨r, 0, none⟩ : Addr).add 2) = some (.slice q.a q.len q.cap) := ⟨cl h 0, cl h 1, cl h 2⟩
theorem differ_c {w : World} {a b : Tbl} {fa ra fb rb : SV} (ha : RdTbl w a fa ra) (hb : RdTbl w b fb rb) (la : Lim.ok a.fields) (lb : Lim.ok b.fields) : Calls Tryz.prog 39 #[tblA a fa ra, tblA b fb rb] w
    fun e w' => ∃ q : SV, e = .returned (.tuple #[.slice q.a q.len q.cap, .int .i64 (difS a b).2]) ∧ NewI w w' q (difS a b).1 ∧ Pu w w' := by
  refine F39_calls _ _ _ _ _ _ w _ (alB fun w1 hp1 hb1 => alB fun w2 hp2 hb2 => ?_)
  have hp02 := hp1.trans hp2
  have b1 : ∀ {wz}, Pu w2 wz → _ := fun {wz} (h : Pu w2 wz) => tbl_blk (t := a) (f := fa) (q := ra) (h.blk (hp2.blk hb1))
  have b2 : ∀ {wz}, Pu w2 wz → _ := fun {wz} (h : Pu w2 wz) => tbl_blk (t := b) (f := fb) (q := rb) (h.blk hb2)
  refine ⟨_, (b1 (Pu.refl _)).1, _, (b1 (Pu.refl _)).2.1, _, (b1 (Pu.refl _)).2.2, (validTbl_c (ha.pu hp02) la).mono ?_⟩
  rintro e w3 ⟨rfl, hp3⟩
  refine ⟨_, rfl, Br.of (fun d => ⟨⟨none, 0, 0⟩, by unfold difS; rw [if_pos (bntrue d)], by unfold difS; rw [if_pos (bntrue d)]; exact NewI.nil w w3, hp02.trans hp3⟩) (fun d => ?_)⟩
  have va := bnfalse d
  refine ⟨_, (b2 hp3).1, _, (b2 hp3).2.1, _, (b2 hp3).2.2, (validTbl_c (hb.pu (hp02.trans hp3)) lb).mono ?_⟩
  rintro e w4 ⟨rfl, hp4⟩
  have p4 := hp3.trans hp4
  have eA : difS a b = if validT b ≠ 0 then ([], validT b) else if a.page ≠ b.page ∨ a.fields ≠ b.fields then ([], 10) else (difL a.recs b.recs (max a.recs.length b.recs.length), 0) := by unfold difS; rw [if_neg (by omega)]
  refine ⟨_, rfl, Br.of (fun d => ⟨⟨none, 0, 0⟩, by rw [eA, if_pos (bntrue d)], by rw [eA, if_pos (bntrue d)]; exact NewI.nil w w4, hp02.trans p4⟩) (fun d => ?_)⟩
  have vb := bnfalse d
  rw [if_neg (by omega)] at eA
  have c1 := (b1 p4).1
  have c2 := (b2 p4).1
  rw [add0] at c1 c2
  refine ⟨_, c1, _, c2, Br.of (fun d => ⟨⟨none, 0, 0⟩, by rw [eA, if_pos (.inl (bntrue d))], by rw [eA, if_pos (.inl (bntrue d))]; exact NewI.nil w w4, hp02.trans p4⟩) (fun d => ⟨_, (b1 p4).2.1, _, (b2 p4).2.1, ?_⟩)⟩
  have hpg := bnfalse d
  refine (equalF_c (RdF.of (ha.fields.pu (hp02.trans p4))) (RdF.of (hb.fields.pu (hp02.trans p4)))).mono ?_
  rintro e w5 ⟨rfl, hp5⟩
  have p5 := p4.trans hp5
  refine ⟨_, rfl, Br.of (fun d => ⟨⟨none, 0, 0⟩, by rw [eA, if_pos (.inr (by simpa using d))], by rw [eA, if_pos (.inr (by simpa using d))]; exact NewI.nil w w5, hp02.trans p5⟩) (fun d => ⟨_, (b1 p5).2.2, _, (b2 p5).2.2, _, w5, max_run _ _ _ _ _ _, ?_⟩)⟩
  rw [if_neg (by rintro (h | h); exact h hpg; exact h (by simpa using d))] at eA
  have hla := ha.recs.len
  have hlb := hb.recs.len
  have ma := (validT_ok va).2.2.1
  have mb := (validT_ok vb).2.2.1
  refine loopUp (max a.recs.length b.recs.length) (fun k t w' => t.2 = (k : Int) ∧ NewI w2 w' t.1 (difL a.recs b.recs k) ∧ Pu w2 w') ⟨rfl, NewI.nil w2 w5, p5⟩ ?_
  rintro k J ⟨t1, t2⟩ w6 hk ⟨ht, hr, hp⟩ hJ
  obtain rfl : t2 = (k : Int) := ht
  have hr : NewI w2 w6 t1 (difL a.recs b.recs k) := hr
  dsimp only
  refine Br.of (fun d1 => dwE_intro fun w7 hp7 _ => ?_) (fun d1 => ?_)
  · have hk2 : k < max a.recs.length b.recs.length := by have := dtrue d1; omega
    have p7 := hp.trans hp7
    have hr7 := hr.pu hp7
    refine ⟨_, (b1 p7).2.2, Br.of (fun d2 => ?_) (fun d2 => ⟨_, (b2 p7).2.2, Br.of (fun d3 => ?_) (fun d3 => ⟨_, (b1 p7).2.2, ?_⟩)⟩)⟩
    · exact dif_push hr7 p7 (by omega) (fun s' w' h1 h2 => hJ _ _ hk2 ⟨by dsimp only; omega, h1, h2⟩) (difB_out hk2 (.inl (by have := dtrue d2; omega)))
    · exact dif_push hr7 p7 (by omega) (fun s' w' h1 h2 => hJ _ _ hk2 ⟨by dsimp only; omega, h1, h2⟩) (difB_out hk2 (.inr (by have := dtrue d3; omega)))
    have d2 := dfalse d2
    have d3 := dfalse d3
    obtain ⟨x, hx⟩ := at_k (show k < a.recs.length by omega)
    obtain ⟨y, hy⟩ := at_k (show k < b.recs.length by omega)
    obtain ⟨p, sx, hpa, _, vx, x0, x1⟩ := recAt (ha.recs.pu (hp02.trans p7)) hx
    obtain ⟨q, sy, hqa, _, vy, y0, y1⟩ := recAt (hb.recs.pu (hp02.trans p7)) hy
    have x00 := x0
    have y00 := y0
    rw [add0] at x00 y00
    have hd := difB_in hx hy
    refine ⟨p, hpa, by omega, by omega, _, x00, _, (b2 p7).2.2, q, hqa, by omega, by omega, _, y00, _, fun w => neS_bool under4 _ _ _ _ w, Br.of (fun d4 => ?_) (fun d4 => ?_)⟩
    · exact dif_push hr7 p7 (by omega) (fun s' w' h1 h2 => hJ _ _ hk2 ⟨by dsimp only; omega, h1, h2⟩) (by rw [hd, decide_eq_false (by simpa using d4)]; rfl)
    have d4 : x.gone = y.gone := by simpa using d4
    refine ⟨_, (b1 p7).2.2, p, hpa, by omega, by omega, _, x1, _, (b2 p7).2.2, q, hqa, by omega, by omega, _, y1, (equalV_c (RdV.of vx) (RdV.of vy)).mono ?_⟩
    rintro e w8 ⟨rfl, hp8⟩
    refine ⟨_, rfl, Br.of (fun d5 => ?_) (fun d5 => ?_)⟩
    · exact dif_push (hr7.pu hp8) (p7.trans hp8) (by omega) (fun s' w' h1 h2 => hJ _ _ hk2 ⟨by dsimp only; omega, h1, h2⟩) (by rw [hd, decide_eq_true d4]; simpa using d5)
    · show J (t1, IntKind.i64.wrap ((k : Int) + 1)) w8
      rw [wrap_in (by omega) (by omega)]
      refine hJ _ _ hk2 ⟨by dsimp only; omega, ?_, p7.trans hp8⟩
      dsimp only
      rw [difL_no (by rw [hd, decide_eq_true d4]; simpa using d5)]
      exact hr7.pu hp8
  · have hk2 : k = max a.recs.length b.recs.length := by have := dfalse d1; omega
    subst hk2
    exact ⟨t1, by rw [eA], by rw [eA]; exact hr.low hp02.size, hp02.trans hp⟩
theorem rDiffer_c {w : World} {a b : Tbl} {fa ra fb rb : SV} (ha : RdTbl w a fa ra) (hb : RdTbl w b fb rb) : Calls Tryz.prog 40 #[tblA a fa ra, tblA b fb rb] w
    fun e w' => ∃ q : SV, e = .returned (.tuple #[.slice q.a q.len q.cap, .int .i64 (difS a b).2]) ∧ NewI w w' q (difS a b).1 ∧ Pu w w' := by
  refine F40_calls _ _ _ _ _ _ w _ (alB fun w1 hp1 hb1 => alB fun w2 hp2 hb2 => ?_)
  have hp02 := hp1.trans hp2
  have b1 : ∀ {wz}, Pu w2 wz → _ := fun {wz} (h : Pu w2 wz) => tbl_blk (t := a) (f := fa) (q := ra) (h.blk (hp2.blk hb1))
  have b2 : ∀ {wz}, Pu w2 wz → _ := fun {wz} (h : Pu w2 wz) => tbl_blk (t := b) (f := fb) (q := rb) (h.blk hb2)
  refine ⟨_, (b1 (Pu.refl _)).1, _, (b1 (Pu.refl _)).2.1, _, (b1 (Pu.refl _)).2.2, (rValidTbl_c (ha.pu hp02)).mono ?_⟩
  rintro e w3 ⟨rfl, hp3⟩
  refine ⟨_, rfl, Br.of (fun d => ⟨⟨none, 0, 0⟩, by unfold difS; rw [if_pos (bntrue d)], by unfold difS; rw [if_pos (bntrue d)]; exact NewI.nil w w3, hp02.trans hp3⟩) (fun d => ?_)⟩
  have va := bnfalse d
  refine ⟨_, (b2 hp3).1, _, (b2 hp3).2.1, _, (b2 hp3).2.2, (rValidTbl_c (hb.pu (hp02.trans hp3))).mono ?_⟩
  rintro e w4 ⟨rfl, hp4⟩
  have p4 := hp3.trans hp4
  have eA : difS a b = if validT b ≠ 0 then ([], validT b) else if a.page ≠ b.page ∨ a.fields ≠ b.fields then ([], 10) else (difL a.recs b.recs (max a.recs.length b.recs.length), 0) := by unfold difS; rw [if_neg (by omega)]
  refine ⟨_, rfl, Br.of (fun d => ⟨⟨none, 0, 0⟩, by rw [eA, if_pos (bntrue d)], by rw [eA, if_pos (bntrue d)]; exact NewI.nil w w4, hp02.trans p4⟩) (fun d => ?_)⟩
  have vb := bnfalse d
  rw [if_neg (by omega)] at eA
  have c1 := (b1 p4).1
  have c2 := (b2 p4).1
  rw [add0] at c1 c2
  refine ⟨_, c1, _, c2, Br.of (fun d => ⟨⟨none, 0, 0⟩, by rw [eA, if_pos (.inl (bntrue d))], by rw [eA, if_pos (.inl (bntrue d))]; exact NewI.nil w w4, hp02.trans p4⟩) (fun d => ⟨_, (b1 p4).2.1, _, (b2 p4).2.1, ?_⟩)⟩
  have hpg := bnfalse d
  refine (sameFields_c (RdF.of (ha.fields.pu (hp02.trans p4))) (RdF.of (hb.fields.pu (hp02.trans p4)))).mono ?_
  rintro e w5 ⟨rfl, hp5⟩
  have p5 := p4.trans hp5
  refine ⟨_, rfl, Br.of (fun d => ⟨⟨none, 0, 0⟩, by rw [eA, if_pos (.inr (by simpa using d))], by rw [eA, if_pos (.inr (by simpa using d))]; exact NewI.nil w w5, hp02.trans p5⟩) (fun d => ?_)⟩
  rw [if_neg (by rintro (h | h); exact h hpg; exact h (by simpa using d))] at eA
  have hla := ha.recs.len
  have hlb := hb.recs.len
  have ma := (validT_ok va).2.2.1
  have mb := (validT_ok vb).2.2.1
  refine loopUp (max a.recs.length b.recs.length) (fun k t w' => t.2 = (k : Int) ∧ NewI w2 w' t.1 (difL a.recs b.recs k) ∧ Pu w2 w') ⟨rfl, NewI.nil w2 w5, p5⟩ ?_
  rintro k J ⟨t1, t2⟩ w6 hk ⟨ht, hr, hp⟩ hJ
  obtain rfl : t2 = (k : Int) := ht
  have hr : NewI w2 w6 t1 (difL a.recs b.recs k) := hr
  dsimp only
  have body : ∀ (hk2 : k < max a.recs.length b.recs.length), F40_2 (fun e w' => ∃ q : SV, e = .returned (.tuple #[.slice q.a q.len q.cap, .int .i64 (difS a b).2]) ∧ NewI w w' q (difS a b).1 ∧ Pu w w') J (some ⟨w.heap.size, 0, none⟩) (some ⟨w1.heap.size, 0, none⟩) t1 (k : Int) [] w6 := fun hk2 => by
    refine dwE_intro fun w7 hp7 _ => ?_
    have p7 := hp.trans hp7
    have hr7 := hr.pu hp7
    refine ⟨_, (b1 p7).2.2, Br.of (fun d2 => ?_) (fun d2 => ⟨_, (b2 p7).2.2, Br.of (fun d3 => ?_) (fun d3 => ⟨_, (b1 p7).2.2, ?_⟩)⟩)⟩
    · exact dif_push hr7 p7 (by omega) (fun s' w' h1 h2 => hJ _ _ hk2 ⟨by dsimp only; omega, h1, h2⟩) (difB_out hk2 (.inl (by have := dtrue d2; omega)))
    · exact dif_push hr7 p7 (by omega) (fun s' w' h1 h2 => hJ _ _ hk2 ⟨by dsimp only; omega, h1, h2⟩) (difB_out hk2 (.inr (by have := dtrue d3; omega)))
    have d2 := dfalse d2
    have d3 := dfalse d3
    obtain ⟨x, hx⟩ := at_k (show k < a.recs.length by omega)
    obtain ⟨y, hy⟩ := at_k (show k < b.recs.length by omega)
    obtain ⟨p, sx, hpa, _, vx, x0, x1⟩ := recAt (ha.recs.pu (hp02.trans p7)) hx
    obtain ⟨q, sy, hqa, _, vy, y0, y1⟩ := recAt (hb.recs.pu (hp02.trans p7)) hy
    have hd := difB_in hx hy
    refine ⟨p, hpa, by omega, by omega, _, x0, _, x1, _, (b2 p7).2.2, q, hqa, by omega, by omega, _, y0, _, y1, (sameRecord_c (RdV.of vx) (RdV.of vy)).mono ?_⟩
    rintro e w8 ⟨rfl, hp8⟩
    refine ⟨_, rfl, Br.of (fun d5 => ?_) (fun d5 => ?_)⟩
    · exact dif_push (hr7.pu hp8) (p7.trans hp8) (by omega) (fun s' w' h1 h2 => hJ _ _ hk2 ⟨by dsimp only; omega, h1, h2⟩) (by rw [hd]; exact d5)
    · show J (t1, IntKind.i64.wrap ((k : Int) + 1)) w8
      rw [wrap_in (by omega) (by omega)]
      refine hJ _ _ hk2 ⟨by dsimp only; omega, ?_, p7.trans hp8⟩
      dsimp only
      rw [difL_no (by rw [hd]; exact d5)]
      exact hr7.pu hp8
  refine ⟨_, (b1 hp).2.2, Br.of (fun d1 => body (by have := dtrue d1; omega)) (fun d1 => ⟨_, (b2 hp).2.2, Br.of (fun d2 => body (by have := dtrue d2; omega)) (fun d2 => ?_)⟩)⟩
  have hk2 : k = max a.recs.length b.recs.length := by have := dfalse d1; have := dfalse d2; omega
  subst hk2
  exact ⟨t1, by rw [eA], by rw [eA]; exact hr.low hp02.size, hp02.trans hp⟩
/-- The law: true. -/
theorem tableDiffers_c (w : World) (a : Tbl) (fa ra : SV) (ha : RdTbl w a fa ra) (la : Lim.ok a) (b : Tbl) (fb rb : SV) (hb : RdTbl w b fb rb) (lb : Lim.ok b) : Calls Tryz.prog 7 #[tblA a fa ra, tblA b fb rb] w fun e w' => e = .returned (.bool true) ∧ Pu w w' := by
  refine F7_calls _ _ _ _ _ _ w _ (alB fun w1 hp1 hb1 => alB fun w2 hp2 hb2 => ?_)
  have hp02 := hp1.trans hp2
  have b1 : ∀ {wz}, Pu w2 wz → _ := fun {wz} (h : Pu w2 wz) => tbl_blk (t := a) (f := fa) (q := ra) (h.blk (hp2.blk hb1))
  have b2 : ∀ {wz}, Pu w2 wz → _ := fun {wz} (h : Pu w2 wz) => tbl_blk (t := b) (f := fb) (q := rb) (h.blk hb2)
  refine ⟨_, (b1 (Pu.refl _)).1, _, (b1 (Pu.refl _)).2.1, _, (b1 (Pu.refl _)).2.2, (over_c (ha.pu hp02)).mono ?_⟩
  rintro e w3 ⟨x, rfl, hp3⟩
  refine ⟨x, rfl, Br.of (fun _ => (known_c w3).mono ?_) (fun _ => ⟨_, (b2 hp3).1, _, (b2 hp3).2.1, _, (b2 hp3).2.2, (over_c (hb.pu (hp02.trans hp3))).mono ?_⟩)⟩
  · rintro e w4 ⟨rfl, hp4⟩; exact ⟨_, rfl, rfl, (hp02.trans hp3).trans hp4⟩
  rintro e w4 ⟨y, rfl, hp4⟩
  have p4 := hp3.trans hp4
  refine ⟨y, rfl, Br.of (fun _ => (known_c w4).mono ?_) (fun _ => ⟨_, (b1 p4).1, _, (b1 p4).2.1, _, (b1 p4).2.2, _, (b2 p4).1, _, (b2 p4).2.1, _, (b2 p4).2.2, (differ_c (ha.pu (hp02.trans p4)) (hb.pu (hp02.trans p4)) la.1 lb.1).mono ?_⟩)⟩
  · rintro e w5 ⟨rfl, hp5⟩; exact ⟨_, rfl, rfl, (hp02.trans p4).trans hp5⟩
  rintro e w5 ⟨q, rfl, hq, hp5⟩
  have p5 := p4.trans hp5
  refine ⟨q, _, rfl, _, (b1 p5).1, _, (b1 p5).2.1, _, (b1 p5).2.2, _, (b2 p5).1, _, (b2 p5).2.1, _, (b2 p5).2.2, (rDiffer_c (ha.pu (hp02.trans p5)) (hb.pu (hp02.trans p5))).mono ?_⟩
  rintro e w6 ⟨q2, rfl, hq2, hp6⟩
  refine ⟨q2, _, rfl, (sameInts_c (hq.pu hp6) hq2).mono ?_⟩
  rintro e w7 ⟨rfl, hp7⟩
  refine ⟨_, rfl, Br.t rfl (Br.t (by simp) ((known_c w7).mono ?_))⟩
  rintro e w8 ⟨rfl, hp8⟩
  exact ⟨_, rfl, rfl, (hp02.trans p5).trans ((hp6.trans hp7).trans hp8)⟩
end Go.Proofs.YtecmfdfhpldmmaaGreatDoor
