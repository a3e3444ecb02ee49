import Derived.Test.YtecmfdfhpldmmaaGreatDoorTbRw
import Derived.Test.YtecmfdfhpldmmaaGreatDoorTbFvals
import Derived.Test.YtecmfdfhpldmmaaGreatDoorTbFweigh
/- Table: lengths and offsets; how large a table is; the law on which tables there are. No condition. -/
set_option maxRecDepth 100000
set_option linter.unusedVariables false
set_option linter.unusedSimpArgs false
namespace Go.Proofs.YtecmfdfhpldmmaaGreatDoor
open Go.Sh Go.RowKit

/-! ### Whether a table is far too large: either answer -/
theorem weightOf_c {w : World} {s : SV} {l : List Val} (h : RdSl w s l) : Calls Tryz.prog 64 #[.slice s.a s.len s.cap] w fun e w' => ∃ n : Int, e = .returned (.int .i64 n) ∧ Pu w w' := by
  refine F64_calls _ w _ ?_
  have hlen := h.len
  have hlim := h.lim
  refine loopUp l.length (fun k t w' => t.2 = (k : Int) ∧ Pu w w') ⟨rfl, Pu.refl _⟩ ?_
  rintro k J ⟨t1, t2⟩ w2 hk ⟨ht, hp⟩ hJ
  obtain rfl : t2 = (k : Int) := ht
  dsimp only
  refine Br.of (fun d => ?_) (fun d => ⟨_, rfl, hp⟩)
  have hk2 : k < l.length := by have := dtrue d; omega
  obtain ⟨v, hv⟩ := at_k hk2
  obtain ⟨a, ha, hi, _, _, c0, c1, c2⟩ := valAt (h.pu hp) hv
  refine ⟨a, ha, by omega, by omega, _, c2, ?_⟩
  rw [wrap_in (n := (k : Int) + 1) (by omega) (by omega)]
  exact hJ _ _ hk2 ⟨by dsimp only; omega, hp⟩
theorem weight_c {w : World} {t : Tbl} {f r : SV} (h : RdTbl w t f r) : Calls Tryz.prog 24 #[tblA t f r] w fun e w' => ∃ n : Int, e = .returned (.int .i64 n) ∧ Pu w w' := by
  refine F24_calls _ _ _ w _ (alB fun w1 hp1 hb1 => ⟨_, cl hb1 1, ?_⟩)
  have hfl := h.fields.len
  have hfm := h.fields.lim
  have hrl := h.recs.len
  have hrm := h.recs.lim
  refine loopUp t.fields.length (fun k u w' => u.2 = (k : Int) ∧ Pu w1 w') ⟨rfl, Pu.refl _⟩ ?_
  rintro k J ⟨u1, u2⟩ w2 hk ⟨hu, hp⟩ hJ
  obtain rfl : u2 = (k : Int) := hu
  dsimp only
  refine ⟨_, cl (hp.blk hb1) 1, Br.of (fun d => ?_) (fun d => ?_)⟩
  · have hk2 : k < t.fields.length := by have := dtrue d; omega
    obtain ⟨x, hx⟩ := at_k hk2
    obtain ⟨a, ha, hi, _, _, c, _⟩ := fldAt (h.fields.pu (hp1.trans hp)) hx
    refine ⟨_, cl (hp.blk hb1) 1, a, ha, by omega, by omega, _, c, ?_⟩
    rw [wrap_in (n := (k : Int) + 1) (by omega) (by omega)]
    exact hJ _ _ hk2 ⟨by dsimp only; omega, hp⟩
  clear hJ J
  refine loopUp t.recs.length (fun k u w' => u.2 = (k : Int) ∧ Pu w1 w') ⟨rfl, hp⟩ ?_
  rintro k J ⟨u1, u2⟩ w2 hk ⟨hu, hp⟩ hJ
  obtain rfl : u2 = (k : Int) := hu
  dsimp only
  refine ⟨_, cl (hp.blk hb1) 2, Br.of (fun d => ?_) (fun d => ⟨_, rfl, hp1.trans hp⟩)⟩
  have hk2 : k < t.recs.length := by have := dtrue d; omega
  obtain ⟨x, hx⟩ := at_k hk2
  obtain ⟨a, q, ha, hi, hq, c0, c1⟩ := recAt (h.recs.pu (hp1.trans hp)) hx
  refine ⟨_, cl (hp.blk hb1) 2, a, ha, by omega, by omega, _, c1, (weightOf_c hq).mono ?_⟩
  rintro e w3 ⟨n, rfl, hp3⟩
  refine ⟨n, rfl, ?_⟩
  rw [wrap_in (n := (k : Int) + 1) (by omega) (by omega)]
  exact hJ _ _ hk2 ⟨by dsimp only; omega, hp.trans hp3⟩
theorem over_c {w : World} {t : Tbl} {f r : SV} (h : RdTbl w t f r) : Calls Tryz.prog 16 #[tblA t f r] w fun e w' => ∃ b : Bool, e = .returned (.bool b) ∧ Pu w w' := by
  refine F16_calls _ _ _ w _ (alB fun w1 hp1 hb1 => ⟨_, cl hb1 0, _, cl hb1 1, _, cl hb1 2, (weight_c (h.pu hp1)).mono ?_⟩)
  rintro e w2 ⟨n, rfl, hp2⟩
  exact ⟨n, rfl, _, rfl, hp1.trans hp2⟩

/-! ### Rows of numbers -/
theorem u55 : Tryz.prog.underlying 55 = some (.slice 3) := by kernel_rfl
theorem info3 : (Tryz.prog.info? 3).map (fun i => (i.zero, i.size, i.bytes)) = some (some (.int .i64 0), 1, 8) := by kernel_rfl
def NewI (w0 w : World) (s : SV) (l : List Int) : Prop := RowAt w 3 1 s (l.map intV) ∧ ∀ b ∈ blkOf s, w0.heap.size ≤ b
theorem NewI.len {w0 w : World} {s : SV} {l : List Int} (h : NewI w0 w s l) : s.len = l.length := by have := h.1.1; simp at this; omega
theorem NewI.pu {w0 w w' : World} {s : SV} {l : List Int} (h : NewI w0 w s l) (hp : Pu w w') : NewI w0 w' s l := ⟨h.1.pu hp, h.2⟩
theorem NewI.nil (w0 w : World) : NewI w0 w ⟨none, 0, 0⟩ [] := ⟨RowAt.nil w 3 1, by simp [blkOf]⟩
theorem NewI.low {w0 w1 w : World} {s : SV} {l : List Int} (h : NewI w1 w s l) (hz : w0.heap.size ≤ w1.heap.size) : NewI w0 w s l := ⟨h.1, fun b hb => Nat.le_trans hz (h.2 b hb)⟩
theorem NewI.push {w0 w : World} {s : SV} {l : List Int} (h : NewI w0 w s l) (hz : w0.heap.size ≤ w.heap.size) {r : Nat} {n : Int} (hr : w.heap[r]? = some (.cells #[.int .i64 n] 3)) (hb : l.length ≤ 1000000) :
    ∃ (s' : SV) (w' : World), (Builtin.append_ #[55, 55] 55 #[.slice s.a s.len s.cap, .slice (some ⟨r, 0, none⟩) 1 1]).run Tryz.prog w = .ok (.slice s'.a s'.len s'.cap) w' ∧ NewI w0 w' s' (l ++ [n]) ∧ Fr (· ∈ blkOf s) w w' := by
  have h1 := h.len
  obtain ⟨s', w', hra, hrow, hf, hblk, _⟩ := row_push (P := Tryz.prog) (ty := 55) u55 info3 rfl h.1 (a := ⟨r, 0, none⟩) (u := .int .i64 n) (by rw [cell_blk hr]; rfl) rfl (by omega)
  refine ⟨s', w', hra, ⟨by simpa using hrow, fun b hb => ?_⟩, hf⟩
  rcases hblk b hb with h2 | h2
  · exact h.2 b h2
  · omega
theorem sameInts_c {w w0 w1 : World} {a b : SV} {l : List Int} (ha : NewI w0 w a l) (hb : NewI w1 w b l) : Calls Tryz.prog 38 #[.slice a.a a.len a.cap, .slice b.a b.len b.cap] w fun e w' => e = .returned (.bool true) ∧ Pu w w' := by
  refine F38_calls _ _ w _ ?_
  have hla := ha.len
  have hlb := hb.len
  have hc := ha.1.le_cap
  have hm : maxLen = 9223372036854775807 := by unfold maxLen; omega
  refine Br.of (fun d => absurd (bntrue d) (by omega)) (fun _ => loopUp l.length (fun k t w' => t = (k : Int) ∧ Pu w w') ⟨rfl, Pu.refl _⟩ ?_)
  rintro k J t w2 hk ⟨ht, hp⟩ hJ
  obtain rfl : t = (k : Int) := ht
  refine Br.of (fun d => dwE_intro fun w3 hp3 _ => ?_) (fun d => ⟨rfl, hp⟩)
  have hk2 : k < l.length := by have := dtrue d; omega
  obtain ⟨n, hn⟩ := at_k hk2
  obtain ⟨x, hx, hcx, _⟩ := ((ha.pu hp).pu hp3).1.cell (j := k) (v := intV n) (by rw [List.getElem?_map, hn]; rfl)
  obtain ⟨y, hy, hcy, _⟩ := ((hb.pu hp).pu hp3).1.cell (j := k) (v := intV n) (by rw [List.getElem?_map, hn]; rfl)
  refine ⟨x, hx, by omega, by omega, n, by rw [Int.toNat_natCast, Nat.mul_one]; exact hcx, y, hy, by omega, by omega, n, by rw [Int.toNat_natCast, Nat.mul_one]; exact hcy, Br.of (fun d1 => absurd rfl (bntrue d1)) (fun _ => ?_)⟩
  rw [wrap_in (by omega) (by omega)]
  exact hJ _ _ hk2 ⟨by omega, hp.trans hp3⟩

/-! ### Lengths and offsets -/
theorem length2_c {w : World} {s : SV} {l : List Fld} (h : RdSl w s l) (hl : Lim.ok l) : Calls Tryz.prog 30 #[.slice s.a s.len s.cap] w fun e w' => e = .returned (.tuple #[.int .i64 (if validF l = 0 then wide l else 0), .int .i64 (validF l)]) ∧ Pu w w' := by
  refine F30_calls _ w _ ((validFields_c h hl).mono ?_)
  rintro e w1 ⟨rfl, hp1⟩
  refine ⟨_, rfl, Br.of (fun d => ⟨by rw [if_neg (bntrue d)], hp1⟩) (fun d => (length_c (h.pu hp1) (WOk.of (validF_ok (bnfalse d)).2.1)).mono ?_)⟩
  rintro e w2 ⟨rfl, hp2⟩
  exact ⟨_, rfl, by rw [bnfalse d]; rfl, hp1.trans hp2⟩
theorem rLength2_c {w : World} {s : SV} {l : List Fld} (h : RdSl w s l) : Calls Tryz.prog 31 #[.slice s.a s.len s.cap] w fun e w' => e = .returned (.tuple #[.int .i64 (if validF l = 0 then wide l else 0), .int .i64 (validF l)]) ∧ Pu w w' := by
  refine F31_calls _ w _ ((rValidFields_c h).mono ?_)
  rintro e w1 ⟨rfl, hp1⟩
  refine ⟨_, rfl, Br.of (fun d => ⟨by rw [if_neg (bntrue d)], hp1⟩) (fun d => (rWide_c (h.pu hp1) (WOk.of (validF_ok (bnfalse d)).2.1)).mono ?_)⟩
  rintro e w2 ⟨rfl, hp2⟩
  exact ⟨_, rfl, by rw [bnfalse d]; rfl, hp1.trans hp2⟩
def offsF (at_ : Int) : List Fld → List Int
  | [] => []
  | f :: l => at_ :: offsF (at_ + f.width) l
theorem offsF_len : ∀ (a : Int) (l : List Fld), (offsF a l).length = l.length
  | _, [] => rfl
  | a, f :: l => by simp [offsF, offsF_len]
theorem offsF_take : ∀ {l : List Fld} {k : Nat} {f : Fld} (a : Int), l[k]? = some f → offsF a (l.take (k + 1)) = offsF a (l.take k) ++ [a + ((l.take k).map (·.width)).sum]
  | [], _, _, _, h => by simp at h
  | x :: l, 0, f, a, h => by simp [offsF]
  | x :: l, k + 1, f, a, h => by
    simp only [List.take_succ_cons, offsF, List.map_cons, List.sum_cons]
    rw [offsF_take (a + x.width) (by simpa using h)]
    simp [Int.add_assoc]
def offsOut (l : List Fld) : List Int := if validF l = 0 then offsF (1 + (nulls l : Nat)) l else []
theorem offsets_c {w : World} {s : SV} {l : List Fld} (h : RdSl w s l) (hl : Lim.ok l) : Calls Tryz.prog 32 #[.slice s.a s.len s.cap] w fun e w' => ∃ q : SV, e = .returned (.tuple #[.slice q.a q.len q.cap, .int .i64 (validF l)]) ∧ NewI w w' q (offsOut l) ∧ Pu w w' := by
  refine F32_calls _ w _ ((validFields_c h hl).mono ?_)
  rintro e w1 ⟨rfl, hp1⟩
  refine ⟨_, rfl, Br.of (fun d => ⟨⟨none, 0, 0⟩, rfl, by unfold offsOut; rw [if_neg (bntrue d)]; exact NewI.nil w w1, hp1⟩) (fun d => (nullBytes_c (h.pu hp1)).mono ?_)⟩
  have hv := bnfalse d
  obtain ⟨_, hall, _, h16, _⟩ := validF_ok hv
  have hwid := WOk.of hall
  rintro e w2 ⟨rfl, hp2⟩
  have hlen := h.len
  have hn := nulls_le l
  refine ⟨_, rfl, ?_⟩
  rw [wrap_in (by omega) (by omega)]
  refine loopUp l.length (fun k t w' => t.2.2 = (k : Int) ∧ t.2.1 = 1 + ((nulls l : Nat) : Int) + ((l.take k).map (·.width)).sum ∧ NewI w w' t.1 (offsF (1 + (nulls l : Nat)) (l.take k)) ∧ Pu w w') ⟨rfl, by simp, NewI.nil w w2, hp1.trans hp2⟩ ?_
  rintro k J ⟨t1, t2, t3⟩ w3 hk ⟨h3, h2, hr, hp⟩ hJ
  obtain rfl : t3 = (k : Int) := h3
  obtain rfl : t2 = 1 + ((nulls l : Nat) : Int) + ((l.take k).map (·.width)).sum := h2
  have hr : NewI w w3 t1 (offsF (1 + (nulls l : Nat)) (l.take k)) := hr
  have hs := sum_le (hwid.take k)
  have htl := List.length_take_le k l
  dsimp only
  refine Br.of (fun d1 => ?_) (fun d1 => ?_)
  · have hk2 : k < l.length := by have := dtrue d1; omega
    obtain ⟨f, hf⟩ := at_k hk2
    have hwf := hwid f (List.mem_of_getElem? hf)
    obtain ⟨a, ha, hi, _, _, _, c0, c1, c2, c3⟩ := fldAt (h.pu hp) hf
    refine ⟨a, ha, by omega, by omega, _, c0, _, c1, _, c2, _, c3, boxA rfl s23.symm rfl fun w4 hp4 hs4 hb4 => alB fun w5 hp5 hb5 => ?_⟩
    have hr5 := (hr.pu hp4).pu hp5
    have hp05 := (hp.trans hp4).trans hp5
    obtain ⟨s', w6, e6, r6, f6⟩ := hr5.push hp05.size hb5 (by rw [offsF_len]; omega)
    have hbl := hp5.blk hb4
    have hb6 := f6.blk hbl fun hc => by have := hr.1.lt _ hc; omega
    refine ⟨s', w6, e6, _, cl hb6 2, ?_⟩
    rw [wrap_in (n := (k : Int) + 1) (by omega) (by omega), wrap_in (by omega) (by omega)]
    refine hJ _ _ hk2 ⟨by dsimp only; omega, by dsimp only; rw [sum_take hf]; omega, ?_, hp05.andNew f6 fun i hi => hr5.2 i hi⟩
    rw [offsF_take _ hf]; exact r6
  · have hk2 : k = l.length := by have := dfalse d1; omega
    subst hk2
    rw [List.take_length] at hr
    exact ⟨t1, by rw [hv], by unfold offsOut; rw [if_pos hv]; exact hr, hp⟩
theorem rOffsets_c {w : World} {s : SV} {l : List Fld} (h : RdSl w s l) : Calls Tryz.prog 33 #[.slice s.a s.len s.cap] w fun e w' => ∃ q : SV, e = .returned (.tuple #[.slice q.a q.len q.cap, .int .i64 (validF l)]) ∧ NewI w w' q (offsOut l) ∧ Pu w w' := by
  refine F33_calls _ w _ ((rValidFields_c h).mono ?_)
  rintro e w1 ⟨rfl, hp1⟩
  refine ⟨_, rfl, Br.of (fun d => ⟨⟨none, 0, 0⟩, rfl, by unfold offsOut; rw [if_neg (bntrue d)]; exact NewI.nil w w1, hp1⟩) (fun d => (rNulls_c (h.pu hp1)).mono ?_)⟩
  have hv := bnfalse d
  obtain ⟨_, hall, _, h16, _⟩ := validF_ok hv
  have hwid := WOk.of hall
  rintro e w2 ⟨rfl, hp2⟩
  have hlen := h.len
  have hn := nulls_le l
  refine ⟨_, rfl, ?_⟩
  rw [wrap_in (by omega) (by omega)]
  refine loopUp l.length (fun k t w' => t.2.2 = (k : Int) ∧ t.2.1 = 1 + ((nulls l : Nat) : Int) + ((l.take k).map (·.width)).sum ∧ NewI w w' t.1 (offsF (1 + (nulls l : Nat)) (l.take k)) ∧ Pu w w') ⟨rfl, by simp, NewI.nil w w2, hp1.trans hp2⟩ ?_
  rintro k J ⟨t1, t2, t3⟩ w3 hk ⟨h3, h2, hr, hp⟩ hJ
  obtain rfl : t3 = (k : Int) := h3
  obtain rfl : t2 = 1 + ((nulls l : Nat) : Int) + ((l.take k).map (·.width)).sum := h2
  have hr : NewI w w3 t1 (offsF (1 + (nulls l : Nat)) (l.take k)) := hr
  have hs := sum_le (hwid.take k)
  have htl := List.length_take_le k l
  dsimp only
  refine Br.of (fun d1 => ?_) (fun d1 => ?_)
  · have hk2 : k < l.length := by have := dtrue d1; omega
    obtain ⟨f, hf⟩ := at_k hk2
    have hwf := hwid f (List.mem_of_getElem? hf)
    refine alB fun w5 hp5 hb5 => ?_
    have hr5 := hr.pu hp5
    have hp05 := hp.trans hp5
    obtain ⟨s', w6, e6, r6, f6⟩ := hr5.push hp05.size hb5 (by rw [offsF_len]; omega)
    have hp06 := hp05.andNew f6 fun i hi => hr5.2 i hi
    obtain ⟨a, ha, hi, _, _, _, c0, c1, c2, c3⟩ := fldAt (h.pu hp06) hf
    refine ⟨s', w6, e6, a, ha, by omega, by omega, _, c2, ?_⟩
    rw [wrap_in (n := (k : Int) + 1) (by omega) (by omega), wrap_in (by omega) (by omega)]
    refine hJ _ _ hk2 ⟨by dsimp only; omega, by dsimp only; rw [sum_take hf]; omega, ?_, hp06⟩
    rw [offsF_take _ hf]; exact r6
  · have hk2 : k = l.length := by have := dfalse d1; omega
    subst hk2
    rw [List.take_length] at hr
    exact ⟨t1, by rw [hv], by unfold offsOut; rw [if_pos hv]; exact hr, hp⟩
/-- The law: true. -/
theorem tableValidates_c (w : World) (t : Tbl) (f r : SV) (h : RdTbl w t f r) (hl : Lim.ok t) : Calls Tryz.prog 6 #[tblA t f r] w fun e w' => e = .returned (.bool true) ∧ Pu w w' := by
  refine F6_calls _ _ _ w _ (alB fun w1 hp1 hb1 => ⟨_, cl hb1 0, _, cl hb1 1, _, cl hb1 2, (over_c (h.pu hp1)).mono ?_⟩)
  rintro e w2 ⟨b, rfl, hp2⟩
  have hl : Lim.ok t.fields := hl.1
  refine ⟨b, rfl, Br.of (fun _ => (known_c w2).mono ?_) (fun _ => ⟨_, cl (hp2.blk hb1) 1, (length2_c (h.fields.pu (hp1.trans hp2)) hl).mono ?_⟩)⟩
  · rintro e w3 ⟨rfl, hp3⟩; exact ⟨_, rfl, rfl, (hp1.trans hp2).trans hp3⟩
  rintro e w3 ⟨rfl, hp3⟩
  have q3 := hp2.trans hp3
  refine ⟨_, _, rfl, _, cl (q3.blk hb1) 1, (rLength2_c (h.fields.pu (hp1.trans q3))).mono ?_⟩
  rintro e w4 ⟨rfl, hp4⟩
  have q4 := q3.trans hp4
  refine ⟨_, _, rfl, _, cl (q4.blk hb1) 1, (offsets_c (h.fields.pu (hp1.trans q4)) hl).mono ?_⟩
  rintro e w5 ⟨o, rfl, ho, hp5⟩
  have q5 := q4.trans hp5
  refine ⟨o, _, rfl, _, cl (q5.blk hb1) 1, (rOffsets_c (h.fields.pu (hp1.trans q5))).mono ?_⟩
  rintro e w6 ⟨o2, rfl, ho2, hp6⟩
  have q6 := q5.trans hp6
  refine ⟨o2, _, rfl, dwE_intro fun w7 hp7 _ => ?_⟩
  have q7 := q6.trans hp7
  refine ⟨fun u => Pu w7 u, Pu.refl _, t.page, fun u hu => cl ((q7.trans hu).blk hb1) 0, f, fun u hu => cl ((q7.trans hu).blk hb1) 1, r, fun u hu => cl ((q7.trans hu).blk hb1) 2, t.page, fun u hu => cl ((q7.trans hu).blk hb1) 0, f, fun u hu => cl ((q7.trans hu).blk hb1) 1, r, fun u hu => cl ((q7.trans hu).blk hb1) 2, (validTbl_c (h.pu (hp1.trans q7)) hl).mono ?_⟩
  rintro e w8 ⟨rfl, hp8⟩
  refine ⟨_, rfl, hp8, (rValidTbl_c ((h.pu (hp1.trans q7)).pu hp8)).mono ?_⟩
  rintro e w9 ⟨rfl, hp9⟩
  have p79 := hp8.trans hp9
  refine ⟨_, rfl, p79, Br.t (by simp) ⟨f, fun u hu => cl ((q7.trans hu).blk hb1) 1, f, fun u hu => cl ((q7.trans hu).blk hb1) 1, (validFields_c ((h.pu (hp1.trans q7)).fields.pu p79) hl).mono ?_⟩⟩
  rintro e w10 ⟨rfl, hp10⟩
  have p710 := p79.trans hp10
  refine ⟨_, rfl, p710, (rValidFields_c ((h.pu (hp1.trans q7)).fields.pu p710)).mono ?_⟩
  rintro e w11 ⟨rfl, hp11⟩
  have p711 := p710.trans hp11
  refine ⟨_, rfl, Br.t (by simp) (Br.t (by simp) (Br.t (by simp) ((sameInts_c (ho.pu (hp6.trans (hp7.trans p711))) (ho2.pu (hp7.trans p711))).mono ?_)))⟩
  rintro e w12 ⟨rfl, hp12⟩
  refine ⟨_, rfl, Br.t rfl (Br.t (by simp) ((known_c w12).mono ?_))⟩
  rintro e w13 ⟨rfl, hp13⟩
  exact ⟨_, rfl, rfl, (hp1.trans q7).trans ((p711.trans hp12).trans hp13)⟩
end Go.Proofs.YtecmfdfhpldmmaaGreatDoor
