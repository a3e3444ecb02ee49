import Derived.Test.YtecmfdfhpldmmaaGreatDoorTbOwD
/- Table: the reference's header and row. No condition. -/
set_option maxRecDepth 100000
set_option linter.unusedVariables false
set_option linter.unusedSimpArgs false
namespace Go.Proofs.YtecmfdfhpldmmaaGreatDoor
open Go.Sh Go.RowKit

theorem NewRow.cat {w1 w : World} {s m : SV} {l news : List UInt8} (h : NewRow w1 w s l) (hp : Pu w1 w) (hl : m.len = news.length) (hn : ∀ (j : Nat) (b : UInt8), news[j]? = some b -> ∃ a, m.a = some a /\ w.cell? (a.add j) = some (u8V b)) (hb : l.length + news.length <= 2000000) :
    ∃ (s' : SV) (w' : World), (Builtin.append_ #[37, 37] 37 #[.slice s.a s.len s.cap, .slice m.a m.len m.cap]).run Tryz.prog w = .ok (.slice s'.a s'.len s'.cap) w' /\ NewRow w1 w' s' (l ++ news) /\ Pu w1 w' := by
  obtain ⟨s', w', e, h2, f⟩ := h.app hp.size hl hn (by omega)
  exact ⟨s', w', e, h2, hp.andNew f fun i hi => h.2 i hi⟩
theorem box_cells {w : World} {r : Nat} {c : Array Value} {news : List UInt8} (hr : w.heap[r]? = some (.cells c 5)) (hc : c = (news.map u8V).toArray) : ∀ (j : Nat) (b : UInt8), news[j]? = some b -> ∃ a, (some (⟨r, 0, none⟩ : Addr)) = some a /\ w.cell? (a.add j) = some (u8V b) := fun j b hj => by
  refine ⟨_, rfl, ?_⟩
  rw [cl hr, hc]; simp [hj]
theorem rLow_c (n k : Nat) (hk : k <= 8) (hn : n <= 1000000000) (w : World) : Calls Tryz.prog 106 #[.int .i64 (n : Int), .int .i64 (k : Int)] w fun e w' => ∃ s : SV, e = .returned (.slice s.a s.len s.cap) /\ NewRow w w' s (lowN n k) /\ Pu w w' := by
  refine F106_calls _ _ w _ ?_
  refine loopUp k (fun j t w' => t.1 = ((n / 256 ^ j : Nat) : Int) /\ t.2.2 = (j : Int) /\ NewRow w w' t.2.1 (lowN n j) /\ Pu w w') ⟨by simp, rfl, NewRow.nil w w, Pu.refl _⟩ ?_
  rintro j J ⟨t1, t2, t3⟩ w2 hj ⟨h1, h3, hr, hp⟩ hJ
  obtain rfl : t1 = ((n / 256 ^ j : Nat) : Int) := h1
  obtain rfl : t3 = (j : Int) := h3
  have hr : NewRow w w2 t2 (lowN n j) := hr
  dsimp only
  refine Br.of (fun d => ⟨rfl, by decide, ?_⟩) (fun d => ?_)
  · have hj2 : j < k := by have := dtrue d; omega
    have em : ((n / 256 ^ j : Nat) : Int).tmod 256 = ((n / 256 ^ j % 256 : Nat) : Int) := tmod_nat _ 256
    have ed : ((n / 256 ^ j : Nat) : Int).tdiv 256 = ((n / 256 ^ (j + 1) : Nat) : Int) := by
      rw [show ((256 : Int)) = ((256 : Nat) : Int) from rfl, tdiv_nat, Nat.pow_succ, ← Nat.div_div_eq_div_mul]
    have hle : n / 256 ^ (j + 1) <= n := Nat.div_le_self _ _
    have hz := Int.natCast_nonneg (n / 256 ^ (j + 1))
    rw [em, wrap_byte]
    refine alB fun w3 hp3 hb3 => ?_
    obtain ⟨s', w4, e4, hr4, hp4⟩ := (hr.pu hp3).cat (hp.trans hp3) (m := ⟨some ⟨w2.heap.size, 0, none⟩, 1, 1⟩) (news := [byteI ((n / 256 ^ j % 256 : Nat) : Int)]) rfl (box_cells hb3 rfl) (by rw [lowN_len]; simp; omega)
    refine ⟨s', w4, e4, rfl, by decide, ?_⟩
    rw [ed, wrap_in (by omega) (by omega), wrap_in (by omega) (by omega)]
    refine hJ _ _ hj2 ⟨rfl, by dsimp only; omega, ?_, hp4⟩
    dsimp only
    rw [lowN_succ]
    rw [byteI_nat, Nat.mod_mod] at hr4
    exact hr4
  · have hj2 : j = k := by have := dfalse d; omega
    subst hj2
    exact ⟨t2, rfl, hr, hp⟩
theorem rLetter_c (k : Int) (w : World) : Calls Tryz.prog 107 #[.int .i64 k] w fun e w' => e = .returned (u8V (letterB k)) /\ Pu w w' := by
  refine F107_calls _ w _ (Br.of (fun d => ⟨?_, Pu.refl w⟩) (fun d => Br.of (fun d1 => ⟨?_, Pu.refl w⟩) (fun d1 => Br.of (fun d2 => ⟨?_, Pu.refl w⟩) (fun d2 => Br.of (fun d3 => ⟨?_, Pu.refl w⟩) (fun d3 => ⟨?_, Pu.refl w⟩)))))
  · unfold letterB; rw [if_pos (btrue d)]; rfl
  · unfold letterB; rw [if_neg (bfalse d), if_pos (btrue d1)]; rfl
  · unfold letterB; rw [if_neg (bfalse d), if_neg (bfalse d1), if_pos (btrue d2)]; rfl
  · unfold letterB; rw [if_neg (bfalse d), if_neg (bfalse d1), if_neg (bfalse d2), if_pos (btrue d3)]; rfl
  · unfold letterB; rw [if_neg (bfalse d), if_neg (bfalse d1), if_neg (bfalse d2), if_neg (bfalse d3)]; rfl
theorem rHeadLoop_c {ww w1 w : World} (hww : Pu ww w1) {r1 : Nat} {t : Tbl} {f r l : SV} {acc : List UInt8} (hb1 : w1.heap[r1]? = some (.cells #[.int .i64 t.page, .slice f.a f.len f.cap, .slice r.a r.len r.cap] 35)) (h : RdSl w1 f t.fields) (hall : t.fields.all fieldB = true) (hn : t.fields.length <= 16) (hp0 : Pu w1 w) (hr : NewRow w1 w l acc) (ha : acc.length <= 100) :
    F60_11 (fun e w' => ∃ q : SV, e = .returned (.slice q.a q.len q.cap) /\ NewRow ww w' q (acc ++ t.fields.flatMap fieldS ++ [13]) /\ Pu ww w') (some ⟨r1, 0, none⟩) l 0 [] w := by
  have hlen := h.len
  have n10 : ∀ g ∈ t.fields, g.name.size <= 10 := fun g hg => (field_parts (List.all_eq_true.1 hall g hg)).2.1
  refine loopUp t.fields.length (fun k u w' => u.2 = (k : Int) /\ NewRow w1 w' u.1 (acc ++ (t.fields.take k).flatMap fieldS) /\ Pu w1 w') ⟨rfl, by simpa using hr, hp0⟩ ?_
  rintro k J ⟨u1, u2⟩ w2 hk ⟨hu2, hr2, hp⟩ hJ
  obtain rfl : u2 = (k : Int) := hu2
  have hr2 : NewRow w1 w2 u1 (acc ++ (t.fields.take k).flatMap fieldS) := hr2
  have hfl := flatMap_le (l := t.fields.take k) fun g hg => n10 g (List.mem_of_mem_take hg)
  have htl := List.length_take_le k t.fields
  dsimp only
  refine ⟨_, cl (hp.blk hb1) 1, Br.of (fun d => ?_) (fun d => ?_)⟩
  · have hk2 : k < t.fields.length := by have := dtrue d; omega
    obtain ⟨g, hg⟩ := at_k hk2
    have g10 := n10 g (List.mem_of_getElem? hg)
    obtain ⟨a, ha', hi, _, _, _, c0, c1, c2, c3⟩ := fldAt (h.pu hp) hg
    refine ⟨_, cl (hp.blk hb1) 1, a, ha', by omega, by omega, _, c0, _, c1, _, c2, _, c3, boxA rfl s23.symm rfl fun w3 hp3 hs3 hb3 => ⟨_, cl0 hb3, ?_⟩⟩
    obtain ⟨m, w4, e4, hp4, hm⟩ := conv_mark g.name (by omega) w3
    refine ⟨m, w4, e4, ?_⟩
    refine loopUp (10 - g.name.size) (fun j s w' => ByRow w3 w' s (g.name.data.toList ++ List.replicate j 0) /\ Pu w3 w') ⟨by simpa using hm, hp4⟩ ?_
    rintro j J2 q w5 hj ⟨hq, hp5⟩ hJ2
    have hql := hq.len
    rw [List.length_append, size_list, List.length_replicate] at hql
    refine Br.of (fun d1 => alB fun w6 hp6 hb6 => ?_) (fun d1 => ?_)
    · have := dtrue d1
      obtain ⟨q', w7, e7, r7, p7⟩ := (hq.pu hp6).push (hp5.trans hp6) (b := 0) hb6 rfl (by rw [List.length_append, size_list, List.length_replicate]; omega)
      exact ⟨q', w7, e7, hJ2 _ _ (by omega) ⟨by rw [List.replicate_succ', ← List.append_assoc]; exact r7, p7⟩⟩
    have := dfalse d1
    have hj10 : j = 10 - g.name.size := by omega
    subst hj10
    clear hJ2 J2
    have hb5 := hp5.blk hb3
    have p5 : Pu w1 w5 := (hp.trans hp3).trans hp5
    have hr5 := (hr2.pu hp3).pu hp5
    have fin : ∀ (z : Int), (Value.int .u8 z) = u8V (nullB g.null) -> ∃ l64 : SV, ∃ w6 : World, (Builtin.append_ #[37, 37] 37 #[.slice u1.a u1.len u1.cap, .slice q.a q.len q.cap]).run Tryz.prog w5 = .ok (.slice l64.a l64.len l64.cap) w6 /\
        dwE w6 fun w7 => ∃ S1 : World -> Prop, S1 w7 /\ ptrE (some (⟨w2.heap.size, 0, none⟩ : Addr)) fun a7 => ∃ n67 : Int, (∀ w', S1 w' -> w'.cell? (a7.add 1) = some (.int .i64 n67)) /\
        ptrE (some (⟨w2.heap.size, 0, none⟩ : Addr)) fun a8 => ∃ n70 : Int, (∀ w', S1 w' -> w'.cell? (a8.add 2) = some (.int .i64 n70)) /\
        Calls Tryz.prog 107 #[.int .i64 n67] w7 fun e w9 => ∃ n68 : Int, e = .returned (.int .u8 n68) /\ S1 w9 /\
        alE (.cells #[.int .u8 n68, .int .u8 (IntKind.u8.wrap n70), .int .u8 z, .int .u8 0, .int .u8 0, .int .u8 0] 5) w9 fun r73 w10 =>
        ∃ l74 : SV, ∃ w11 : World, (Builtin.append_ #[37, 37] 37 #[.slice l64.a l64.len l64.cap, .slice (some ⟨r73, 0, none⟩) 6 6]).run Tryz.prog w10 = .ok (.slice l74.a l74.len l74.cap) w11 /\ J (l74, IntKind.i64.wrap ((k : Int) + 1)) w11 := fun z hz => by
      obtain ⟨l64, w6, e6, r6, f6⟩ := hr5.app p5.size (m := q) (news := g.name.data.toList ++ List.replicate (10 - g.name.size) 0) hq.len (fun j b hj => hq.cell hj) (by simp only [List.length_append, size_list, List.length_replicate]; omega)
      have p6 : Pu w1 w6 := p5.andNew f6 fun i hi => hr2.2 i hi
      refine ⟨l64, w6, e6, dwE_intro fun w7 hp7 _ => ?_⟩
      have hb6 := f6.blk hb5 fun hc => by have := hr2.1.lt _ hc; omega
      have hb7 := hp7.blk hb6
      refine ⟨fun u => Pu w7 u, Pu.refl _, g.kind, fun u hu => cl (hu.blk hb7) 1, g.width, fun u hu => cl (hu.blk hb7) 2, (rLetter_c g.kind w7).mono ?_⟩
      rintro e w8 ⟨rfl, hp8⟩
      refine ⟨_, rfl, hp8, ?_⟩
      rw [wrap_byte, hz]
      refine alB fun w9 hp9 hb9 => ?_
      have p9 : Pu w1 w9 := ((p6.trans hp7).trans hp8).trans hp9
      obtain ⟨l74, w10, e10, r10, p10⟩ := (((r6.pu hp7).pu hp8).pu hp9).cat p9 (m := ⟨some ⟨w8.heap.size, 0, none⟩, 6, 6⟩) (news := [letterB g.kind, byteI g.width, nullB g.null, 0, 0, 0]) rfl (box_cells hb9 rfl) (by simp only [List.length_append, size_list, List.length_replicate, List.length_cons, List.length_nil]; omega)
      refine ⟨l74, w10, e10, ?_⟩
      rw [wrap_in (by omega) (by omega)]
      refine hJ _ _ hk2 ⟨by dsimp only; omega, ?_, p10⟩
      dsimp only
      have ef : fieldS g = g.name.data.toList ++ List.replicate (10 - g.name.size) 0 ++ [letterB g.kind, byteI g.width, nullB g.null, 0, 0, 0] := rfl
      rw [flatMap_take hg, ef]
      simpa only [List.append_assoc] using r10
    exact ⟨_, cl hb5 3, Br.of (fun d2 => fin 1 (by rw [d2]; rfl)) (fun d2 => fin 0 (by rw [d2]; rfl))⟩
  · have hk2 : k = t.fields.length := by have := dfalse d; omega
    subst hk2
    rw [List.take_length] at hr2 hfl
    refine alB fun w3 hp3 hb3 => ?_
    obtain ⟨q, w4, e4, r4, p4⟩ := (hr2.pu hp3).cat (hp.trans hp3) (m := ⟨some ⟨w2.heap.size, 0, none⟩, 1, 1⟩) (news := [13]) rfl (box_cells hb3 rfl) (by simp only [List.length_append, List.length_singleton]; omega)
    exact ⟨q, w4, e4, q, rfl, r4.low hww.size, hww.trans p4⟩
theorem rHeader_c {w : World} {t : Tbl} {f r : SV} (h : RdTbl w t f r) (hvf : validF t.fields = 0) (hrl : t.recs.length <= 1000000) : Calls Tryz.prog 60 #[tblA t f r] w fun e w' => ∃ q : SV, e = .returned (.slice q.a q.len q.cap) /\ NewRow w w' q (headS t) /\ Pu w w' := by
  obtain ⟨_, hall, _, h16, hw2⟩ := validF_ok hvf
  have hfl := h.fields.len
  have hrl' := h.recs.len
  have hwide : 0 <= wide t.fields := by
    have := sum_le (WOk.of hall); unfold wide; omega
  refine F60_calls _ _ _ w _ (alB fun w1 hp1 hb1 => ⟨_, cl0 hb1, ?_⟩)
  rw [wrap_byte]
  refine alB fun w2 hp2 hb2 => ⟨_, cl (hp2.blk hb1) 2, ?_⟩
  have r2 : NewRow w1 w2 ⟨some ⟨w1.heap.size, 0, none⟩, 2, 2⟩ [67, byteI t.page] := NewRow.box (l := [67, byteI t.page]) hb2 (Nat.le_refl _) (by simp)
  rw [hrl']
  refine (rLow_c t.recs.length 4 (by omega) (by omega) w2).mono ?_
  rintro e w3 ⟨m3, rfl, hm3, hp3⟩
  obtain ⟨l4, w4, e4, r4, p4⟩ := (r2.pu hp3).cat (hp2.trans hp3) (m := m3) hm3.len (fun j b hj => hm3.cell hj) (by simp [lowN_len])
  refine ⟨m3, rfl, l4, w4, e4, _, cl (p4.blk hb1) 1, ?_⟩
  rw [hfl, wrap_in (n := 16 * ((t.fields.length : Nat) : Int)) (by omega) (by omega), wrap_in (n := 13 + 16 * ((t.fields.length : Nat) : Int)) (by omega) (by omega), show 13 + 16 * ((t.fields.length : Nat) : Int) = ((13 + 16 * t.fields.length : Nat) : Int) by omega]
  refine (rLow_c (13 + 16 * t.fields.length) 2 (by omega) (by omega) w4).mono ?_
  rintro e w5 ⟨m5, rfl, hm5, hp5⟩
  obtain ⟨l6, w6, e6, r6, p6⟩ := (r4.pu hp5).cat (p4.trans hp5) (m := m5) hm5.len (fun j b hj => hm5.cell hj) (by simp [lowN_len])
  refine ⟨m5, rfl, l6, w6, e6, _, cl (p6.blk hb1) 1, (rWide_c (h.fields.pu (hp1.trans p6)) (WOk.of hall)).mono ?_⟩
  rintro e w7 ⟨rfl, hp7⟩
  refine ⟨_, rfl, ?_⟩
  rw [show (Value.int .i64 (wide t.fields)) = .int .i64 (((wide t.fields).toNat : Nat) : Int) by congr 1; omega]
  refine (rLow_c (wide t.fields).toNat 2 (by omega) (by omega) w7).mono ?_
  rintro e w8 ⟨m8, rfl, hm8, hp8⟩
  obtain ⟨l9, w9, e9, r9, p9⟩ := ((r6.pu hp7).pu hp8).cat ((p6.trans hp7).trans hp8) (m := m8) hm8.len (fun j b hj => hm8.cell hj) (by simp [lowN_len])
  refine ⟨m8, rfl, l9, w9, e9, _, cl (p9.blk hb1) 1, ?_⟩
  rw [hfl, wrap_byte]
  refine alB fun w10 hp10 hb10 => ?_
  obtain ⟨l11, w11, e11, r11, p11⟩ := (r9.pu hp10).cat (p9.trans hp10) (m := ⟨some ⟨w9.heap.size, 0, none⟩, 2, 2⟩) (news := [byteI ((t.fields.length : Nat) : Int), 0]) rfl (box_cells hb10 rfl) (by simp [lowN_len])
  refine ⟨l11, w11, e11, ?_⟩
  have := rHeadLoop_c hp1 hb1 (h.fields.pu hp1) hall h16 p11 r11 (by simp [lowN_len])
  unfold headS
  exact this
theorem rHeaderE_c {w : World} {t : Tbl} {f r : SV} (h : RdTbl w t f r) : Calls Tryz.prog 20 #[tblA t f r] w fun e w' => ∃ q : SV, e = .returned (.tuple #[.slice q.a q.len q.cap, .int .i64 (validT t)]) /\ NewRow w w' q (if validT t = 0 then headS t else []) /\ Pu w w' := by
  refine F20_calls _ _ _ w _ (alB fun w1 hp1 hb1 => ⟨_, cl hb1 0, _, cl hb1 1, _, cl hb1 2, (rValidTbl_c (h.pu hp1)).mono ?_⟩)
  rintro e w2 ⟨rfl, hp2⟩
  have b2 := hp2.blk hb1
  refine ⟨_, rfl, Br.of (fun d => ⟨⟨none, 0, 0⟩, rfl, by rw [if_neg (bntrue d)]; exact NewRow.nil w w2, hp1.trans hp2⟩) (fun d => ?_)⟩
  have hv := bnfalse d
  obtain ⟨_, hvf, h300, _⟩ := validT_ok hv
  refine ⟨_, cl b2 0, _, cl b2 1, _, cl b2 2, (rHeader_c (h.pu (hp1.trans hp2)) hvf (by omega)).mono ?_⟩
  rintro e w3 ⟨q, rfl, hq, hp3⟩
  exact ⟨q, rfl, q, by rw [hv], by rw [if_pos hv]; exact hq.low (hp1.trans hp2).size, (hp1.trans hp2).trans hp3⟩

theorem add_bit : ∀ r : Nat, r < 8 -> ∀ x : Nat, x < 2 ^ r -> IntKind.u8.wrap ((x : Int) + IntKind.u8.wrap ((1 : Int) * 2 ^ (min r 8))) = ((x + 2 ^ r : Nat) : Int) := by decide +kernel
theorem rRow_c {w : World} {l : List Fld} {s t : SV} {r : Rec} {p : Int} (h : RdSl w s l) (hr : RdSl w t r.v) (hall : l.all fieldB = true) (h16 : l.length <= 16) (hR : RightR l p r.v) :
    Calls Tryz.prog 61 #[.slice s.a s.len s.cap, .agg #[.bool r.gone, .slice t.a t.len t.cap]] w fun e w' => ∃ q : SV, e = .returned (.slice q.a q.len q.cap) /\ NewRow w w' q (rowS shownS l r) /\ Pu w w' := by
  refine F61_calls _ _ _ w _ ?_
  have hsl := h.len
  have htl := hr.len
  have hl := hR.1
  have hnl := nulls_le l
  have hN0 : (nulls l) = ((l.filter (·.null)).length + 7) / 8 := rfl
  have hwid := WOk.of hall
  have hW := hR.writes hall
  refine alB fun w1 hp1 hb1 => alB fun w2 hp2 hb2 => ⟨_, cl0 (hp2.blk hb1), ?_⟩
  have l1 : w.heap.size < w1.heap.size := blk_lt hb1
  have main : ∀ {w3 : World}, Pu w1 w3 -> w3.heap[w1.heap.size]? = some (.cells #[u8V (goneB r.gone)] 5) ->
      Calls Tryz.prog 72 #[.slice s.a s.len s.cap] w3 fun e w38 => ∃ n16 : Int, e = .returned (.int .i64 n16) /\ ∃ l17 : SV, ∃ w39 : World, (Instr.makeSlice 37 (.int .i64 n16) (.int .i64 n16)).run Tryz.prog w38 = .ok (.slice l17.a l17.len l17.cap) w39 /\
        F61_8 (fun e w' => ∃ q : SV, e = .returned (.slice q.a q.len q.cap) /\ NewRow w w' q (rowS shownS l r) /\ Pu w w') s (some (⟨w.heap.size, 0, none⟩ : Addr)) ⟨(some ⟨w1.heap.size, 0, none⟩), 1, 1⟩ l17 0 0 [] w39 := fun {w3} hp3 hb3 => by
    refine (rNulls_c (h.pu (hp1.trans hp3))).mono ?_
    rintro e w4 ⟨rfl, hp4⟩
    obtain ⟨i, i1, i2, i3, i4⟩ := info_parts info5
    obtain ⟨w5, e5, row5, hp5, s5⟩ := row_make (P := Tryz.prog) (w := w4) u37 i1 i2 i3 .i64 .i64 (nulls l) (by rw [i4]; omega) (by omega)
    refine ⟨_, rfl, ⟨some ⟨w4.heap.size, 0, none⟩, nulls l, nulls l⟩, w5, e5, ?_⟩
    have fl5 : NewRow w4 w5 ⟨some ⟨w4.heap.size, 0, none⟩, nulls l, nulls l⟩ (flN (nulls l) []) := by
      refine ⟨?_, fun b hb => by simp [blkOf] at hb; omega⟩
      rw [flN_nil, List.map_replicate]
      rw [show (Value.int IntKind.u8 0).cells = #[.int .u8 0] from rfl, toList_madeCells_one, Nat.mul_one] at row5
      exact row5
    have hl6len : (⟨some ⟨w4.heap.size, 0, none⟩, nulls l, nulls l⟩ : SV).len = nulls l := rfl
    generalize hq6 : (⟨some ⟨w4.heap.size, 0, none⟩, nulls l, nulls l⟩ : SV) = l6 at *
    have p4 : Pu w1 w4 := hp3.trans hp4
    refine loopUp l.length (fun k u w' => u.2 = (k : Int) /\ u.1 = ((nbits (l.take k) (r.v.take k)).length : Nat) /\ NewRow w4 w' l6 (flN (nulls l) (nbits (l.take k) (r.v.take k))) /\ Pu w4 w') ⟨rfl, rfl, fl5, hp5⟩ ?_
    rintro k J ⟨u1, u2⟩ w7 hk ⟨hu2, hu1, hfl, hp⟩ hJ
    obtain rfl : u2 = (k : Int) := hu2
    obtain rfl : u1 = ((nbits (l.take k) (r.v.take k)).length : Nat) := hu1
    have q7 : Pu w1 w7 := p4.trans hp
    have hb7 := q7.blk hb1
    dsimp only
    refine Br.of (fun d => ?_) (fun d => ?_)
    · have hk2 : k < l.length := by have := dtrue d; omega
      obtain ⟨f, hf⟩ := at_k hk2
      obtain ⟨v, hv⟩ := at_k (show k < r.v.length by omega)
      obtain ⟨a, ha, hi, _, _, _, k0, k1, k2, k3⟩ := fldAt (h.pu (hp1.trans q7)) hf
      have hns := nbits_snoc hf hv
      have hnb := nbits_len (l.take k) (r.v.take k)
      have hft := filter_take_le l k
      have hfl2 := List.length_filter_le (·.null) l
      refine ⟨a, ha, by omega, by omega, _, k3, Br.of (fun d1 => ?_) (fun d1 => ?_)⟩
      · have d1 : f.null = false := by simpa using d1
        rw [if_neg (by rw [d1]; simp), List.append_nil] at hns
        rw [wrap_in (n := (k : Int) + 1) (by omega) (by omega)]
        exact hJ _ _ hk2 ⟨by dsimp only; omega, by dsimp only; rw [hns], by rw [hns]; exact hfl, hp⟩
      have d1 : f.null = true := by simpa using d1
      obtain ⟨m, hm, hmi, _, _, v0, v1, v2⟩ := valAt (hr.pu (hp1.trans q7)) hv
      rw [add0] at v0
      refine ⟨t, cl hb7 1, m, hm, by omega, by omega, _, v0, Br.of (fun d2 => ?_) (fun d2 => ?_)⟩
      · rw [if_pos d1, decide_eq_true (btrue d2)] at hns
        generalize hbits : nbits (l.take k) (r.v.take k) = bits at *
        have hm1 : bits.length + 1 <= (l.filter (·.null)).length := by
          have h1 := nbits_len (l.take (k + 1)) (r.v.take (k + 1))
          have h2 := filter_take_le l (k + 1)
          rw [hns] at h1; simp only [List.length_append, List.length_singleton] at h1; omega
        obtain ⟨q, ρ, hqr, hρ⟩ : ∃ q ρ, bits.length = 8 * q + ρ /\ ρ < 8 := ⟨bits.length / 8, bits.length % 8, by omega, by omega⟩
        have hqN : q < nulls l := by omega
        have e1 : ((bits.length : Nat) : Int).tdiv 8 = (q : Int) := by rw [Int.tdiv_eq_ediv_of_nonneg (by omega)]; omega
        have e2 : ((bits.length : Nat) : Int).tmod 8 = (ρ : Int) := by rw [Int.tmod_eq_emod_of_nonneg (by omega)]; omega
        rw [e1, e2, wrap_in (n := (q : Int)) (by omega) (by omega), wrap_in (n := ((bits.length : Nat) : Int) + 1) (by omega) (by omega), wrap_in (n := (k : Int) + 1) (by omega) (by omega)]
        refine dwE_intro fun w10 hp10 hh10 => ?_
        have fl10 : NewRow w4 w10 l6 (flN (nulls l) bits) := hfl.pu hp10
        have hbl := byteAt_lt hqr hρ
        have hpow : 2 ^ ρ <= 128 := by
          rcases (by omega : ρ = 0 ∨ ρ = 1 ∨ ρ = 2 ∨ ρ = 3 ∨ ρ = 4 ∨ ρ = 5 ∨ ρ = 6 ∨ ρ = 7) with rfl | rfl | rfl | rfl | rfl | rfl | rfl | rfl <;> decide
        obtain ⟨a6, ha6, hc6⟩ := fl10.cell (flN_at hqN)
        have ebyte : u8V (UInt8.ofNat (byteAt bits q)) = .int .u8 ((byteAt bits q : Nat) : Int) := by
          unfold u8V; congr 2; simp; omega
        rw [ebyte] at hc6
        refine ⟨rfl, by decide, a6, ha6, by omega, by omega, _, by rw [Int.toNat_natCast, Nat.mul_one]; exact hc6, rfl, by decide, by omega, ?_⟩
        rw [Int.toNat_natCast, Int.toNat_natCast, Nat.mul_one, add_bit ρ hρ _ hbl]
        have ev : (Value.int .u8 ((byteAt bits q + 2 ^ ρ : Nat) : Int)) = u8V (UInt8.ofNat (byteAt bits q + 2 ^ ρ)) := by
          unfold u8V; congr 2; simp; omega
        rw [ev]
        obtain ⟨a7, ha7, hst⟩ := fl10.1.st1 (j := q) (by simp [flN_len]; exact hqN) (u8V (UInt8.ofNat (byteAt bits q + 2 ^ ρ))) (K := fun w15 => J (((bits.length : Nat) : Int) + 1, (k : Int) + 1) w15) fun w11 hr11 hf11 hs11 => by
          rw [← List.map_set, ← flN_true hqr hρ hqN] at hr11
          refine hJ _ _ hk2 ⟨by dsimp only; omega, by dsimp only; rw [hns]; simp, by rw [hns]; exact ⟨hr11, hfl.2⟩, (hp.trans hp10).andNew hf11 fun i hi => hfl.2 i hi⟩
        exact ⟨a7, ha7, by omega, by omega, hst⟩
      · rw [if_pos d1, decide_eq_false (bfalse d2)] at hns
        rw [wrap_in (n := ((nbits (l.take k) (r.v.take k)).length : Int) + 1) (by omega) (by omega), wrap_in (n := (k : Int) + 1) (by omega) (by omega)]
        exact hJ _ _ hk2 ⟨by dsimp only; omega, by dsimp only; rw [hns]; simp, by rw [hns, flN_false]; exact hfl, hp⟩
    · have hk2 : k = l.length := by have := dfalse d; omega
      subst hk2
      clear hJ J
      rw [List.take_length, List.take_of_length_le (show r.v.length <= l.length by omega)] at hfl
      have out : NewRow w1 w7 ⟨some ⟨w1.heap.size, 0, none⟩, 1, 1⟩ [goneB r.gone] := NewRow.box (l := [goneB r.gone]) ((hp4.trans hp).blk hb3) (Nat.le_refl _) (by simp)
      obtain ⟨l5, w8, e8, r8, p8⟩ := out.cat q7 (m := l6) (news := flN (nulls l) (nbits l r.v)) hfl.len (fun j b hj => hfl.cell hj) (by simp only [List.length_singleton, flN_len]; omega)
      refine ⟨l5, w8, e8, ?_⟩
      refine loopUp l.length (fun k u w' => u.2 = (k : Int) /\ NewRow w1 w' u.1 ([goneB r.gone] ++ flN (nulls l) (nbits l r.v) ++ cellsS shownS (l.take k) (r.v.take k)) /\ Pu w1 w') ⟨rfl, by simpa [cellsS] using r8, p8⟩ ?_
      rintro k J ⟨u1, u2⟩ w9 hk ⟨hu2, hr9, hp9⟩ hJ
      obtain rfl : u2 = (k : Int) := hu2
      have hr9 : NewRow w1 w9 u1 ([goneB r.gone] ++ flN (nulls l) (nbits l r.v) ++ cellsS shownS (l.take k) (r.v.take k)) := hr9
      have hcl := cellsS_len hwid hW k hk (by omega)
      dsimp only
      refine Br.of (fun d1 => dwE_intro fun w10 hp10 _ => ?_) (fun d1 => ?_)
      · have hk2 : k < l.length := by have := dtrue d1; omega
        obtain ⟨f, hf⟩ := at_k hk2
        obtain ⟨v, hv⟩ := at_k (show k < r.v.length by omega)
        have p10 := hp9.trans hp10
        obtain ⟨a, ha, hi, _, _, _, k0, k1, k2, k3⟩ := fldAt (h.pu (hp1.trans p10)) hf
        obtain ⟨m, hm, hmi, _, _, v0, v1, v2⟩ := valAt (hr.pu (hp1.trans p10)) hv
        have hfB := List.all_eq_true.1 hall f (List.mem_of_getElem? hf)
        have hwf := field_width hfB
        refine ⟨a, ha, by omega, by omega, _, k0, _, k1, _, k2, _, k3, t, cl (p10.blk hb1) 1, m, hm, by omega, by omega, _, v0, _, v1, _, v2, (rShown_c hfB (hR.2 k f v hf hv) w10).mono ?_⟩
        rintro e w11 ⟨rfl, hp11⟩
        have hsl2 := (hR.2 k f v hf hv).len
        obtain ⟨mm, w12, e12, hp12, hm12⟩ := conv_mark (bs (shownS f v)) (by rw [bs_size]; omega) w11
        rw [bs_list] at hm12
        obtain ⟨q, w13, e13, r13, p13⟩ := (((hr9.pu hp10).pu hp11).pu hp12).cat ((p10.trans hp11).trans hp12) (m := mm) (news := shownS f v) hm12.len (fun j b hj => hm12.cell hj) (by simp only [List.length_append, List.length_singleton, flN_len]; omega)
        refine ⟨_, rfl, mm, w12, e12, q, w13, e13, ?_⟩
        rw [wrap_in (by omega) (by omega)]
        refine hJ _ _ hk2 ⟨by dsimp only; omega, ?_, p13⟩
        dsimp only
        rw [cellsS_take hf hv, cellS_shown]
        simpa only [List.append_assoc] using r13
      · have hk2 : k = l.length := by have := dfalse d1; omega
        subst hk2
        rw [List.take_length, List.take_of_length_le (show r.v.length <= l.length by omega)] at hr9
        exact ⟨u1, rfl, hr9.low hp1.size, hp1.trans hp9⟩
  refine Br.of (fun d => ⟨_, rfl, by omega, by omega, ?_⟩) (fun d => main hp2 (by rw [d]; exact hb2))
  show st1 ((⟨w1.heap.size, 0, none⟩ : Addr).add 0) _ w2 _
  rw [add_def]
  refine st1_intro hb2 (by decide) fun w3 hw3 hb3 => main ?_ (by rw [d]; exact hb3)
  exact hp2.andNew (B := (· = w1.heap.size)) (by rw [hw3]; exact Fr.cell w2 _ 0 _) fun i hi => by omega
end Go.Proofs.YtecmfdfhpldmmaaGreatDoor

/- Table: the bytes of a table; the law on them. No condition. -/
set_option maxRecDepth 100000
set_option linter.unusedVariables false
set_option linter.unusedSimpArgs false
namespace Go.Proofs.YtecmfdfhpldmmaaGreatDoor
open Go.Sh Go.RowKit

noncomputable def bytesS (t : Tbl) : List UInt8 := headS t ++ t.recs.flatMap (rowS shownS t.fields) ++ [26]
noncomputable def bytesOut (t : Tbl) : List UInt8 := if validT t = 0 then bytesS t else []
structure Okay (t : Tbl) : Prop where
  page : pageB t.page = true
  vf : validF t.fields = 0
  ne : t.fields ≠ []
  all : t.fields.all fieldB = true
  n16 : t.fields.length <= 16
  w2 : wide t.fields <= 2000
  m300 : t.recs.length <= 300
  recs : ∀ x ∈ t.recs, RightR t.fields t.page x.v
theorem Okay.of {t : Tbl} (h : validT t = 0) : Okay t := by
  obtain ⟨hpg, hvf, h300, hfb⟩ := validT_ok h
  obtain ⟨h0, hall, _, h16, hw⟩ := validF_ok hvf
  exact ⟨hpg, hvf, h0, hall, h16, hw, h300, fun x hx => RightR.of hall (firstBad_all hfb x hx)⟩
theorem headS_le {t : Tbl} (h : Okay t) : (headS t).length = 13 + 16 * t.fields.length := by
  have : ∀ {l : List Fld}, l.all fieldB = true -> (l.flatMap fieldS).length = 16 * l.length := by
    intro l
    induction l with
    | nil => intro _; rfl
    | cons f l ih =>
      intro hl
      rw [List.flatMap_cons, List.length_append, fieldS_len (field_parts (List.all_eq_true.1 hl f (by simp))).2.1, ih (List.all_eq_true.2 fun g hg => List.all_eq_true.1 hl g (by simp [hg])), List.length_cons]
      omega
  unfold headS
  simp only [List.length_append, lowN_len, List.length_cons, List.length_nil, this h.all]
  omega
theorem rows_len {t : Tbl} (h : Okay t) : ∀ k, k <= t.recs.length -> (((t.recs.take k).flatMap (rowS shownS t.fields)).length : Int) = k * wide t.fields
  | 0, _ => by simp
  | k + 1, hk => by
    obtain ⟨x, hx⟩ := at_k (show k < t.recs.length by omega)
    rw [take_at hx, List.flatMap_append, List.length_append, List.flatMap_cons, List.flatMap_nil, List.append_nil]
    have h1 := rows_len h k (by omega)
    have h2 := rowS_len h.all (h.recs x (List.mem_of_getElem? hx))
    rw [Int.natCast_add, h1, h2, Int.natCast_add, Int.add_mul]; omega
theorem flatMap_snoc {α β : Type} (g : α -> List β) {l : List α} {k : Nat} {x : α} (h : l[k]? = some x) : (l.take (k + 1)).flatMap g = (l.take k).flatMap g ++ g x := by
  rw [take_at h, List.flatMap_append]; simp
theorem rows_le {t : Tbl} (h : Okay t) (k : Nat) (hk : k <= t.recs.length) : ((t.recs.take k).flatMap (rowS shownS t.fields)).length <= 600000 := by
  have h1 := rows_len h k hk
  have h2 := h.m300
  have h3 := h.w2
  have h4 : (k : Int) * wide t.fields <= 300 * 2000 := by
    have hw : 0 <= wide t.fields := by have := sum_le (WOk.of h.all); unfold wide; omega
    exact Int.mul_le_mul (by omega) h3 hw (by omega)
  omega
theorem tblBytes_c {w : World} {t : Tbl} {f r : SV} (h : RdTbl w t f r) (ho : Okay t) : Calls Tryz.prog 59 #[tblA t f r] w fun e w' => ∃ q : SV, e = .returned (.slice q.a q.len q.cap) /\ NewRow w w' q (bytesS t) /\ Pu w w' := by
  have hm := ho.m300
  have h16 := ho.n16
  have hrl := h.recs.len
  have hh := headS_le ho
  refine F59_calls _ _ _ w _ (alB fun w1 hp1 hb1 => ⟨_, cl hb1 0, _, cl hb1 1, _, cl hb1 2, (header_c (h.pu hp1) ho.vf (by omega)).mono ?_⟩)
  rintro e w2 ⟨q, rfl, hq, hp2⟩
  refine ⟨q, rfl, _, cl (hp2.blk hb1) 2, ?_⟩
  refine loopUp t.recs.length (fun k u w' => u.2 = (k : Int) /\ NewRow w1 w' u.1 (headS t ++ (t.recs.take k).flatMap (rowS shownS t.fields)) /\ Pu w1 w') ⟨rfl, by simpa using hq, hp2⟩ ?_
  rintro k J ⟨u1, u2⟩ w3 hk ⟨hu2, hr, hp⟩ hJ
  obtain rfl : u2 = (k : Int) := hu2
  have hr : NewRow w1 w3 u1 (headS t ++ (t.recs.take k).flatMap (rowS shownS t.fields)) := hr
  have hrs := rows_le ho k hk
  dsimp only
  refine Br.of (fun d => ?_) (fun d => ?_)
  · have hk2 : k < t.recs.length := by have := dtrue d; omega
    obtain ⟨x, hx⟩ := at_k hk2
    have hR := ho.recs x (List.mem_of_getElem? hx)
    obtain ⟨a, s, ha, hi, hs, c0, c1⟩ := recAt (h.recs.pu (hp1.trans hp)) hx
    refine ⟨a, ha, by omega, by omega, _, c0, s, c1, boxA rfl s46.symm rfl fun w4 hp4 hs4 hb4 => ⟨_, cl ((hp.trans hp4).blk hb1) 1, _, cl hb4 0, s, cl hb4 1, ?_⟩⟩
    refine (row_c (sh := shownS) (r := x) (h.fields.pu (hp1.trans (hp.trans hp4))) (hs.pu hp4) hR.1 h16 (WOk.of ho.all) (hR.writes ho.all) (hR.ne ho.all ho.ne)).mono ?_
    rintro e w5 ⟨m, rfl, hm5, hp5⟩
    have hl5 := rowS_len ho.all hR
    have hw2 := ho.w2
    obtain ⟨q', w6, e6, r6, p6⟩ := ((hr.pu hp4).pu hp5).cat ((hp.trans hp4).trans hp5) (m := m) hm5.len (fun j b hj => hm5.cell hj) (by rw [List.length_append]; omega)
    refine ⟨m, rfl, q', w6, e6, ?_⟩
    rw [wrap_in (by omega) (by omega)]
    refine hJ _ _ hk2 ⟨by dsimp only; omega, ?_, p6⟩
    dsimp only
    rw [flatMap_snoc _ hx, ← List.append_assoc]; exact r6
  · have hk2 : k = t.recs.length := by have := dfalse d; omega
    subst hk2
    rw [List.take_length] at hr hrs
    refine alB fun w4 hp4 hb4 => ?_
    obtain ⟨q', w5, e5, r5, p5⟩ := (hr.pu hp4).cat (hp.trans hp4) (m := ⟨some ⟨w3.heap.size, 0, none⟩, 1, 1⟩) (news := [26]) rfl (box_cells hb4 rfl) (by rw [List.length_append, List.length_singleton]; omega)
    exact ⟨q', w5, e5, q', rfl, r5.low hp1.size, hp1.trans p5⟩
theorem bytesE_c {w : World} {t : Tbl} {f r : SV} (h : RdTbl w t f r) (hl : Lim.ok t.fields) : Calls Tryz.prog 17 #[tblA t f r] w fun e w' => ∃ q : SV, e = .returned (.tuple #[.slice q.a q.len q.cap, .int .i64 (validT t)]) /\ NewRow w w' q (bytesOut t) /\ Pu w w' := by
  refine F17_calls _ _ _ w _ (alB fun w1 hp1 hb1 => ⟨_, cl hb1 0, _, cl hb1 1, _, cl hb1 2, (validTbl_c (h.pu hp1) hl).mono ?_⟩)
  rintro e w2 ⟨rfl, hp2⟩
  have b2 := hp2.blk hb1
  refine ⟨_, rfl, Br.of (fun d => ⟨⟨none, 0, 0⟩, rfl, by unfold bytesOut; rw [if_neg (bntrue d)]; exact NewRow.nil w w2, hp1.trans hp2⟩) (fun d => ?_)⟩
  have hv := bnfalse d
  refine ⟨_, cl b2 0, _, cl b2 1, _, cl b2 2, (tblBytes_c (h.pu (hp1.trans hp2)) (Okay.of hv)).mono ?_⟩
  rintro e w3 ⟨q, rfl, hq, hp3⟩
  exact ⟨q, rfl, q, by rw [hv], by unfold bytesOut; rw [if_pos hv]; exact hq.low (hp1.trans hp2).size, (hp1.trans hp2).trans hp3⟩
theorem rBytes_c {w : World} {t : Tbl} {f r : SV} (h : RdTbl w t f r) : Calls Tryz.prog 18 #[tblA t f r] w fun e w' => ∃ q : SV, e = .returned (.tuple #[.slice q.a q.len q.cap, .int .i64 (validT t)]) /\ NewRow w w' q (bytesOut t) /\ Pu w w' := by
  refine F18_calls _ _ _ w _ (alB fun w1 hp1 hb1 => ⟨_, cl hb1 0, _, cl hb1 1, _, cl hb1 2, (rValidTbl_c (h.pu hp1)).mono ?_⟩)
  rintro e w2 ⟨rfl, hp2⟩
  have b2 := hp2.blk hb1
  refine ⟨_, rfl, Br.of (fun d => ⟨⟨none, 0, 0⟩, rfl, by unfold bytesOut; rw [if_neg (bntrue d)]; exact NewRow.nil w w2, hp1.trans hp2⟩) (fun d => ?_)⟩
  have hv := bnfalse d
  have ho := Okay.of hv
  have hm := ho.m300
  have h16 := ho.n16
  have hrl := h.recs.len
  have hh := headS_le ho
  refine ⟨_, cl b2 0, _, cl b2 1, _, cl b2 2, (rHeader_c (h.pu (hp1.trans hp2)) ho.vf (by omega)).mono ?_⟩
  rintro e w3 ⟨q, rfl, hq, hp3⟩
  refine ⟨q, rfl, ?_⟩
  refine loopUp t.recs.length (fun k u w' => u.2 = (k : Int) /\ NewRow w1 w' u.1 (headS t ++ (t.recs.take k).flatMap (rowS shownS t.fields)) /\ Pu w1 w') ⟨rfl, by simpa using hq.low hp2.size, hp2.trans hp3⟩ ?_
  rintro k J ⟨u1, u2⟩ w4 hk ⟨hu2, hr, hp⟩ hJ
  obtain rfl : u2 = (k : Int) := hu2
  have hr : NewRow w1 w4 u1 (headS t ++ (t.recs.take k).flatMap (rowS shownS t.fields)) := hr
  have hrs := rows_le ho k hk
  dsimp only
  refine ⟨_, cl (hp.blk hb1) 2, Br.of (fun d1 => dwE_intro fun w5 hp5 _ => ?_) (fun d1 => ?_)⟩
  · have hk2 : k < t.recs.length := by have := dtrue d1; omega
    obtain ⟨x, hx⟩ := at_k hk2
    have hR := ho.recs x (List.mem_of_getElem? hx)
    have p5 := hp.trans hp5
    obtain ⟨a, s, ha, hi, hs, c0, c1⟩ := recAt (h.recs.pu (hp1.trans p5)) hx
    refine ⟨_, cl (p5.blk hb1) 1, _, cl (p5.blk hb1) 2, a, ha, by omega, by omega, _, c0, s, c1, (rRow_c (r := x) (h.fields.pu (hp1.trans p5)) hs ho.all h16 hR).mono ?_⟩
    rintro e w6 ⟨m, rfl, hm6, hp6⟩
    have hl5 := rowS_len ho.all hR
    have hw2 := ho.w2
    obtain ⟨q', w7, e7, r7, p7⟩ := ((hr.pu hp5).pu hp6).cat (p5.trans hp6) (m := m) hm6.len (fun j b hj => hm6.cell hj) (by rw [List.length_append]; omega)
    refine ⟨m, rfl, q', w7, e7, ?_⟩
    rw [wrap_in (by omega) (by omega)]
    refine hJ _ _ hk2 ⟨by dsimp only; omega, ?_, p7⟩
    dsimp only
    rw [flatMap_snoc _ hx, ← List.append_assoc]; exact r7
  · have hk2 : k = t.recs.length := by have := dfalse d1; omega
    subst hk2
    rw [List.take_length] at hr hrs
    refine alB fun w5 hp5 hb5 => ?_
    obtain ⟨q', w6, e6, r6, p6⟩ := (hr.pu hp5).cat (hp.trans hp5) (m := ⟨some ⟨w4.heap.size, 0, none⟩, 1, 1⟩) (news := [26]) rfl (box_cells hb5 rfl) (by rw [List.length_append, List.length_singleton]; omega)
    exact ⟨q', w6, e6, q', by rw [hv], by unfold bytesOut; rw [if_pos hv]; exact r6.low hp1.size, hp1.trans p6⟩
theorem rRowE_c {w : World} {t : Tbl} {f r : SV} (h : RdTbl w t f r) (k : Int) (hk : In64 k) :
    Calls Tryz.prog 22 #[tblA t f r, .int .i64 k] w fun e w' => ∃ q : SV, e = .returned (.tuple #[.slice q.a q.len q.cap, .int .i64 (rowCode t k)]) /\ NewRow w w' q (rowOut shownS t k) /\ Pu w w' := by
  refine F22_calls _ _ _ _ w _ ?_
  refine alB fun w1 hp1 hb1 => ⟨_, cl hb1 0, _, cl hb1 1, _, cl hb1 2, (rValidTbl_c (h.pu hp1)).mono ?_⟩
  rintro e w2 ⟨rfl, hp2⟩
  have hp12 := hp1.trans hp2
  have hrl := h.recs.len
  have no : ∀ {c : Int}, c ≠ 0 -> rowCode t k = c -> ∃ q : SV, Ending.returned (.tuple #[.slice none 0 0, .int .i64 c]) = .returned (.tuple #[.slice q.a q.len q.cap, .int .i64 (rowCode t k)]) /\ NewRow w w2 q (rowOut shownS t k) /\ Pu w w2 := fun h1 h2 =>
    ⟨⟨none, 0, 0⟩, by rw [h2], by unfold rowOut; rw [if_neg (by rw [h2]; exact h1)]; exact NewRow.nil w w2, hp12⟩
  refine ⟨_, rfl, Br.of (fun d => no (bntrue d) (by unfold rowCode; rw [if_pos (bntrue d)])) (fun d => Br.of (fun d1 => no (c := 4) (by decide) ?_) (fun d1 => ⟨_, cl (hp2.blk hb1) 2, Br.of (fun d2 => no (c := 4) (by decide) ?_) (fun d2 => ?_)⟩))⟩
  · unfold rowCode; rw [if_neg (by rw [bnfalse d]; simp), if_pos (.inl (dtrue d1))]
  · unfold rowCode; rw [if_neg (by rw [bnfalse d]; simp), if_pos (.inr (by have := dtrue d2; omega))]
  have hv := bnfalse d
  have d1 := dfalse d1
  have d2 := dfalse d2
  have ho := Okay.of hv
  have hki : (k - 1).toNat < t.recs.length := by omega
  obtain ⟨x, hx⟩ := at_k hki
  have hR := ho.recs x (List.mem_of_getElem? hx)
  have hc : rowCode t k = 0 := by unfold rowCode; rw [if_neg (by rw [hv]; simp), if_neg (by omega)]
  refine dwE_intro fun w3 hp3 _ => ?_
  have hp13 := hp2.trans hp3
  have hp03 := hp1.trans hp13
  rw [wrap_in (by omega) (by have := h.recs.lim; omega)]
  obtain ⟨a, q, ha, hi, hq, c0, c1⟩ := recAt (h.recs.pu hp03) hx
  refine ⟨_, cl (hp13.blk hb1) 1, _, cl (hp13.blk hb1) 2, a, ha, by omega, by omega, _, c0, _, c1, (rRow_c (r := x) (h.fields.pu hp03) hq ho.all ho.n16 hR).mono ?_⟩
  rintro e w4 ⟨o, rfl, ho4, hp4⟩
  refine ⟨o, rfl, o, by rw [hc], ?_, hp03.trans hp4⟩
  unfold rowOut; rw [if_pos hc, hx]; exact ho4.low hp03.size
theorem same_c {w w0 w1 : World} {s t : SV} {a b : List UInt8} (ha : NewRow w0 w s a) (hb : NewRow w1 w t b) : Calls Tryz.prog 23 #[.slice s.a s.len s.cap, .slice t.a t.len t.cap] w fun e w' => e = .returned (.bool (decide (a = b))) /\ Pu w w' := by
  refine F23_calls _ _ w _ ⟨_, w, conv_str ha, _, w, conv_str hb, ?_, Pu.refl w⟩
  rw [toList_beq]
  congr 2
  exact dec_eq ⟨fun h => by rw [← bs_list a, h, bs_list], fun h => by rw [h]⟩
theorem tableWrites_c (w : World) (t : Tbl) (f r : SV) (h : RdTbl w t f r) (hl : Lim.ok t) (k : Int) (hk : In64 k) : Calls Tryz.prog 4 #[tblA t f r, .int .i64 k] w fun e w' => e = .returned (.bool true) /\ Pu w w' := by
  have hlf : Lim.ok t.fields := hl.1
  refine F4_calls _ _ _ _ w _ (alB fun w1 hp1 hb1 => ?_)
  have b1 : ∀ {wz}, Pu w1 wz -> _ := fun {wz} (h : Pu w1 wz) => tbl_blk (t := t) (f := f) (q := r) (h.blk hb1)
  have h1 := h.pu hp1
  have okW : validT t = 0 -> ∀ x ∈ t.recs, Writes shownS t.fields x.v /\ cellsS shownS t.fields x.v ≠ [] := fun hv x hx => by
    have ho := Okay.of hv
    exact ⟨(ho.recs x hx).writes ho.all, (ho.recs x hx).ne ho.all ho.ne⟩
  refine ⟨_, (b1 (Pu.refl _)).1, _, (b1 (Pu.refl _)).2.1, _, (b1 (Pu.refl _)).2.2, (over_c h1).mono ?_⟩
  rintro e w2 ⟨b, rfl, hp2⟩
  refine ⟨b, rfl, Br.of (fun _ => (known_c w2).mono ?_) (fun _ => ⟨_, (b1 hp2).1, _, (b1 hp2).2.1, _, (b1 hp2).2.2, (bytesE_c (h1.pu hp2) hlf).mono ?_⟩)⟩
  · rintro e w3 ⟨rfl, hp3⟩; exact ⟨_, rfl, rfl, (hp1.trans hp2).trans hp3⟩
  rintro e w3 ⟨q3, rfl, hq3, hp3⟩
  have p3 := hp2.trans hp3
  refine ⟨q3, _, rfl, _, (b1 p3).1, _, (b1 p3).2.1, _, (b1 p3).2.2, (rBytes_c (h1.pu p3)).mono ?_⟩
  rintro e w4 ⟨q4, rfl, hq4, hp4⟩
  have p4 := p3.trans hp4
  refine ⟨q4, _, rfl, _, (b1 p4).1, _, (b1 p4).2.1, _, (b1 p4).2.2, (headerE_c (h1.pu p4) hlf).mono ?_⟩
  rintro e w5 ⟨q5, rfl, hq5, hp5⟩
  have p5 := p4.trans hp5
  refine ⟨q5, _, rfl, _, (b1 p5).1, _, (b1 p5).2.1, _, (b1 p5).2.2, (rHeaderE_c (h1.pu p5)).mono ?_⟩
  rintro e w6 ⟨q6, rfl, hq6, hp6⟩
  have p6 := p5.trans hp6
  refine ⟨q6, _, rfl, _, (b1 p6).1, _, (b1 p6).2.1, _, (b1 p6).2.2, (rowE_c (sh := shownS) (h1.pu p6) hlf k hk okW).mono ?_⟩
  rintro e w7 ⟨q7, rfl, hq7, hp7⟩
  have p7 := p6.trans hp7
  refine ⟨q7, _, rfl, _, (b1 p7).1, _, (b1 p7).2.1, _, (b1 p7).2.2, (rRowE_c (h1.pu p7) k hk).mono ?_⟩
  rintro e w8 ⟨q8, rfl, hq8, hp8⟩
  refine ⟨q8, _, rfl, (same_c (hq3.pu (hp4.trans (hp5.trans (hp6.trans (hp7.trans hp8))))) (hq4.pu (hp5.trans (hp6.trans (hp7.trans hp8))))).mono ?_⟩
  rintro e w9 ⟨rfl, hp9⟩
  have p59 := (hp6.trans (hp7.trans hp8)).trans hp9
  refine ⟨_, rfl, Br.t (by simp) (Br.t (by simp) ((same_c (hq5.pu p59) (hq6.pu ((hp7.trans hp8).trans hp9))).mono ?_))⟩
  rintro e w10 ⟨rfl, hp10⟩
  refine ⟨_, rfl, Br.t (by simp) (Br.t (by simp) ((same_c (hq7.pu ((hp8.trans hp9).trans hp10)) (hq8.pu (hp9.trans hp10))).mono ?_))⟩
  rintro e w11 ⟨rfl, hp11⟩
  refine ⟨_, rfl, Br.t (by simp) (Br.t (by simp) ((known_c w11).mono ?_))⟩
  rintro e w12 ⟨rfl, hp12⟩
  exact ⟨_, rfl, rfl, (hp1.trans p7).trans ((((hp8.trans hp9).trans hp10).trans hp11).trans hp12)⟩
end Go.Proofs.YtecmfdfhpldmmaaGreatDoor
