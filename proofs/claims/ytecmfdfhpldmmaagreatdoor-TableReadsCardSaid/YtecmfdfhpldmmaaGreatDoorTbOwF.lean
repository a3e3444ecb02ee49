import Derived.Test.YtecmfdfhpldmmaaGreatDoorTbOwE
import Derived.Test.YtecmfdfhpldmmaaGreatDoorTbPrC
/- Table: both packages' reading of a table's bytes. No condition. -/
set_option maxRecDepth 100000
set_option maxHeartbeats 2000000
set_option linter.unusedVariables false
set_option linter.unusedSimpArgs false
namespace Go.Proofs.YtecmfdfhpldmmaaGreatDoor
open Go.Sh Go.RowKit
def ReadOut (d : List UInt8) (t : Tbl) (c : Int) : Prop := (c = 0 /\ validT t = 0 /\ bytesS t = d /\ ∀ u, validT u = 0 -> bytesS u = d -> t = u) ∨ (c = 11 /\ t = ⟨0, [], []⟩ /\ ∀ u, validT u = 0 -> bytesS u ≠ d)
def ReadR (w : World) (d : List UInt8) : Rt := fun e w' => ∃ (t : Tbl) (f q : SV) (c : Int), e = .returned (.tuple #[tblA t f q, .int .i64 c]) /\ OwnT w w' t f q /\ Nice t /\ Pu w w' /\ ReadOut d t c
def zeroT (R : Rt) (r2 : Nat) (w : World) : Prop :=
  stA Tryz.prog 35 (⟨r2, 0, none⟩ : Addr) #[.int .i64 0, .slice none 0 0, .slice none 0 0] w fun w5 =>
  ∃ nR0_0 : Int, w5.cell? ((⟨r2, 0, none⟩ : Addr).add 0) = some (.int .i64 nR0_0) /\
  ∃ lR0_1 : SV, w5.cell? ((⟨r2, 0, none⟩ : Addr).add 1) = some (.slice lR0_1.a lR0_1.len lR0_1.cap) /\
  ∃ lR0_2 : SV, w5.cell? ((⟨r2, 0, none⟩ : Addr).add 2) = some (.slice lR0_2.a lR0_2.len lR0_2.cap) /\
  R (.returned (.tuple #[.agg #[.int .i64 nR0_0, .slice lR0_1.a lR0_1.len lR0_1.cap, .slice lR0_2.a lR0_2.len lR0_2.cap], .int .i64 11])) w5
theorem zeroT_c {w0 w : World} {d : List UInt8} {r2 : Nat} (hb : w.heap[r2]? = some (.cells #[.int .i64 0, .slice none 0 0, .slice none 0 0] 35)) (hp : Pu w0 w) (hr : w0.heap.size <= r2) (hno : ∀ u, validT u = 0 -> bytesS u ≠ d) : zeroT (ReadR w0 d) r2 w :=
  stA_fill hb s35.symm rfl rfl fun w5 hb5 hf5 hs5 => ⟨_, cl hb5 0, ⟨none, 0, 0⟩, cl hb5 1, ⟨none, 0, 0⟩, cl hb5 2, ⟨0, [], []⟩, ⟨none, 0, 0⟩, ⟨none, 0, 0⟩, 11, rfl, ⟨NewF.nil w0 w5, NewR.nil w0 w5⟩, Nice.zero, hp.andNew hf5 fun i hi => by omega, .inr ⟨rfl, rfl, hno⟩⟩
def copyT (R : Rt) (r2 r4 : Nat) (w : World) : Prop :=
  ∃ n122_0 : Int, w.cell? ((⟨r4, 0, none⟩ : Addr).add 0) = some (.int .i64 n122_0) /\
  ∃ l122_1 : SV, w.cell? ((⟨r4, 0, none⟩ : Addr).add 1) = some (.slice l122_1.a l122_1.len l122_1.cap) /\
  ∃ l122_2 : SV, w.cell? ((⟨r4, 0, none⟩ : Addr).add 2) = some (.slice l122_2.a l122_2.len l122_2.cap) /\
  stA Tryz.prog 35 (⟨r2, 0, none⟩ : Addr) #[.int .i64 n122_0, .slice l122_1.a l122_1.len l122_1.cap, .slice l122_2.a l122_2.len l122_2.cap] w fun w3 =>
  ∃ nR0_0 : Int, w3.cell? ((⟨r2, 0, none⟩ : Addr).add 0) = some (.int .i64 nR0_0) /\
  ∃ lR0_1 : SV, w3.cell? ((⟨r2, 0, none⟩ : Addr).add 1) = some (.slice lR0_1.a lR0_1.len lR0_1.cap) /\
  ∃ lR0_2 : SV, w3.cell? ((⟨r2, 0, none⟩ : Addr).add 2) = some (.slice lR0_2.a lR0_2.len lR0_2.cap) /\
  R (.returned (.tuple #[.agg #[.int .i64 nR0_0, .slice lR0_1.a lR0_1.len lR0_1.cap, .slice lR0_2.a lR0_2.len lR0_2.cap], .int .i64 0])) w3
theorem copyT_c {w0 wr w : World} {d : List UInt8} {r2 r4 : Nat} {t : Tbl} {f q : SV} (hb2 : w.heap[r2]? = some (.cells #[.int .i64 0, .slice none 0 0, .slice none 0 0] 35)) (h4 : w.heap[r4]? = some (.cells #[.int .i64 t.page, .slice f.a f.len f.cap, .slice q.a q.len q.cap] 35)) (ho : OwnT wr w t f q) (hn : Nice t) (hp : Pu w0 w) (hr : w0.heap.size <= r2) (hl : r2 < wr.heap.size) (hz : w0.heap.size <= wr.heap.size)
    (hout : ReadOut d t 0) : copyT (ReadR w0 d) r2 r4 w :=
  ⟨_, cl h4 0, f, cl h4 1, q, cl h4 2, stA_fill hb2 s35.symm rfl rfl fun w5 hb5 hf5 hs5 => ⟨_, cl hb5 0, f, cl hb5 1, q, cl hb5 2, t, f, q, 0, rfl, (ho.one hf5 hl).low hz, hn, hp.andNew hf5 fun i hi => by omega, hout⟩⟩
theorem bytesEqual_c {w w0 : World} {s t : SV} {a b : List UInt8} (ha : NewRow w0 w s a) (hb : ByV w t b) : Calls Tryz.prog 81 #[.slice s.a s.len s.cap, .slice t.a t.len t.cap] w fun e w' => e = .returned (.bool (decide (a = b))) /\ Pu w w' := by
  refine F81_calls _ _ w _ ⟨_, w, conv_str ha, _, w, conv_by hb, ?_, Pu.refl w⟩
  rw [toList_beq]
  congr 2
  exact dec_eq ⟨fun h => by rw [← bs_list a, h, bs_list], fun h => by rw [h]⟩
theorem read_c {w : World} {s : SV} {d : List UInt8} (hb : ByV w s d) (hd : d.length <= 1000000000) : Calls Tryz.prog 41 #[.slice s.a s.len s.cap] w (ReadR w d) := by
  refine F41_calls _ w _ (alB fun w1 hp1 hb1 => (readTable_c (hb.pu hp1) hd).mono ?_)
  rintro e w2 ⟨t, f, q, ok, rfl, ho, hn, hp2, hpar⟩
  have lt1 : w.heap.size < w1.heap.size := blk_lt hb1
  refine ⟨_, f, q, ok, rfl, boxA rfl s35.symm rfl fun w3 hp3 hs3 hb3 => ?_⟩
  have p3 := (hp1.trans hp2).trans hp3
  have ho3 := ho.pu hp3
  refine Br.of (fun d1 => zeroT_c ((hp2.trans hp3).blk hb1) p3 (Nat.le_refl _) fun u hv hu => ?_) (fun d1 => ⟨_, cl hb3 0, f, cl hb3 1, q, cl hb3 2, (validTbl_c (ho3.rd hn) hn.lim).mono ?_⟩)
  · rw [(hpar u hv hu).2] at d1; cases d1
  rintro e w4 ⟨rfl, hp4⟩
  have p4 := p3.trans hp4
  have b3 := hp4.blk hb3
  have ho4 := ho3.pu hp4
  refine ⟨_, rfl, Br.of (fun d1 => zeroT_c (((hp2.trans hp3).trans hp4).blk hb1) p4 (Nat.le_refl _) fun u hv hu => ?_) (fun d1 => ⟨_, cl b3 0, f, cl b3 1, q, cl b3 2, ?_⟩)⟩
  · rw [(hpar u hv hu).1] at d1; exact bntrue d1 hv
  have hv0 : validT t = 0 := bnfalse d1
  refine (tblBytes_c (ho4.rd hn) (Okay.of hv0)).mono ?_
  rintro e w5 ⟨o, rfl, ho5, hp5⟩
  refine ⟨o, rfl, (bytesEqual_c ho5 (hb.pu (p4.trans hp5))).mono ?_⟩
  rintro e w6 ⟨rfl, hp6⟩
  have p46 := hp5.trans hp6
  refine ⟨_, rfl, Br.of (fun d1 => zeroT_c ((((hp2.trans hp3).trans hp4).trans p46).blk hb1) (p4.trans p46) (Nat.le_refl _) fun u hv hu => ?_) (fun d1 => ?_)⟩
  · rw [(hpar u hv hu).1, decide_eq_true hu] at d1; cases d1
  have hbt : bytesS t = d := by simpa using d1
  exact copyT_c ((((hp2.trans hp3).trans hp4).trans p46).blk hb1) (p46.blk b3) (ho4.pu p46) hn (p4.trans p46) (Nat.le_refl _) lt1 hp1.size (.inl ⟨rfl, hv0, hbt, fun u hv hu => (hpar u hv hu).1⟩)
theorem name_end {g : Fld} (hg : fieldB g = true) {e : List UInt8} (he : fieldS g = e) {n : Nat} (hn : n <= 10) (hpre : ∀ j b, j < n -> e[j]? = some b -> b ≠ 0) (hend : n < 10 -> e[n]? = some 0) : n = g.name.size := by
  obtain ⟨_, h10, _⟩ := field_parts hg
  have hnb := name_bytes hg
  have h1 : ∀ j, j < g.name.size -> ∃ b, e[j]? = some b /\ b ≠ 0 := fun j hj => by
    obtain ⟨b, hb⟩ := at_k (l := g.name.data.toList) (k := j) (by rw [size_list]; exact hj)
    refine ⟨b, ?_, hnb b (List.mem_of_getElem? hb)⟩
    rw [← he]; unfold fieldS
    rw [List.append_assoc, List.getElem?_append_left (by rw [size_list]; exact hj)]; exact hb
  have h2 : g.name.size < 10 -> e[g.name.size]? = some 0 := fun h => by
    rw [← he]; unfold fieldS
    rw [List.append_assoc, List.getElem?_append_right (by rw [size_list]; exact Nat.le_refl _), size_list, Nat.sub_self, List.getElem?_append_left (by rw [List.length_replicate]; omega), List.getElem?_replicate, if_pos (by omega)]
  rcases Nat.lt_trichotomy n g.name.size with h | h | h
  · obtain ⟨b, hb, hb0⟩ := h1 n h
    rw [hend (by omega)] at hb
    exact absurd (Option.some.inj hb).symm hb0
  · exact h
  · exact absurd rfl (hpre g.name.size 0 h (h2 (by omega)))
theorem rRead_c {w : World} {s : SV} {d : List UInt8} (hb : ByV w s d) (hd : d.length <= 1000000000) : Calls Tryz.prog 42 #[.slice s.a s.len s.cap] w (ReadR w d) := by
  have hsl := hb.len
  have hsc := hb.cap
  refine F42_calls _ w _ (alB fun w1 hp1 hb1 => ?_)
  have lt1 : w.heap.size < w1.heap.size := blk_lt hb1
  have hlong : ∀ u, validT u = 0 -> bytesS u = d -> 14 <= d.length /\ d.length <= 2400000 := fun u hv hu => by
    have ho := Okay.of hv
    have h1 := bytes_len ho hu
    have hf : 0 < u.fields.length := List.length_pos_iff.2 ho.ne
    have hw0 : 0 <= wide u.fields := by have := sum_le (WOk.of ho.all); unfold wide; omega
    have h2 : 0 <= (u.recs.length : Int) * wide u.fields := Int.mul_nonneg (by omega) hw0
    have h3 : (u.recs.length : Int) * wide u.fields <= 300 * 2000 := Int.mul_le_mul (by have := ho.m300; omega) ho.w2 hw0 (by omega)
    have := ho.n16
    omega
  refine Br.of (fun q => zeroT_c hb1 hp1 (Nat.le_refl _) fun u hv hu => by have := hlong u hv hu; have := dtrue q; omega) (fun q => Br.of (fun q2 => zeroT_c hb1 hp1 (Nat.le_refl _) fun u hv hu => by have := hlong u hv hu; have := dtrue q2; omega) (fun q2 => ?_))
  have h14 : 14 <= d.length := by have := dfalse q; omega
  have hbig : d.length <= 2400000 := by have := dfalse q2; omega
  clear q q2
  obtain ⟨b1, e1⟩ := at_k (l := d) (k := 1) (by omega)
  obtain ⟨b10, e10⟩ := at_k (l := d) (k := 10) (by omega)
  obtain ⟨a1, ha1, hc1⟩ := (hb.pu hp1).get _ _ e1
  have n1 := b1.toNat_lt
  have n10 := b10.toNat_lt
  refine ⟨a1, ha1, by omega, by omega, _, hc1, ?_⟩
  rw [wrap_in (n := ((b1.toNat : Nat) : Int)) (by omega) (by omega)]
  refine boxA rfl s35.symm rfl fun w2 hp2 hs2 hb2 => dwE_intro fun w4 hp4 _ => ?_
  have hp02 := hp1.trans hp2
  have lt2 : w1.heap.size < w2.heap.size := blk_lt hb2
  have st4 : TblSt w w2 w.heap.size w1.heap.size ⟨((b1.toNat : Nat) : Int), [], []⟩ w4 := (⟨⟨⟨none, 0, 0⟩, ⟨none, 0, 0⟩, hb2, ⟨NewF.nil w2 w2, NewR.nil w2 w2⟩⟩, hp2.blk hb1, Nat.le_refl _, hp02, by omega, lt2, by omega, Nat.le_refl _, by omega⟩ : TblSt w w2 w.heap.size w1.heap.size ⟨((b1.toNat : Nat) : Int), [], []⟩ w2).on hp4
  have no : ∀ {t : Tbl} {w' : World}, TblSt w w2 w.heap.size w1.heap.size t w' -> (∀ u, validT u = 0 -> bytesS u = d -> False) -> zeroT (ReadR w d) w.heap.size w' := fun st h => zeroT_c st.b2 st.pu (Nat.le_refl _) h
  obtain ⟨a10, ha10, hc10⟩ := (hb.pu st4.pu).get _ _ e10
  have hnum := (hb.pu st4.pu).sub (lo := 2) (hi := 6) (by omega) (by omega)
  have hd4 : ((d.drop 2).take (6 - 2)).length = 4 := by rw [List.length_take, List.length_drop]; omega
  refine ⟨fun u => Pu w4 u, Pu.refl _, by omega, by show 6 <= _; omega, by omega, by decide, a10, ha10, by omega, by omega, _, fun u hu => hu.cell hc10, (rNumber_c hnum hd4).mono ?_⟩
  rintro e w5 ⟨rfl, hp5⟩
  have st5 := st4.on hp5
  have hcl := numN_lt ((d.drop 2).take (6 - 2))
  rw [hd4] at hcl
  obtain ⟨cnt, hcnt⟩ : ∃ cnt, cnt = numN ((d.drop 2).take (6 - 2)) := ⟨_, rfl⟩
  rw [← hcnt] at hcl ⊢
  have hcl : cnt < 4294967296 := hcl
  refine ⟨_, rfl, hp5, ?_⟩
  rw [wrap_in (n := ((b10.toNat : Nat) : Int)) (by omega) (by omega)]
  have hrl : ∀ u, validT u = 0 -> bytesS u = d -> u.recs.length = cnt := fun u hv hu => by
    have h1 := (bytes_at hu).2.2.1
    have h2 := (Okay.of hv).m300
    rw [hcnt, show 6 - 2 = 4 from rfl, h1, numN_low (by omega)]
  have pg : In64 ((b1.toNat : Nat) : Int) := ⟨by omega, by omega⟩
  have pgu : ∀ u, validT u = 0 -> bytesS u = d -> u.page = ((b1.toNat : Nat) : Int) /\ u.fields.length = b10.toNat := fun u hv hu => by
    have ho := Okay.of hv
    obtain ⟨_, h1, _, h2⟩ := bytes_at hu
    rw [e1] at h1; rw [e10] at h2
    have h1 := Option.some.inj h1
    have h2 := Option.some.inj h2
    have hpg := ho.page
    unfold pageB at hpg
    simp only [Bool.and_eq_true, decide_eq_true_eq] at hpg
    have h16 := ho.n16
    have e1 := byteI_in (n := u.page) (by omega)
    have e2 := byteI_in (n := ((u.fields.length : Nat) : Int)) (by omega)
    rw [h1, h2]; omega
  have hbegu : ∀ u, validT u = 0 -> bytesS u = d -> 13 + 16 * b10.toNat <= d.length := fun u hv hu => by
    have h1 := bytes_len (Okay.of hv) hu
    have h2 := (pgu u hv hu).2
    have hw0 : 0 <= wide u.fields := by have := sum_le (WOk.of (Okay.of hv).all); unfold wide; omega
    have h3 : 0 <= (u.recs.length : Int) * wide u.fields := Int.mul_nonneg (by omega) hw0
    omega
  refine loopUp b10.toNat (fun k t w' => t.1 = ((12 + 16 * k : Nat) : Int) /\ t.2 = (k : Int) /\ ∃ fs : List Fld, fs.length = k /\ F64 fs /\ (∀ f ∈ fs, f.name.size <= 10) /\ TblSt w w2 w.heap.size w1.heap.size ⟨((b1.toNat : Nat) : Int), fs, []⟩ w' /\ 12 + 16 * k <= d.length /\ ∀ u, validT u = 0 -> bytesS u = d -> fs = u.fields.take k) ⟨rfl, rfl, [], rfl, fun f hf => by simp at hf, fun f hf => by simp at hf, st5, by omega, fun u _ _ => by simp⟩ ?_
  rintro k J ⟨t1, t2⟩ w6 hk ⟨ht1, ht2, fs, hfl, hf64, hfn, st, hkd, hcond⟩ hJ
  obtain rfl : t1 = ((12 + 16 * k : Nat) : Int) := ht1
  obtain rfl : t2 = (k : Int) := ht2
  dsimp only
  refine Br.of (fun q => ?_) (fun q => ?_)
  · have hk2 : k < b10.toNat := by have := dtrue q; omega
    unfold F42_12 F42_11
    rw [wrap_in (n := ((12 + 16 * k : Nat) : Int) + 16) (by omega) (by omega)]
    refine Br.of (fun q1 => no st fun u hv hu => by have := hbegu u hv hu; have := dtrue q1; omega) (fun q1 => ?_)
    have hroom : 28 + 16 * k <= d.length := by have := dfalse q1; omega
    clear q1
    have hent : ∀ {j : Nat}, j < 16 -> ((d.drop (12 + 16 * k)).take 16)[j]? = d[12 + 16 * k + j]? := fun {j} hj => by rw [List.getElem?_take, if_pos hj, List.getElem?_drop]
    -- behind the name
    have fld : ∀ {n : Nat} {wz : World}, n <= 10 -> TblSt w w2 w.heap.size w1.heap.size ⟨((b1.toNat : Nat) : Int), fs, []⟩ wz -> (∀ j b, j < n -> d[12 + 16 * k + j]? = some b -> b ≠ 0) -> (n < 10 -> d[12 + 16 * k + n]? = some 0) ->
        F42_7 (ReadR w d) J s (some ⟨w.heap.size, 0, none⟩) (some ⟨w1.heap.size, 0, none⟩) (cnt : Int) ((b10.toNat : Nat) : Int) ((12 + 16 * k : Nat) : Int) (k : Int) (n : Int) [] wz := fun {n wz} hn stz hpre hend => by
      refine dwE_intro fun w7 hp7 _ => ?_
      have st7 := stz.on hp7
      obtain ⟨f, qr, h4, ho⟩ := st7.ex
      obtain ⟨x10, hx10⟩ := at_k (l := d) (k := 12 + 16 * k + 10) (by omega)
      obtain ⟨x11, hx11⟩ := at_k (l := d) (k := 12 + 16 * k + 11) (by omega)
      obtain ⟨x12, hx12⟩ := at_k (l := d) (k := 12 + 16 * k + 12) (by omega)
      have l11 := x11.toNat_lt
      obtain ⟨p10, hp10, hc10⟩ := (hb.pu st7.pu).get _ _ hx10
      obtain ⟨p11, hp11, hc11⟩ := (hb.pu st7.pu).get _ _ hx11
      obtain ⟨p12, hp12, hc12⟩ := (hb.pu st7.pu).get _ _ hx12
      refine ⟨fun u => Pu w7 u, Pu.refl _, f, fun u hu => cl (hu.blk h4) 1, ?_⟩
      rw [wrap_in (n := ((12 + 16 * k : Nat) : Int) + (n : Int)) (by omega) (by omega), wrap_in (n := ((12 + 16 * k : Nat) : Int) + 10) (by omega) (by omega), wrap_in (n := ((12 + 16 * k : Nat) : Int) + 11) (by omega) (by omega), wrap_in (n := ((12 + 16 * k : Nat) : Int) + 12) (by omega) (by omega), wrap_in (n := ((12 + 16 * k : Nat) : Int) + 16) (by omega) (by omega)]
      rw [show (((12 + 16 * k : Nat) : Int) + (n : Int)).toNat = 12 + 16 * k + n by omega, show (((12 + 16 * k : Nat) : Int) + 10).toNat = 12 + 16 * k + 10 by omega, show (((12 + 16 * k : Nat) : Int) + 11).toNat = 12 + 16 * k + 11 by omega, show (((12 + 16 * k : Nat) : Int) + 12).toNat = 12 + 16 * k + 12 by omega, Int.toNat_natCast]
      have conv : ∀ {wy}, Pu w7 wy -> (convert 37 9 (.slice (if s.cap = 12 + 16 * k then s.a else s.a.map (fun x => x.add ((12 + 16 * k) * 1))) (12 + 16 * k + n - (12 + 16 * k)) (s.cap - (12 + 16 * k)))).run Tryz.prog wy = .ok (.string (bs ((d.drop (12 + 16 * k)).take n))) wy := fun {wy} hy => by
        have h1 := (hb.pu (st7.pu.trans hy)).sub (lo := 12 + 16 * k) (hi := 12 + 16 * k + n) (by omega) (by omega)
        rw [show (d.drop (12 + 16 * k)).take (12 + 16 * k + n - (12 + 16 * k)) = (d.drop (12 + 16 * k)).take n by rw [Nat.add_sub_cancel_left]] at h1
        exact conv_by h1
      -- behind the kind
      have put : ∀ {wy : World} {kd : Int}, Pu w7 wy -> 0 <= kd -> kd <= 5 -> (∀ g, fieldB g = true -> x10 = letterB g.kind -> kd = g.kind) ->
          alE (.cells #[.string (bs ((d.drop (12 + 16 * k)).take n)), .int .i64 kd, .int .i64 (IntKind.i64.wrap ((x11.toNat : Nat) : Int)), .bool (((x12.toNat : Nat) : Int) == 1)] 23) wy fun r86 w53 => Pu w7 w53 /\
          ∃ l87 : SV, ∃ w54 : World, (Builtin.append_ #[32, 32] 32 #[.slice f.a f.len f.cap, .slice (some ⟨r86, 0, none⟩) 1 1]).run Tryz.prog w53 = .ok (.slice l87.a l87.len l87.cap) w54 /\
          ptrE (some (⟨w1.heap.size, 0, none⟩ : Addr)) fun a55 => st1 (a55.add 1) (.slice l87.a l87.len l87.cap) w54 fun w56 => J (((12 + 16 * k : Nat) : Int) + 16, IntKind.i64.wrap ((k : Int) + 1)) w56 := fun {wy kd} hy k1 k2 hkind => by
        rw [wrap_in (n := ((x11.toNat : Nat) : Int)) (by omega) (by omega), wrap_in (n := (k : Int) + 1) (by omega) (by omega)]
        refine alB fun w8 hp8 hb8 => ⟨hy.trans hp8, ?_⟩
        have st8 := (st7.on hy).on hp8
        obtain ⟨f', w9, e9, hK⟩ := st8.putF (x := ⟨bs ((d.drop (12 + 16 * k)).take n), kd, ((x11.toNat : Nat) : Int), ((x12.toNat : Nat) : Int) == 1⟩) ((hy.trans hp8).blk h4) (ho.pu (hy.trans hp8)) hb8 (by show fs.length <= _; omega)
        refine ⟨f', w9, e9, hK _ fun w10 st10 => hJ _ _ hk2 ⟨by dsimp only; omega, by dsimp only; omega, fs ++ [_], by simp [hfl], fun y hy => ?_, fun y hy => ?_, st10, by omega, fun u hv hu => ?_⟩⟩
        · rcases List.mem_append.1 hy with hy | hy
          · exact hf64 y hy
          · simp at hy; subst hy; exact ⟨⟨by dsimp only; omega, by dsimp only; omega⟩, ⟨by dsimp only; omega, by dsimp only; omega⟩⟩
        · rcases List.mem_append.1 hy with hy | hy
          · exact hfn y hy
          · simp at hy; subst hy; show (bs _).size <= 10; rw [bs_size, List.length_take]; omega
        · obtain ⟨g, hg⟩ := at_k (l := u.fields) (k := k) (by have := (pgu u hv hu).2; omega)
          have ho2 := Okay.of hv
          have hgB := List.all_eq_true.1 ho2.all g (List.mem_of_getElem? hg)
          have he := bytes_field ho2 hu hg
          obtain ⟨q1, q2, q3, q4⟩ := entry_parts hgB he.symm
          rw [hent (by omega)] at q2 q3 q4
          rw [hx10] at q2; rw [hx11] at q3; rw [hx12] at q4
          have q2 := Option.some.inj q2
          have q3 := Option.some.inj q3
          have q4 := Option.some.inj q4
          have hwf := field_width hgB
          have hnm : n = g.name.size := name_end hgB he.symm hn (fun j b hj hbj => hpre j b hj (by rw [← hent (by omega)]; exact hbj)) (fun hlt => by rw [hent (by omega)]; exact hend hlt)
          have hname : (d.drop (12 + 16 * k)).take n = g.name.data.toList := by
            have h1 : ((d.drop (12 + 16 * k)).take 16).take 10 = g.name.data.toList ++ List.replicate (10 - g.name.size) 0 := q1
            have h2 : (((d.drop (12 + 16 * k)).take 16).take 10).take n = (d.drop (12 + 16 * k)).take n := by rw [List.take_take, List.take_take, show min (min n 10) 16 = n by omega]
            rw [← h2, h1, hnm, List.take_append_of_le_length (by rw [size_list]; exact Nat.le_refl _), List.take_of_length_le (by rw [size_list]; exact Nat.le_refl _)]
          have hkd := hkind g hgB q2
          rw [take_at hg, ← hcond u hv hu]
          congr 2
          obtain ⟨gn, gk, gw, gnl⟩ := g
          simp only at *
          congr 1
          · rw [hname, list_bs]
          · rw [q3]; exact byteI_in (by omega)
          · rw [q4]; cases gnl <;> decide
      refine ⟨by omega, by omega, by omega, by omega, p10, hp10, by omega, by omega, _, fun u hu => hu.cell hc10, p11, hp11, by omega, by omega, _, fun u hu => hu.cell hc11, p12, hp12, by omega, by omega, _, fun u hu => hu.cell hc12, ⟨bs ((d.drop (12 + 16 * k)).take n), w7, conv (Pu.refl _), Pu.refl _, (rKindOf_c x10 w7).mono ?_⟩, (rKindOf_c x10 w7).mono ?_⟩
      · rintro e w8 ⟨kd, rfl, k1, k2, hp8, hkind⟩
        exact ⟨kd, rfl, hp8, put hp8 k1 k2 hkind⟩
      · rintro e w8 ⟨kd, rfl, k1, k2, hp8, hkind⟩
        exact ⟨kd, rfl, hp8, bs ((d.drop (12 + 16 * k)).take n), w8, conv hp8, hp8, put hp8 k1 k2 hkind⟩
    refine loopUp 10 (fun n t w' => t = (n : Int) /\ TblSt w w2 w.heap.size w1.heap.size ⟨((b1.toNat : Nat) : Int), fs, []⟩ w' /\ ∀ j b, j < n -> d[12 + 16 * k + j]? = some b -> b ≠ 0) ⟨rfl, st, fun j b hj => by omega⟩ ?_
    rintro n J2 t w7 hn ⟨ht, st7, hpre⟩ hJ2
    obtain rfl : t = (n : Int) := ht
    refine Br.of (fun q1 => ?_) (fun q1 => fld hn st7 hpre fun h => by have := dfalse q1; omega)
    have hn2 : n < 10 := by have := dtrue q1; omega
    obtain ⟨y, hy⟩ := at_k (l := d) (k := 12 + 16 * k + n) (by omega)
    obtain ⟨p, hpa, hc⟩ := (hb.pu st7.pu).get _ _ hy
    rw [wrap_in (n := ((12 + 16 * k : Nat) : Int) + (n : Int)) (by omega) (by omega)]
    refine ⟨p, hpa, by omega, by omega, _, by rw [show (((12 + 16 * k : Nat) : Int) + (n : Int)).toNat = 12 + 16 * k + n by omega]; exact hc, Br.of (fun q2 => ?_) (fun q2 => fld hn st7 hpre fun _ => ?_)⟩
    · rw [wrap_in (by omega) (by omega)]
      refine hJ2 _ _ hn2 ⟨by omega, st7, fun j b hj hbj => ?_⟩
      rcases Nat.lt_or_ge j n with h | h
      · exact hpre j b h hbj
      · have : j = n := by omega
        subst this
        rw [hy] at hbj
        have := Option.some.inj hbj
        subst this
        intro e; subst e; exact bntrue q2 rfl
    · have : y = 0 := by apply UInt8.toNat_inj.1; have := bnfalse q2; show y.toNat = 0; omega
      rw [hy, this]
  have hk2 : k = b10.toNat := by have := dfalse q; omega
  subst hk2
  clear hJ J q
  have hfs : ∀ u, validT u = 0 -> bytesS u = d -> fs = u.fields := fun u hv hu => by
    rw [hcond u hv hu, List.take_of_length_le (by have := (pgu u hv hu).2; omega)]
  have nice1 : Nice ⟨((b1.toNat : Nat) : Int), fs, []⟩ := ⟨pg, hf64, fun r hr => by simp at hr, by show fs.length <= _; omega, by simp, hfn⟩
  obtain ⟨f, qr, h4, ho⟩ := st.ex
  refine ⟨f, cl h4 1, (rValidFields_c (ho.rd nice1).fields).mono ?_⟩
  rintro e w7 ⟨rfl, hp7⟩
  have st7 := st.on hp7
  refine ⟨_, rfl, Br.of (fun q => no st7 fun u hv hu => ?_) (fun q => Br.of (fun q1 => no st7 fun u hv hu => by have := hrl u hv hu; have := (Okay.of hv).m300; have := dtrue q1; omega) (fun q1 => ?_))⟩
  · have := (Okay.of hv).vf
    rw [← hfs u hv hu] at this
    exact bntrue q this
  have hvf : validF fs = 0 := bnfalse q
  have hc300 : cnt <= 300 := by have := dfalse q1; omega
  clear q q1
  obtain ⟨_, hall, _, h16, hw2⟩ := validF_ok hvf
  have hwok := WOk.of hall
  have hwide : 1 <= wide fs := by have := sum_le hwok; unfold wide; omega
  refine ⟨f, cl (hp7.blk h4) 1, (rWide_c ((ho.pu hp7).rd nice1).fields hwok).mono ?_⟩
  rintro e w8 ⟨rfl, hp8⟩
  have st8 := st7.on hp8
  obtain ⟨W, hW⟩ : ∃ W : Nat, wide fs = (W : Int) := ⟨(wide fs).toNat, by omega⟩
  have hWl : W <= 2000 := by omega
  have hWc : W * cnt <= 600000 := Nat.mul_le_mul hWl hc300
  have eWc : (cnt : Int) * (W : Int) = ((W * cnt : Nat) : Int) := by rw [Int.mul_comm]; omega
  rw [hW]
  refine ⟨_, rfl, ?_⟩
  rw [eWc, wrap_in (n := ((12 + 16 * b10.toNat : Nat) : Int) + 1) (by omega) (by omega), wrap_in (n := ((W * cnt : Nat) : Int)) (by omega) (by omega), wrap_in (n := ((12 + 16 * b10.toNat : Nat) : Int) + 1 + ((W * cnt : Nat) : Int)) (by omega) (by omega), wrap_in (n := ((12 + 16 * b10.toNat : Nat) : Int) + 1 + ((W * cnt : Nat) : Int) + 1) (by omega) (by omega)]
  refine Br.of (fun q => no st8 fun u hv hu => ?_) (fun q => ?_)
  · have h1 := bytes_len (Okay.of hv) hu
    have h2 := (pgu u hv hu).2
    rw [← hfs u hv hu, hW, hrl u hv hu] at h1
    rw [← hfs u hv hu] at h2
    have := bntrue q
    omega
  have hdl : d.length = 13 + 16 * b10.toNat + W * cnt + 1 := by have := bnfalse q; omega
  clear q
  refine loopUp cnt (fun k t w' => t.1 = ((13 + 16 * b10.toNat + W * k : Nat) : Int) /\ t.2 = (k : Int) /\ ∃ rs : List Rec, rs.length = k /\ R64 rs /\ TblSt w w2 w.heap.size w1.heap.size ⟨((b1.toNat : Nat) : Int), fs, rs⟩ w' /\ ∀ u, validT u = 0 -> bytesS u = d -> rs = u.recs.take k) ⟨by dsimp only; omega, rfl, [], rfl, fun r hr => by simp at hr, st8, fun u _ _ => by simp⟩ ?_
  rintro k J ⟨t1, t2⟩ w11 hk ⟨ht1, ht2, rs, hrn, hr64, st11, hrc⟩ hJ
  obtain rfl : t1 = ((13 + 16 * b10.toNat + W * k : Nat) : Int) := ht1
  obtain rfl : t2 = (k : Int) := ht2
  have nice2 : Nice ⟨((b1.toNat : Nat) : Int), fs, rs⟩ := ⟨pg, hf64, hr64, by show fs.length <= _; omega, by show rs.length <= _; omega, hfn⟩
  dsimp only
  refine Br.of (fun q => dwE_intro fun w12 hp12 _ => ?_) (fun q => ?_)
  · have hk2 : k < cnt := by have := dtrue q; omega
    have st12 := st11.on hp12
    obtain ⟨f, qr, h4, ho⟩ := st12.ex
    have hWk : W * k + W <= W * cnt := by rw [← Nat.mul_succ]; exact Nat.mul_le_mul_left W hk2
    refine ⟨fun u => Pu w12 u, Pu.refl _, qr, fun u hu => cl (hu.blk h4) 2, f, fun u hu => cl (hu.blk h4) 1, f, fun u hu => cl (hu.blk h4) 1, (rWide_c (ho.rd nice2).fields hwok).mono ?_⟩
    rintro e w13 ⟨rfl, hp13⟩
    rw [hW]
    refine ⟨_, rfl, hp13, ?_⟩
    rw [wrap_in (n := ((13 + 16 * b10.toNat + W * k : Nat) : Int) + (W : Int)) (by omega) (by omega), show (((13 + 16 * b10.toNat + W * k : Nat) : Int) + (W : Int)).toNat = 13 + 16 * b10.toNat + W * k + W by omega, Int.toNat_natCast]
    have hpart : ByV w13 ⟨if s.cap = 13 + 16 * b10.toNat + W * k then s.a else s.a.map (fun x => x.add ((13 + 16 * b10.toNat + W * k) * 1)), 13 + 16 * b10.toNat + W * k + W - (13 + 16 * b10.toNat + W * k), s.cap - (13 + 16 * b10.toNat + W * k)⟩ ((d.drop (13 + 16 * b10.toNat + W * k)).take W) := by
      have := (hb.pu (st12.pu.trans hp13)).sub (lo := 13 + 16 * b10.toNat + W * k) (hi := 13 + 16 * b10.toNat + W * k + W) (by omega) (by omega)
      rw [show (d.drop (13 + 16 * b10.toNat + W * k)).take (13 + 16 * b10.toNat + W * k + W - (13 + 16 * b10.toNat + W * k)) = (d.drop (13 + 16 * b10.toNat + W * k)).take W by rw [Nat.add_sub_cancel_left]] at this
      exact this
    have hplen : (((d.drop (13 + 16 * b10.toNat + W * k)).take W).length : Int) = wide fs := by rw [List.length_take, List.length_drop, hW]; omega
    refine ⟨by omega, by omega, by omega, by omega, (rReadRow_c ((ho.pu hp13).rd nice2).fields hall h16 hpart hplen).mono ?_⟩
    rintro e w14 ⟨g, vs, qv, rfl, v1, v2, v3, hp14, v4⟩
    have v2 : vs.length = fs.length := v2
    have hp1214 := hp13.trans hp14
    refine ⟨g, qv, rfl, hp1214, alB fun w15 hp15 hb15 => ⟨hp1214.trans hp15, ?_⟩⟩
    have st15 := (st12.on hp1214).on hp15
    obtain ⟨q', w16, e16, hK⟩ := st15.putR ((hp1214.trans hp15).blk h4) (ho.pu (hp1214.trans hp15)) ((v1.pu hp15).low (by have := st12.sz; have := hp13.size; omega)) hb15 (by show rs.length <= _; omega)
    refine ⟨q', w16, e16, ?_⟩
    rw [ptrE_some]
    refine hK _ fun w17 st17 => ?_
    have r64' : R64 (rs ++ [⟨g, vs⟩]) := fun y hy => by
      rcases List.mem_append.1 hy with hy | hy
      · exact hr64 y hy
      · simp at hy; subst hy; exact ⟨v3, by show vs.length <= _; omega⟩
    have nice3 : Nice ⟨((b1.toNat : Nat) : Int), fs, rs ++ [⟨g, vs⟩]⟩ := ⟨pg, hf64, r64', by show fs.length <= _; omega, by show (rs ++ [_]).length <= _; simp; omega, hfn⟩
    obtain ⟨f2, qr2, h42, ho2⟩ := st17.ex
    refine ⟨f2, cl h42 1, (rWide_c (ho2.rd nice3).fields hwok).mono ?_⟩
    rintro e w18 ⟨rfl, hp18⟩
    rw [hW]
    refine ⟨_, rfl, ?_⟩
    rw [wrap_in (n := ((13 + 16 * b10.toNat + W * k : Nat) : Int) + (W : Int)) (by omega) (by omega), wrap_in (n := (k : Int) + 1) (by omega) (by omega)]
    refine hJ _ _ hk2 ⟨by dsimp only; rw [Nat.mul_succ]; omega, by dsimp only; omega, rs ++ [⟨g, vs⟩], by simp [hrn], r64', st17.on hp18, fun u hv hu => ?_⟩
    obtain ⟨r, hr⟩ := at_k (l := u.recs) (k := k) (by have := hrl u hv hu; omega)
    have hou := Okay.of hv
    have h1 := bytes_row hou hu hr
    have h2 := (pgu u hv hu).2
    have h3 := hfs u hv hu
    rw [h2, ← h3, hW, Int.toNat_natCast] at h1
    obtain ⟨c1, c2⟩ := v4 r u.page (by rw [h3]; exact hou.recs r (List.mem_of_getElem? hr)) h1.symm
    rw [take_at hr, ← hrc u hv hu, c1, c2]
  · have hk2 : k = cnt := by have := dfalse q; omega
    subst hk2
    clear hJ J q
    have huniq : ∀ u, validT u = 0 -> bytesS u = d -> (⟨((b1.toNat : Nat) : Int), fs, rs⟩ : Tbl) = u := fun u hv hu => by
      have h1 := hrc u hv hu
      rw [List.take_of_length_le (by have := hrl u hv hu; omega)] at h1
      rw [h1, hfs u hv hu, ← (pgu u hv hu).1]
    obtain ⟨f, qr, h4, ho⟩ := st11.ex
    refine ⟨_, cl h4 0, f, cl h4 1, qr, cl h4 2, (rBytes_c (ho.rd nice2)).mono ?_⟩
    rintro e w12 ⟨o, rfl, ho12, hp12⟩
    have st12 := st11.on hp12
    refine ⟨o, _, rfl, Br.of (fun q => no st12 fun u hv hu => ?_) (fun q => ?_)⟩
    · rw [huniq u hv hu] at q; exact bntrue q hv
    have hv0 : validT ⟨((b1.toNat : Nat) : Int), fs, rs⟩ = 0 := bnfalse q
    have hbo : bytesOut ⟨((b1.toNat : Nat) : Int), fs, rs⟩ = bytesS ⟨((b1.toNat : Nat) : Int), fs, rs⟩ := by unfold bytesOut; rw [if_pos hv0]
    rw [hbo] at ho12
    refine ⟨_, w12, conv_str ho12, _, w12, conv_by (hb.pu st12.pu), ?_⟩
    rw [toList_beq]
    refine Br.of (fun q1 => no st12 fun u hv hu => ?_) (fun q1 => ?_)
    · rw [huniq u hv hu, hu] at q1; simp at q1
    have hbt : bytesS ⟨((b1.toNat : Nat) : Int), fs, rs⟩ = d := by
      have h1 : bs (bytesS ⟨((b1.toNat : Nat) : Int), fs, rs⟩) = bs d := by simpa using q1
      rw [← bs_list (bytesS _), h1, bs_list]
    exact copyT_c st12.b2 (hp12.blk h4) (ho.pu hp12) nice2 st12.pu (Nat.le_refl _) st12.l2 hp02.size (.inl ⟨rfl, hv0, hbt, huniq⟩)
end Go.Proofs.YtecmfdfhpldmmaaGreatDoor

/- Table: the laws on the reading of bytes. No condition. -/
set_option maxRecDepth 100000
set_option maxHeartbeats 1000000
set_option linter.unusedVariables false
set_option linter.unusedSimpArgs false
namespace Go.Proofs.YtecmfdfhpldmmaaGreatDoor
open Go.Sh Go.RowKit
theorem tbl_eq {a b : Tbl} : (a = b) ↔ (a.page = b.page /\ a.fields = b.fields /\ a.recs = b.recs) := by
  obtain ⟨a1, a2, a3⟩ := a; obtain ⟨b1, b2, b3⟩ := b; simp
theorem sameT_c {w : World} {a b : Tbl} {fa ra fb rb : SV} (ha : RdTbl w a fa ra) (hb : RdTbl w b fb rb) : Calls Tryz.prog 43 #[tblA a fa ra, tblA b fb rb] w fun e w' => e = .returned (.bool (decide (a = b))) /\ Pu w w' := by
  refine F43_calls _ _ _ _ _ _ w _ (alB fun w1 hp1 hb1 => alB fun w2 hp2 hb2 => ?_)
  have hp02 := hp1.trans hp2
  have b1 : ∀ {wz}, Pu w2 wz -> _ := fun {wz} (h : Pu w2 wz) => tbl_blk (t := a) (f := fa) (q := ra) (h.blk (hp2.blk hb1))
  have b2 : ∀ {wz}, Pu w2 wz -> _ := fun {wz} (h : Pu w2 wz) => tbl_blk (t := b) (f := fb) (q := rb) (h.blk hb2)
  have c1 := (b1 (Pu.refl _)).1
  have c2 := (b2 (Pu.refl _)).1
  rw [add0] at c1 c2
  have no : ∀ {w' : World}, Pu w2 w' -> a ≠ b -> (Ending.returned (.bool false) = .returned (.bool (decide (a = b))) /\ Pu w w') := fun h hne => ⟨by rw [decide_eq_false hne], hp02.trans h⟩
  refine ⟨_, c1, _, c2, Br.of (fun d => no (Pu.refl _) fun e => bntrue d (by rw [e])) (fun d => ⟨_, (b1 (Pu.refl _)).2.1, _, (b2 (Pu.refl _)).2.1, (sameFields_c (RdF.of (ha.fields.pu hp02)) (RdF.of (hb.fields.pu hp02))).mono ?_⟩)⟩
  have hpg := bnfalse d
  rintro e w3 ⟨rfl, hp3⟩
  refine ⟨_, rfl, Br.of (fun d1 => no hp3 fun e => by rw [e] at d1; simp at d1) (fun d1 => ⟨_, (b1 hp3).2.2, _, (b2 hp3).2.2, ?_⟩)⟩
  have hfl : a.fields = b.fields := by simpa using d1
  have hla := ha.recs.len
  have hlb := hb.recs.len
  have hlm := ha.recs.lim
  refine Br.of (fun d2 => no hp3 fun e => bntrue d2 (by rw [hla, hlb, e])) (fun d2 => ?_)
  have hlen : a.recs.length = b.recs.length := by have := bnfalse d2; omega
  refine loopUp a.recs.length (fun k t w' => t = (k : Int) /\ a.recs.take k = b.recs.take k /\ Pu w2 w') ⟨rfl, by simp, hp3⟩ ?_
  rintro k J t w4 hk ⟨ht, he, hp⟩ hJ
  obtain rfl : t = (k : Int) := ht
  refine ⟨_, (b1 hp).2.2, Br.of (fun d3 => dwE_intro fun w5 hp5 _ => ?_) (fun d3 => ?_)⟩
  · have hk2 : k < a.recs.length := by have := dtrue d3; omega
    have p5 := hp.trans hp5
    obtain ⟨x, hx⟩ := at_k hk2
    obtain ⟨y, hy⟩ := at_k (show k < b.recs.length by omega)
    obtain ⟨p, sx, hpa, _, vx, x0, x1⟩ := recAt (ha.recs.pu (hp02.trans p5)) hx
    obtain ⟨q, sy, hqa, _, vy, y0, y1⟩ := recAt (hb.recs.pu (hp02.trans p5)) hy
    refine ⟨_, (b1 p5).2.2, p, hpa, by omega, by omega, _, x0, _, x1, _, (b2 p5).2.2, q, hqa, by omega, by omega, _, y0, _, y1, (sameRecord_c (RdV.of vx) (RdV.of vy)).mono ?_⟩
    rintro e w6 ⟨rfl, hp6⟩
    refine ⟨_, rfl, Br.of (fun d4 => no (p5.trans hp6) fun e => ?_) (fun d4 => ?_)⟩
    · have : x = y := by rw [e] at hx; rw [hx] at hy; exact Option.some.inj hy
      subst this
      simp at d4
    · rw [wrap_in (by omega) (by omega)]
      have hxy : x = y := by
        rw [rec_eq]
        simpa using d4
      exact hJ _ _ hk2 ⟨by omega, eq_of_take he hx hy hxy, p5.trans hp6⟩
  · have hk2 : k = a.recs.length := by have := dfalse d3; omega
    subst hk2
    rw [List.take_length, hlen, List.take_length] at he
    exact ⟨by rw [decide_eq_true (tbl_eq.2 ⟨hpg, hfl, he⟩)], hp02.trans hp⟩
theorem readOut_same {d : List UInt8} {t t' : Tbl} {c c' : Int} (h : ReadOut d t c) (h' : ReadOut d t' c') : t = t' /\ c = c' := by
  rcases h with ⟨h1, h2, h3, h4⟩ | ⟨h1, h2, h3⟩
  · rcases h' with ⟨k1, k2, k3, k4⟩ | ⟨k1, k2, k3⟩
    · exact ⟨h4 t' k2 k3, by rw [h1, k1]⟩
    · exact absurd h3 (k3 t h2)
  · rcases h' with ⟨k1, k2, k3, k4⟩ | ⟨k1, k2, k3⟩
    · exact absurd k3 (h3 t' k2)
    · exact ⟨by rw [h2, k2], by rw [h1, k1]⟩
theorem tableReads_c (w : World) (s : SV) (d : List UInt8) (h : RdSl w s d) (_ : Lim.ok d) : Calls Tryz.prog 8 #[.slice s.a s.len s.cap] w fun e w' => e = .returned (.bool true) /\ Pu w w' := by
  have hb := ByV.of h
  have hl := hb.len
  refine F8_calls _ w _ (Br.of (fun _ => (known_c w).mono ?_) (fun q => ?_))
  · rintro e w1 ⟨rfl, hp1⟩; exact ⟨_, rfl, rfl, hp1⟩
  have hd : d.length <= 1000000000 := by have := dfalse q; omega
  refine (read_c hb hd).mono ?_
  rintro e w1 ⟨t, f, r, c, rfl, ho, hn, hp1, hout⟩
  refine ⟨_, f, r, c, rfl, boxA rfl s35.symm rfl fun w2 hp2 hs2 hb2 => (rRead_c (hb.pu (hp1.trans hp2)) hd).mono ?_⟩
  rintro e w3 ⟨t', f', r', c', rfl, ho', hn', hp3, hout'⟩
  refine ⟨_, f', r', c', rfl, boxA rfl s35.symm rfl fun w4 hp4 hs4 hb4 => ?_⟩
  have b2 := (hp3.trans hp4).blk hb2
  refine ⟨_, cl b2 0, f, cl b2 1, r, cl b2 2, _, cl hb4 0, f', cl hb4 1, r', cl hb4 2, (sameT_c ((ho.pu ((hp2.trans hp3).trans hp4)).rd hn) ((ho'.pu hp4).rd hn')).mono ?_⟩
  rintro e w5 ⟨rfl, hp5⟩
  obtain ⟨q1, q2⟩ := readOut_same hout hout'
  refine ⟨_, rfl, Br.t (decide_eq_true q1) (Br.t (by rw [q2]; simp) ((known_c w5).mono ?_))⟩
  rintro e w6 ⟨rfl, hp6⟩
  exact ⟨_, rfl, rfl, (((hp1.trans hp2).trans hp3).trans hp4).trans (hp5.trans hp6)⟩
theorem NewRow.set {w1 w : World} {s : SV} {l : List UInt8} (h : NewRow w1 w s l) (hp : Pu w1 w) {i : Nat} (hi : i < l.length) (b : UInt8) : ∃ a, s.a = some a /\ ∀ K : World -> Prop, (∀ w', NewRow w1 w' s (l.set i b) -> Pu w1 w' -> K w') -> st1 (a.add i) (u8V b) w K := by
  obtain ⟨a, ha, _⟩ := h.1.st1 (j := i) (by simpa using hi) (u8V b) (K := fun _ => True) fun _ _ _ _ => trivial
  refine ⟨a, ha, fun K hK => ?_⟩
  obtain ⟨a', ha', hst⟩ := h.1.st1 (j := i) (by simpa using hi) (u8V b) (K := K) fun w' h1 h2 _ => hK w' ⟨by rw [List.map_set]; exact h1, h.2⟩ (hp.andNew h2 fun i hi => h.2 i hi)
  rw [ha] at ha'; cases ha'
  exact hst
end Go.Proofs.YtecmfdfhpldmmaaGreatDoor
