import Derived.Test.YtecmfdfhpldmmaaGreatDoorTbOwD
import Derived.Test.YtecmfdfhpldmmaaGreatDoorTbPrC
/- Table: parts of a table's bytes; a table that a call makes. No condition. -/
set_option maxRecDepth 100000
set_option maxHeartbeats 1000000
set_option linter.unusedVariables false
set_option linter.unusedSimpArgs false
namespace Go.Proofs.YtecmfdfhpldmmaaGreatDoor
open Go.Sh Go.RowKit
theorem flat_len {l : List Fld} (h : l.all fieldB = true) : (l.flatMap fieldS).length = 16 * l.length := by
  induction l with
  | nil => rfl
  | cons f l ih =>
    rw [List.flatMap_cons, List.length_append, fieldS_len (field_parts (List.all_eq_true.1 h f (by simp))).2.1, ih (List.all_eq_true.2 fun g hg => List.all_eq_true.1 h g (by simp [hg])), List.length_cons]
    omega
def top12 (u : Tbl) : List UInt8 := [67, byteI u.page] ++ lowN u.recs.length 4 ++ lowN (13 + 16 * u.fields.length) 2 ++ lowN (wide u.fields).toNat 2 ++ [byteI u.fields.length, 0]
theorem top12_len (u : Tbl) : (top12 u).length = 12 := by unfold top12; simp [lowN_len]
theorem bytes_top (u : Tbl) : bytesS u = top12 u ++ (u.fields.flatMap fieldS ++ ([13] ++ (u.recs.flatMap (rowS shownS u.fields) ++ [26]))) := by
  unfold bytesS headS top12; simp only [List.append_assoc]
theorem bytes_at {u : Tbl} {d : List UInt8} (hd : bytesS u = d) : d[0]? = some 67 /\ d[1]? = some (byteI u.page) /\ (d.drop 2).take 4 = lowN u.recs.length 4 /\ d[10]? = some (byteI u.fields.length) := by
  have hl := lowN_len u.recs.length 4
  have h2 := lowN_len (13 + 16 * u.fields.length) 2
  have h3 := lowN_len (wide u.fields).toNat 2
  rw [← hd, bytes_top]
  refine ⟨rfl, rfl, ?_, ?_⟩
  · unfold top12
    simp only [List.append_assoc, List.cons_append, List.nil_append, List.drop_succ_cons, List.drop_zero]
    rw [List.take_append_of_le_length (by omega), List.take_of_length_le (by omega)]
  · rw [List.getElem?_append_left (by rw [top12_len]; omega)]
    unfold top12
    rw [List.getElem?_append_right (by simp [lowN_len])]
    simp [lowN_len]
theorem bytes_len {u : Tbl} (ho : Okay u) {d : List UInt8} (hd : bytesS u = d) : (d.length : Int) = 13 + 16 * (u.fields.length : Int) + (u.recs.length : Int) * wide u.fields + 1 := by
  have h1 := rows_len ho u.recs.length (Nat.le_refl _)
  rw [List.take_length] at h1
  have h2 := headS_le ho
  rw [← hd]
  unfold bytesS
  rw [List.length_append, List.length_append, List.length_singleton]
  omega
theorem bytes_field {u : Tbl} (ho : Okay u) {d : List UInt8} (hd : bytesS u = d) {k : Nat} {f : Fld} (hf : u.fields[k]? = some f) : (d.drop (12 + 16 * k)).take 16 = fieldS f := by
  have hk := (List.getElem?_eq_some_iff.1 hf).1
  have hall : (u.fields.take k).all fieldB = true := List.all_eq_true.2 fun g hg => List.all_eq_true.1 ho.all g (List.mem_of_mem_take hg)
  have h1 := flat_len hall
  rw [List.length_take] at h1
  have h16 := fieldS_len (field_parts (List.all_eq_true.1 ho.all f (List.mem_of_getElem? hf))).2.1
  have e : u.fields.flatMap fieldS = (u.fields.take k).flatMap fieldS ++ (fieldS f ++ (u.fields.drop (k + 1)).flatMap fieldS) := by
    rw [← List.flatMap_cons, ← drop_at hf, ← List.flatMap_append, List.take_append_drop]
  have hl : (top12 u ++ (u.fields.take k).flatMap fieldS).length = 12 + 16 * k := by rw [List.length_append, top12_len, h1]; omega
  rw [← hd, bytes_top, e, List.append_assoc, ← List.append_assoc (top12 u), List.drop_append, List.drop_eq_nil_of_le (by omega), hl, Nat.sub_self, List.drop_zero, List.nil_append, List.append_assoc, List.take_append_of_le_length (by omega), List.take_of_length_le (by omega)]
theorem bytes_row {u : Tbl} (ho : Okay u) {d : List UInt8} (hd : bytesS u = d) {k : Nat} {r : Rec} (hr : u.recs[k]? = some r) : (d.drop (13 + 16 * u.fields.length + (wide u.fields).toNat * k)).take (wide u.fields).toNat = rowS shownS u.fields r := by
  have hk := (List.getElem?_eq_some_iff.1 hr).1
  have hw0 : 0 <= wide u.fields := by have := sum_le (WOk.of ho.all); unfold wide; omega
  have h1 := rows_len ho k (by omega)
  have h2 := headS_le ho
  have h3 := rowS_len ho.all (ho.recs r (List.mem_of_getElem? hr))
  have e : u.recs.flatMap (rowS shownS u.fields) = (u.recs.take k).flatMap (rowS shownS u.fields) ++ (rowS shownS u.fields r ++ (u.recs.drop (k + 1)).flatMap (rowS shownS u.fields)) := by
    rw [← List.flatMap_cons, ← drop_at hr, ← List.flatMap_append, List.take_append_drop]
  have hm : (((wide u.fields).toNat * k : Nat) : Int) = (k : Int) * wide u.fields := by
    rw [Int.natCast_mul, Int.toNat_of_nonneg hw0, Int.mul_comm]
  have hl : (headS u ++ (u.recs.take k).flatMap (rowS shownS u.fields)).length = 13 + 16 * u.fields.length + (wide u.fields).toNat * k := by rw [List.length_append, h2]; omega
  rw [← hd]
  unfold bytesS
  rw [e, ← List.append_assoc (headS u), List.append_assoc, List.drop_append, List.drop_eq_nil_of_le (by omega), hl, Nat.sub_self, List.drop_zero, List.nil_append, List.append_assoc, List.take_append_of_le_length (by omega), List.take_of_length_le (by omega)]
structure OwnT (w0 w : World) (t : Tbl) (f q : SV) : Prop where
  fs : NewF w0 w f t.fields
  rs : NewR w0 w q t.recs
theorem OwnT.pu {w0 w w' : World} {t : Tbl} {f q : SV} (h : OwnT w0 w t f q) (hp : Pu w w') : OwnT w0 w' t f q := ⟨h.fs.pu hp, h.rs.pu hp⟩
theorem OwnT.low {w0 w1 w : World} {t : Tbl} {f q : SV} (h : OwnT w1 w t f q) (hz : w0.heap.size <= w1.heap.size) : OwnT w0 w t f q := ⟨h.fs.low hz, h.rs.low hz⟩
theorem OwnT.one {w0 w w' : World} {b : Nat} {t : Tbl} {f q : SV} (h : OwnT w0 w t f q) (hf : Fr (· = b) w w') (hb : b < w0.heap.size) : OwnT w0 w' t f q := ⟨h.fs.fr hf fun k hk e => by have := h.fs.2 k hk; omega, h.rs.one hf hb⟩
structure Nice (t : Tbl) : Prop where
  page : In64 t.page
  f64 : F64 t.fields
  r64 : R64 t.recs
  fl : t.fields.length <= 255
  rl : t.recs.length <= 300
  nm : ∀ f ∈ t.fields, f.name.size <= 10
theorem OwnT.rd {w0 w : World} {t : Tbl} {f q : SV} (h : OwnT w0 w t f q) (hn : Nice t) : RdTbl w t f q := ⟨hn.page, h.fs.rd (by have := hn.fl; omega) hn.f64, h.rs.rd (by have := hn.rl; omega) hn.r64⟩
theorem Nice.lim {t : Tbl} (hn : Nice t) : Lim.ok t.fields := fun f hf => by
  have := hn.nm f hf
  show f.name.size <= 140737488355328
  omega
theorem Nice.zero : Nice ⟨0, [], []⟩ := ⟨⟨by decide, by decide⟩, fun f hf => by simp at hf, fun r hr => by simp at hr, by simp, by simp, fun f hf => by simp at hf⟩
theorem s35 : sizeB Tryz.prog 35 = 3 := by kernel_rfl
structure TblSt (w0 wr : World) (r2 r4 : Nat) (t : Tbl) (w : World) : Prop where
  ex : ∃ f q : SV, w.heap[r4]? = some (.cells #[.int .i64 t.page, .slice f.a f.len f.cap, .slice q.a q.len q.cap] 35) /\ OwnT wr w t f q
  b2 : w.heap[r2]? = some (.cells #[.int .i64 0, .slice none 0 0, .slice none 0 0] 35)
  sz : wr.heap.size <= w.heap.size
  pu : Pu w0 w
  l2 : r2 < wr.heap.size
  l4 : r4 < wr.heap.size
  ne : r2 ≠ r4
  z2 : w0.heap.size <= r2
  z4 : w0.heap.size <= r4
theorem TblSt.on {w0 wr w w' : World} {r2 r4 : Nat} {t : Tbl} (h : TblSt w0 wr r2 r4 t w) (hp : Pu w w') : TblSt w0 wr r2 r4 t w' := by
  obtain ⟨f, q, h1, h2⟩ := h.ex
  exact ⟨⟨f, q, hp.blk h1, h2.pu hp⟩, hp.blk h.b2, Nat.le_trans h.sz hp.size, h.pu.trans hp, h.l2, h.l4, h.ne, h.z2, h.z4⟩
theorem TblSt.putF {w0 wr w : World} {r2 r4 r : Nat} {t : Tbl} (h : TblSt w0 wr r2 r4 t w) {f q : SV} (h4 : w.heap[r4]? = some (.cells #[.int .i64 t.page, .slice f.a f.len f.cap, .slice q.a q.len q.cap] 35)) (ho : OwnT wr w t f q) {x : Fld} (hr : w.heap[r]? = some (.cells #[.string x.name, .int .i64 x.kind, .int .i64 x.width, .bool x.null] 23)) (hb : t.fields.length <= 1000000) :
    ∃ (f' : SV) (w1 : World), (Builtin.append_ #[32, 32] 32 #[.slice f.a f.len f.cap, .slice (some ⟨r, 0, none⟩) 1 1]).run Tryz.prog w = .ok (.slice f'.a f'.len f'.cap) w1 /\
      ∀ K : World -> Prop, (∀ w', TblSt w0 wr r2 r4 ⟨t.page, t.fields ++ [x], t.recs⟩ w' -> K w') -> st1 ((⟨r4, 0, none⟩ : Addr).add 1) (.slice f'.a f'.len f'.cap) w1 K := by
  obtain ⟨f', w1, e1, r1, f1⟩ := ho.fs.push h.sz hr rfl hb
  have n4 : ¬ r4 ∈ blkOf f := fun hc => by have := ho.fs.2 _ hc; have := h.l4; omega
  have n2 : ¬ r2 ∈ blkOf f := fun hc => by have := ho.fs.2 _ hc; have := h.l2; omega
  refine ⟨f', w1, e1, fun K hK => ?_⟩
  rw [add_def, Nat.zero_add]
  refine st1_intro (f1.blk h4 n4) (by simp) fun wx ex hbx => hK wx ?_
  have fx : Fr (· = r4) w1 wx := by rw [ex]; exact Fr.cell w1 _ _ _
  have zx : wx.heap.size = w1.heap.size := by rw [ex]; simp
  have z1 := f1.size
  have hne := h.ne
  have hsz := h.sz
  have hz4 := h.z4
  have hl4 := h.l4
  have rs1 : NewR wr w1 q t.recs := by
    obtain ⟨qs, a1, a2, a3, a4⟩ := ho.rs
    exact ⟨qs, a1.fr f1 (rows_apart a1 ho.fs.1 (by decide)), a2, a3, fun i r' x' hr' hx' => ⟨(a4 i r' x' hr' hx').1, (a4 i r' x' hr' hx').2.fr f1 (rows_apart (a4 i r' x' hr' hx').2.1 ho.fs.1 (by decide))⟩⟩
  refine ⟨⟨f', q, hbx, ⟨r1.fr fx fun i hi => by have := r1.2 i hi; omega, rs1.one fx hl4⟩⟩, fx.blk (f1.blk h.b2 n2) (by omega), by omega, ?_, h.l2, h.l4, h.ne, h.z2, h.z4⟩
  have p1 : Pu w0 w1 := h.pu.andNew f1 fun i hi => by have := ho.fs.2 i hi; omega
  exact p1.andNew fx fun i hi => by omega
theorem TblSt.putR {w0 wr w : World} {r2 r4 r : Nat} {t : Tbl} (h : TblSt w0 wr r2 r4 t w) {f q qv : SV} (h4 : w.heap[r4]? = some (.cells #[.int .i64 t.page, .slice f.a f.len f.cap, .slice q.a q.len q.cap] 35)) (ho : OwnT wr w t f q) {g : Bool} {vs : List Val} (hv : NewV wr w qv vs) (hr : w.heap[r]? = some (.cells #[.bool g, .slice qv.a qv.len qv.cap] 46)) (hb : t.recs.length <= 1000000) :
    ∃ (q' : SV) (w1 : World), (Builtin.append_ #[33, 33] 33 #[.slice q.a q.len q.cap, .slice (some ⟨r, 0, none⟩) 1 1]).run Tryz.prog w = .ok (.slice q'.a q'.len q'.cap) w1 /\
      ∀ K : World -> Prop, (∀ w', TblSt w0 wr r2 r4 ⟨t.page, t.fields, t.recs ++ [⟨g, vs⟩]⟩ w' -> K w') -> st1 ((⟨r4, 0, none⟩ : Addr).add 2) (.slice q'.a q'.len q'.cap) w1 K := by
  obtain ⟨q', w1, e1, r1, f1⟩ := ho.rs.push h.sz hv hr rfl hb
  have n4 : ¬ r4 ∈ blkOf q := fun hc => by have := ho.rs.own _ hc; have := h.l4; omega
  have n2 : ¬ r2 ∈ blkOf q := fun hc => by have := ho.rs.own _ hc; have := h.l2; omega
  refine ⟨q', w1, e1, fun K hK => ?_⟩
  rw [add_def, Nat.zero_add]
  refine st1_intro (f1.blk h4 n4) (by simp) fun wx ex hbx => hK wx ?_
  have fx : Fr (· = r4) w1 wx := by rw [ex]; exact Fr.cell w1 _ _ _
  have zx : wx.heap.size = w1.heap.size := by rw [ex]; simp
  have z1 := f1.size
  have hne := h.ne
  have hsz := h.sz
  have hz4 := h.z4
  have hl4 := h.l4
  have own := ho.rs.own
  have fs1 : NewF wr w1 f t.fields := by
    obtain ⟨qs, a1, a2, a3, a4⟩ := ho.rs
    exact ho.fs.fr f1 (rows_apart ho.fs.1 a1 (by decide))
  refine ⟨⟨f, q', hbx, ⟨fs1.fr fx fun i hi => by have := fs1.2 i hi; omega, r1.one fx hl4⟩⟩, fx.blk (f1.blk h.b2 n2) (by omega), by omega, ?_, h.l2, h.l4, h.ne, h.z2, h.z4⟩
  have p1 : Pu w0 w1 := h.pu.andNew f1 fun i hi => by have := own i hi; omega
  exact p1.andNew fx fun i hi => by omega
end Go.Proofs.YtecmfdfhpldmmaaGreatDoor

/- Table: the program's reading of a table's bytes. No condition. -/
set_option maxRecDepth 100000
set_option maxHeartbeats 2000000
set_option linter.unusedVariables false
set_option linter.unusedSimpArgs false
namespace Go.Proofs.YtecmfdfhpldmmaaGreatDoor
open Go.Sh Go.RowKit
def retT (R : Rt) (r2 r4 : Nat) (ok : Bool) (w : World) : Prop :=
  ptrE (some (⟨r4, 0, none⟩ : Addr)) fun a1 =>
  ∃ n122_0 : Int, w.cell? (a1.add 0) = some (.int .i64 n122_0) /\
  ∃ l122_1 : SV, w.cell? (a1.add 1) = some (.slice l122_1.a l122_1.len l122_1.cap) /\
  ∃ l122_2 : SV, w.cell? (a1.add 2) = some (.slice l122_2.a l122_2.len l122_2.cap) /\
  ptrE (some (⟨r2, 0, none⟩ : Addr)) fun a2 =>
  stA Tryz.prog 35 a2 #[.int .i64 n122_0, .slice l122_1.a l122_1.len l122_1.cap, .slice l122_2.a l122_2.len l122_2.cap] w fun w3 =>
  ptrE (some (⟨r2, 0, none⟩ : Addr)) fun a5 =>
  ∃ nR0_0 : Int, w3.cell? (a5.add 0) = some (.int .i64 nR0_0) /\
  ∃ lR0_1 : SV, w3.cell? (a5.add 1) = some (.slice lR0_1.a lR0_1.len lR0_1.cap) /\
  ∃ lR0_2 : SV, w3.cell? (a5.add 2) = some (.slice lR0_2.a lR0_2.len lR0_2.cap) /\
  R (.returned (.tuple #[.agg #[.int .i64 nR0_0, .slice lR0_1.a lR0_1.len lR0_1.cap, .slice lR0_2.a lR0_2.len lR0_2.cap], .bool ok])) w3
theorem retT_c {R : Rt} {w0 wr w : World} {r2 r4 : Nat} {t : Tbl} (h : TblSt w0 wr r2 r4 t w) (ok : Bool) (hR : ∀ f q w', OwnT wr w' t f q -> Pu w0 w' -> R (.returned (.tuple #[tblA t f q, .bool ok])) w') : retT R r2 r4 ok w := by
  obtain ⟨f, q, h4, ho⟩ := h.ex
  have hz := h.z2
  exact ⟨_, cl h4 0, f, cl h4 1, q, cl h4 2, stA_fill h.b2 s35.symm rfl rfl fun w5 hb5 hf5 hs5 => ⟨_, cl hb5 0, f, cl hb5 1, q, cl hb5 2, hR f q w5 (ho.one hf5 h.l2) (h.pu.andNew hf5 fun i hi => by omega)⟩⟩
def Parsed (d : List UInt8) (t : Tbl) (ok : Bool) : Prop := ∀ u, validT u = 0 -> bytesS u = d -> t = u /\ ok = true
theorem readTable_c {w : World} {s : SV} {d : List UInt8} (hb : ByV w s d) (hd : d.length <= 1000000000) : Calls Tryz.prog 80 #[.slice s.a s.len s.cap] w fun e w' => ∃ (t : Tbl) (f q : SV) (ok : Bool), e = .returned (.tuple #[tblA t f q, .bool ok]) /\ OwnT w w' t f q /\ Nice t /\ Pu w w' /\ Parsed d t ok := by
  have hsl := hb.len
  have hsc := hb.cap
  refine F80_calls _ w _ (alB fun w1 hp1 hb1 => alB fun w2 hp2 hb2 => ?_)
  have hp02 := hp1.trans hp2
  have lt1 : w.heap.size < w1.heap.size := blk_lt hb1
  have lt2 : w1.heap.size < w2.heap.size := blk_lt hb2
  have b12 := hp2.blk hb1
  have st0 : TblSt w w2 w.heap.size w1.heap.size ⟨0, [], []⟩ w2 := ⟨⟨⟨none, 0, 0⟩, ⟨none, 0, 0⟩, hb2, ⟨NewF.nil w2 w2, NewR.nil w2 w2⟩⟩, b12, Nat.le_refl _, hp02, by omega, lt2, by omega, Nat.le_refl _, by omega⟩
  have ret : ∀ {t : Tbl} {w' : World} (ok : Bool), TblSt w w2 w.heap.size w1.heap.size t w' -> Nice t -> Parsed d t ok -> retT (fun e w' => ∃ (t : Tbl) (f q : SV) (ok : Bool), e = .returned (.tuple #[tblA t f q, .bool ok]) /\ OwnT w w' t f q /\ Nice t /\ Pu w w' /\ Parsed d t ok) w.heap.size w1.heap.size ok w' := fun {t w'} ok st hn hc =>
    retT_c st ok fun f q w'' ho hp => ⟨t, f, q, ok, rfl, ho.low hp02.size, hn, hp, hc⟩
  have no : ∀ {t : Tbl} {ok : Bool}, (∀ u, validT u = 0 -> bytesS u = d -> False) -> Parsed d t ok := fun h u hv hu => (h u hv hu).elim
  have hlong : ∀ u, validT u = 0 -> bytesS u = d -> 14 <= d.length := fun u hv hu => by
    have ho := Okay.of hv
    have h1 := bytes_len ho hu
    have hf : 0 < u.fields.length := List.length_pos_iff.2 ho.ne
    have hw0 : 0 <= wide u.fields := by have := sum_le (WOk.of ho.all); unfold wide; omega
    have h2 : 0 <= (u.recs.length : Int) * wide u.fields := Int.mul_nonneg (by omega) hw0
    omega
  refine Br.of (fun q => ret false st0 Nice.zero (no fun u hv hu => by have := hlong u hv hu; have := dtrue q; omega)) (fun q => ?_)
  have h14 : 14 <= d.length := by have := dfalse q; omega
  clear q
  obtain ⟨b0, e0⟩ := at_k (l := d) (k := 0) (by omega)
  obtain ⟨b1, e1⟩ := at_k (l := d) (k := 1) (by omega)
  obtain ⟨b10, e10⟩ := at_k (l := d) (k := 10) (by omega)
  have hb12 := hb.pu hp02
  obtain ⟨a0, ha0, hc0⟩ := hb12.get _ _ e0
  obtain ⟨a1, ha1, hc1⟩ := hb12.get _ _ e1
  refine ⟨a0, ha0, by omega, by omega, _, hc0, Br.of (fun q => ret false st0 Nice.zero (no fun u hv hu => ?_)) (fun q => ⟨a1, ha1, by omega, by omega, _, hc1, ?_⟩)⟩
  · have h1 := (bytes_at hu).1
    rw [e0] at h1
    have h1 := Option.some.inj h1
    rw [h1] at q; exact bntrue q rfl
  have n1 := b1.toNat_lt
  have n10 := b10.toNat_lt
  rw [wrap_in (n := ((b1.toNat : Nat) : Int)) (by omega) (by omega)]
  refine st1_intro hb2 (by decide) fun w3 hw3 hb3 => dwE_intro fun w4 hp4 _ => ?_
  have fr3 : Fr (· = w1.heap.size) w2 w3 := by rw [hw3]; exact Fr.cell w2 _ _ _
  have z3 : w3.heap.size = w2.heap.size := by rw [hw3]; simp
  have st4 : TblSt w w2 w.heap.size w1.heap.size ⟨((b1.toNat : Nat) : Int), [], []⟩ w4 := (⟨⟨⟨none, 0, 0⟩, ⟨none, 0, 0⟩, hb3, ⟨NewF.nil w2 w3, NewR.nil w2 w3⟩⟩, fr3.blk b12 (by omega), by omega, hp02.andNew fr3 fun i hi => by omega, by omega, lt2, by omega, Nat.le_refl _, by omega⟩ : TblSt w w2 w.heap.size w1.heap.size ⟨((b1.toNat : Nat) : Int), [], []⟩ w3).on hp4
  obtain ⟨a10, ha10, hc10⟩ := (hb.pu st4.pu).get _ _ e10
  refine ⟨fun u => Pu w4 u, Pu.refl _, a10, ha10, by omega, by omega, _, fun u hu => hu.cell hc10, a10, ha10, by omega, by omega, _, fun u hu => hu.cell hc10, ?_⟩
  rw [wrap_in (n := ((b10.toNat : Nat) : Int)) (by omega) (by omega)]
  refine (headLen_c b10.toNat (by omega) w4).mono ?_
  rintro e w5 ⟨rfl, hp5⟩
  have st5 := st4.on hp5
  have pg : In64 ((b1.toNat : Nat) : Int) := ⟨by omega, by omega⟩
  have nice0 : Nice ⟨((b1.toNat : Nat) : Int), [], []⟩ := ⟨pg, fun f hf => by simp at hf, fun r hr => by simp at hr, by simp, by simp, fun f hf => by simp at hf⟩
  -- what a right table's bytes tell
  have pgu : ∀ u, validT u = 0 -> bytesS u = d -> u.page = ((b1.toNat : Nat) : Int) /\ u.fields.length = b10.toNat := fun u hv hu => by
    have ho := Okay.of hv
    obtain ⟨_, h1, _, h2⟩ := bytes_at hu
    rw [e1] at h1; rw [e10] at h2
    have h1 := Option.some.inj h1
    have h2 := Option.some.inj h2
    have hpg := ho.page
    unfold pageB at hpg
    simp only [Bool.and_eq_true, decide_eq_true_eq] at hpg
    have h16 := ho.n16
    have e1 := byteI_in (n := u.page) (by omega)
    have e2 := byteI_in (n := ((u.fields.length : Nat) : Int)) (by omega)
    rw [h1, h2]; omega
  refine ⟨_, rfl, hp5, Br.of (fun q => ret false st5 nice0 (no fun u hv hu => ?_)) (fun q => ?_)⟩
  · have h1 := bytes_len (Okay.of hv) hu
    have h2 := (pgu u hv hu).2
    have hw0 : 0 <= wide u.fields := by have := sum_le (WOk.of (Okay.of hv).all); unfold wide; omega
    have h3 : 0 <= (u.recs.length : Int) * wide u.fields := Int.mul_nonneg (by omega) hw0
    have := dtrue q
    omega
  have hbeg : 13 + 16 * b10.toNat <= d.length := by have := dfalse q; omega
  clear q
  refine loopUp b10.toNat (fun k t w' => t = (k : Int) /\ ∃ fs : List Fld, fs.length = k /\ F64 fs /\ (∀ f ∈ fs, f.name.size <= 10) /\ TblSt w w2 w.heap.size w1.heap.size ⟨((b1.toNat : Nat) : Int), fs, []⟩ w' /\ ∀ u, validT u = 0 -> bytesS u = d -> fs = u.fields.take k) ⟨rfl, [], rfl, fun f hf => by simp at hf, fun f hf => by simp at hf, st5, fun u _ _ => by simp⟩ ?_
  rintro k J t w6 hk ⟨ht, fs, hfl, hf64, hfn, st, hcond⟩ hJ
  obtain rfl : t = (k : Int) := ht
  refine Br.of (fun q => dwE_intro fun w7 hp7 _ => ?_) (fun q => ?_)
  · have hk2 : k < b10.toNat := by have := dtrue q; omega
    have st7 := st.on hp7
    obtain ⟨f, qr, h4, ho⟩ := st7.ex
    obtain ⟨l58, e58, h58⟩ := (hb.pu st7.pu).part3 (lo := 12 + 16 * k) (hi := 28 + 16 * k) (by omega) (by omega)
    rw [show 28 + 16 * k - (12 + 16 * k) = 16 by omega] at h58
    refine ⟨fun u => Pu w7 u, Pu.refl _, f, fun u hu => cl (hu.blk h4) 1, ?_⟩
    rw [wrap_in (n := 16 * (k : Int)) (by omega) (by omega), wrap_in (n := 12 + 16 * (k : Int)) (by omega) (by omega), wrap_in (n := 28 + 16 * (k : Int)) (by omega) (by omega), show 12 + 16 * (k : Int) = ((12 + 16 * k : Nat) : Int) by omega, show 28 + 16 * (k : Int) = ((28 + 16 * k : Nat) : Int) by omega]
    refine ⟨l58, w7, e58, Pu.refl _, (readField_c h58 (by rw [List.length_take, List.length_drop]; omega)).mono ?_⟩
    rintro e w8 ⟨x, rfl, x1, x2, x3, hp8, hx⟩
    refine ⟨_, _, _, _, rfl, hp8, alB fun w9 hp9 hb9 => ⟨hp8.trans hp9, ?_⟩⟩
    have st9 := (st7.on hp8).on hp9
    obtain ⟨f', w10, e10', hK⟩ := st9.putF ((hp8.trans hp9).blk h4) (ho.pu (hp8.trans hp9)) hb9 (by show fs.length <= _; omega)
    refine ⟨f', w10, e10', hK _ fun w11 st11 => ?_⟩
    rw [wrap_in (by omega) (by omega)]
    refine hJ _ _ hk2 ⟨by omega, fs ++ [x], by simp [hfl], fun y hy => ?_, fun y hy => ?_, st11, fun u hv hu => ?_⟩
    · rcases List.mem_append.1 hy with hy | hy
      · exact hf64 y hy
      · simp at hy; subst hy; exact ⟨x1, x2⟩
    · rcases List.mem_append.1 hy with hy | hy
      · exact hfn y hy
      · simp at hy; subst hy; exact x3
    · obtain ⟨g, hg⟩ := at_k (l := u.fields) (k := k) (by have := (pgu u hv hu).2; omega)
      rw [take_at hg, ← hcond u hv hu]
      have ho2 := Okay.of hv
      rw [hx g (List.all_eq_true.1 ho2.all g (List.mem_of_getElem? hg)) (bytes_field ho2 hu hg).symm]
  have hk2 : k = b10.toNat := by have := dfalse q; omega
  subst hk2
  clear hJ J q
  have hfs : ∀ u, validT u = 0 -> bytesS u = d -> fs = u.fields := fun u hv hu => by
    rw [hcond u hv hu, List.take_of_length_le (by have := (pgu u hv hu).2; omega)]
  have nice1 : Nice ⟨((b1.toNat : Nat) : Int), fs, []⟩ := ⟨pg, hf64, fun r hr => by simp at hr, by show fs.length <= _; omega, by simp, hfn⟩
  obtain ⟨f, qr, h4, ho⟩ := st.ex
  refine ⟨f, cl h4 1, (validFields_c (ho.rd nice1).fields nice1.lim).mono ?_⟩
  rintro e w7 ⟨rfl, hp7⟩
  have st7 := st.on hp7
  refine ⟨_, rfl, Br.of (fun q => ret false st7 nice1 (no fun u hv hu => ?_)) (fun q => dwE_intro fun w8 hp8 _ => ?_)⟩
  · have := (Okay.of hv).vf
    rw [← hfs u hv hu] at this
    exact bntrue q this
  have hvf : validF fs = 0 := bnfalse q
  clear q
  obtain ⟨_, hall, _, h16, hw2⟩ := validF_ok hvf
  have hwok := WOk.of hall
  have hwide : 1 <= wide fs := by have := sum_le hwok; unfold wide; omega
  have st8 := st7.on hp8
  have h48 := (hp7.trans hp8).blk h4
  have ho8 := ho.pu (hp7.trans hp8)
  refine ⟨f, cl h48 1, by omega, by show 6 <= _; omega, by omega, by decide, (length_c (ho8.rd nice1).fields hwok).mono ?_⟩
  rintro e w9 ⟨rfl, hp9⟩
  have hnum := (hb.pu (st8.pu.trans hp9)).sub (lo := 2) (hi := 6) (by omega) (by omega)
  have hd4 : ((d.drop 2).take (6 - 2)).length = 4 := by rw [List.length_take, List.length_drop]; omega
  refine ⟨_, rfl, (number_c hnum hd4).mono ?_⟩
  rintro e w10 ⟨rfl, hp10⟩
  have st10 := (st8.on hp9).on hp10
  obtain ⟨cnt, hcnt⟩ : ∃ cnt, cnt = numN ((d.drop 2).take (6 - 2)) := ⟨_, rfl⟩
  rw [← hcnt]
  have hrl : ∀ u, validT u = 0 -> bytesS u = d -> u.recs.length = cnt := fun u hv hu => by
    have h1 := (bytes_at hu).2.2.1
    have h2 := (Okay.of hv).m300
    rw [hcnt, show 6 - 2 = 4 from rfl, h1, numN_low (by omega)]
  refine ⟨_, rfl, Br.of (fun q => ret false st10 nice1 (no fun u hv hu => by have := hrl u hv hu; have := (Okay.of hv).m300; have := dtrue q; omega)) (fun q => ?_)⟩
  have hc300 : cnt <= 300 := by have := dfalse q; omega
  clear q
  obtain ⟨W, hW⟩ : ∃ W : Nat, wide fs = (W : Int) := ⟨(wide fs).toNat, by omega⟩
  have hWl : W <= 2000 := by omega
  have hWc : W * cnt <= 600000 := Nat.mul_le_mul hWl hc300
  have eWc : (W : Int) * (cnt : Int) = ((W * cnt : Nat) : Int) := by omega
  rw [hW, eWc, wrap_in (n := ((W * cnt : Nat) : Int)) (by omega) (by omega), wrap_in (n := ((13 + 16 * b10.toNat : Nat) : Int) + ((W * cnt : Nat) : Int)) (by omega) (by omega), wrap_in (n := ((13 + 16 * b10.toNat : Nat) : Int) + ((W * cnt : Nat) : Int) + 1) (by omega) (by omega)]
  refine Br.of (fun q => ret false st10 nice1 (no fun u hv hu => ?_)) (fun q => ?_)
  · have h1 := bytes_len (Okay.of hv) hu
    have h2 := (pgu u hv hu).2
    rw [← hfs u hv hu, hW, hrl u hv hu] at h1
    rw [← hfs u hv hu] at h2
    have h3 : (cnt : Int) * (W : Int) = ((W * cnt : Nat) : Int) := by rw [Int.mul_comm]; exact eWc
    have := bntrue q
    omega
  have hdl : d.length = 13 + 16 * b10.toNat + W * cnt + 1 := by have := bnfalse q; omega
  clear q
  refine loopUp cnt (fun k t w' => t = (k : Int) /\ ∃ rs : List Rec, rs.length = k /\ R64 rs /\ TblSt w w2 w.heap.size w1.heap.size ⟨((b1.toNat : Nat) : Int), fs, rs⟩ w' /\ ∀ u, validT u = 0 -> bytesS u = d -> rs = u.recs.take k) ⟨rfl, [], rfl, fun r hr => by simp at hr, st10, fun u _ _ => by simp⟩ ?_
  rintro k J t w11 hk ⟨ht, rs, hrn, hr64, st11, hrc⟩ hJ
  obtain rfl : t = (k : Int) := ht
  have nice2 : Nice ⟨((b1.toNat : Nat) : Int), fs, rs⟩ := ⟨pg, hf64, hr64, by show fs.length <= _; omega, by show rs.length <= _; omega, hfn⟩
  refine Br.of (fun q => dwE_intro fun w12 hp12 _ => ?_) (fun q => ?_)
  · have hk2 : k < cnt := by have := dtrue q; omega
    have st12 := st11.on hp12
    obtain ⟨f, qr, h4, ho⟩ := st12.ex
    have hWk : W * k + W <= W * cnt := by rw [← Nat.mul_succ]; exact Nat.mul_le_mul_left W hk2
    have eWk : (W : Int) * (k : Int) = ((W * k : Nat) : Int) := by omega
    have eWk1 : (W : Int) * ((k : Int) + 1) = ((W * k + W : Nat) : Int) := by rw [Int.mul_add, eWk]; omega
    refine ⟨fun u => Pu w12 u, Pu.refl _, f, fun u hu => cl (hu.blk h4) 1, ?_⟩
    rw [wrap_in (n := (k : Int) + 1) (by omega) (by omega), eWk, eWk1, wrap_in (n := ((W * k : Nat) : Int)) (by omega) (by omega), wrap_in (n := ((W * k + W : Nat) : Int)) (by omega) (by omega), wrap_in (n := ((13 + 16 * b10.toNat : Nat) : Int) + ((W * k : Nat) : Int)) (by omega) (by omega), wrap_in (n := ((13 + 16 * b10.toNat : Nat) : Int) + ((W * k + W : Nat) : Int)) (by omega) (by omega)]
    have elo : (((13 + 16 * b10.toNat : Nat) : Int) + ((W * k : Nat) : Int)).toNat = 13 + 16 * b10.toNat + W * k := by omega
    have ehi : (((13 + 16 * b10.toNat : Nat) : Int) + ((W * k + W : Nat) : Int)).toNat = 13 + 16 * b10.toNat + W * k + W := by omega
    rw [elo, ehi]
    have hpart : ∀ {wz}, Pu w12 wz -> ByV wz ⟨if s.cap = 13 + 16 * b10.toNat + W * k then s.a else s.a.map (fun x => x.add ((13 + 16 * b10.toNat + W * k) * 1)), 13 + 16 * b10.toNat + W * k + W - (13 + 16 * b10.toNat + W * k), s.cap - (13 + 16 * b10.toNat + W * k)⟩ ((d.drop (13 + 16 * b10.toNat + W * k)).take W) := fun {wz} hz => by
      have := (hb.pu (st12.pu.trans hz)).sub (lo := 13 + 16 * b10.toNat + W * k) (hi := 13 + 16 * b10.toNat + W * k + W) (by omega) (by omega)
      rw [show (d.drop (13 + 16 * b10.toNat + W * k)).take (13 + 16 * b10.toNat + W * k + W - (13 + 16 * b10.toNat + W * k)) = (d.drop (13 + 16 * b10.toNat + W * k)).take W by rw [Nat.add_sub_cancel_left]] at this
      exact this
    have hplen : (((d.drop (13 + 16 * b10.toNat + W * k)).take W).length : Int) = wide fs := by rw [List.length_take, List.length_drop, hW]; omega
    have hrowu : ∀ u, validT u = 0 -> bytesS u = d -> ∀ r, u.recs[k]? = some r -> RightR fs u.page r.v /\ rowS shownS fs r = (d.drop (13 + 16 * b10.toNat + W * k)).take W := fun u hv hu r hr => by
      have ho2 := Okay.of hv
      have h1 := bytes_row ho2 hu hr
      have h2 := (pgu u hv hu).2
      have h3 := hfs u hv hu
      rw [h2, ← h3, hW, Int.toNat_natCast] at h1
      exact ⟨by rw [h3]; exact ho2.recs r (List.mem_of_getElem? hr), h1.symm⟩
    -- behind the row
    have tail : ∀ {wz : World} {r11 : Nat} {g ok : Bool} {vs : List Val} {qv : SV}, Pu w12 wz -> NewV w12 wz qv vs -> vs.length = fs.length -> V64 vs -> (∀ (r : Rec) (p : Int), RightR fs p r.v -> rowS shownS fs r = (d.drop (13 + 16 * b10.toNat + W * k)).take W -> g = r.gone /\ vs = r.v /\ ok = true) -> wz.heap[r11]? = some (.cells #[.bool g, .slice qv.a qv.len qv.cap] 46) ->
        Br (!ok) (retT (fun e w' => ∃ (t : Tbl) (f q : SV) (ok : Bool), e = .returned (.tuple #[tblA t f q, .bool ok]) /\ OwnT w w' t f q /\ Nice t /\ Pu w w' /\ Parsed d t ok) w.heap.size w1.heap.size false wz) (
          ptrE (some (⟨w1.heap.size, 0, none⟩ : Addr)) fun a16 => ∃ l116 : SV, wz.cell? (a16.add 2) = some (.slice l116.a l116.len l116.cap) /\
          ∃ b117_0 : Bool, wz.cell? ((⟨r11, 0, none⟩ : Addr).add 0) = some (.bool b117_0) /\ ∃ l117_1 : SV, wz.cell? ((⟨r11, 0, none⟩ : Addr).add 1) = some (.slice l117_1.a l117_1.len l117_1.cap) /\
          alE (.cells #[.bool b117_0, .slice l117_1.a l117_1.len l117_1.cap] 46) wz fun r118 w17 => ∃ l119 : SV, ∃ w18 : World, (Builtin.append_ #[33, 33] 33 #[.slice l116.a l116.len l116.cap, .slice (some ⟨r118, 0, none⟩) 1 1]).run Tryz.prog w17 = .ok (.slice l119.a l119.len l119.cap) w18 /\
          ptrE (some (⟨w1.heap.size, 0, none⟩ : Addr)) fun a19 => st1 (a19.add 2) (.slice l119.a l119.len l119.cap) w18 fun w20 => J ((k : Int) + 1) w20) := fun {wz r11 g ok vs qv} hz hv hvl hv64 hcv hb11 => by
      have stz := st12.on hz
      refine Br.of (fun q1 => ret false stz nice2 (no fun u hv hu => ?_)) (fun q1 => ?_)
      · obtain ⟨r, hr⟩ := at_k (l := u.recs) (k := k) (by have := hrl u hv hu; omega)
        obtain ⟨h1, h2⟩ := hrowu u hv hu r hr
        rw [(hcv r u.page h1 h2).2.2] at q1; cases q1
      · refine ⟨qr, cl (hz.blk h4) 2, g, cl hb11 0, qv, cl hb11 1, alB fun w13 hp13 hb13 => ?_⟩
        obtain ⟨q', w14, e14, hK⟩ := (stz.on hp13).putR ((hz.trans hp13).blk h4) (ho.pu (hz.trans hp13)) ((hv.pu hp13).low st12.sz) hb13 (by show rs.length <= _; omega)
        refine ⟨q', w14, e14, hK _ fun w15 st15 => hJ _ _ hk2 ⟨by omega, rs ++ [⟨g, vs⟩], by simp [hrn], fun y hy => ?_, st15, fun u hv hu => ?_⟩⟩
        · rcases List.mem_append.1 hy with hy | hy
          · exact hr64 y hy
          · simp at hy; subst hy; exact ⟨hv64, by show vs.length <= _; omega⟩
        · obtain ⟨r, hr⟩ := at_k (l := u.recs) (k := k) (by have := hrl u hv hu; omega)
          obtain ⟨h1, h2⟩ := hrowu u hv hu r hr
          obtain ⟨c1, c2, _⟩ := hcv r u.page h1 h2
          rw [take_at hr, ← hrc u hv hu, c1, c2]
    refine ⟨by omega, by omega, by omega, by omega, (readRow_c (ho.rd nice2).fields hall h16 (hpart (Pu.refl _)) hplen).mono ?_, alB fun w13 hp13 hb13 => ⟨hp13, (readRow_c ((ho.pu hp13).rd nice2).fields hall h16 (hpart hp13) hplen).mono ?_⟩⟩
    · rintro e w13 ⟨g, ok, vs, qv, rfl, v1, v2, v3, hp13, v4⟩
      exact ⟨g, qv, ok, rfl, boxA rfl s46.symm rfl fun w14 hp14 hs14 hb14 => tail (hp13.trans hp14) (v1.pu hp14) v2 v3 v4 hb14⟩
    · rintro e w14 ⟨g, ok, vs, qv, rfl, v1, v2, v3, hp14, v4⟩
      have lt13 : w12.heap.size < w13.heap.size := blk_lt hb13
      refine ⟨g, qv, ok, rfl, stA_fill (hp14.blk hb13) s46.symm rfl rfl fun w15 hb15 hf15 hs15 => tail ((hp13.trans hp14).andNew hf15 fun i hi => by omega) ((v1.fr hf15 fun i hi e => by have := v1.2 i hi; omega).low hp13.size) v2 v3 v4 hb15⟩
  · have hk2 : k = cnt := by have := dfalse q; omega
    subst hk2
    refine ret true st11 nice2 fun u hv hu => ⟨?_, rfl⟩
    have h1 := hrc u hv hu
    rw [List.take_of_length_le (by have := hrl u hv hu; omega)] at h1
    rw [h1, hfs u hv hu, ← (pgu u hv hu).1]
end Go.Proofs.YtecmfdfhpldmmaaGreatDoor

/- Table: both packages' reading of a table's bytes. No condition. -/
set_option maxRecDepth 100000
set_option maxHeartbeats 2000000
set_option linter.unusedVariables false
set_option linter.unusedSimpArgs false
namespace Go.Proofs.YtecmfdfhpldmmaaGreatDoor
open Go.Sh Go.RowKit
def ReadOut (d : List UInt8) (t : Tbl) (c : Int) : Prop := (c = 0 /\ validT t = 0 /\ bytesS t = d /\ ∀ u, validT u = 0 -> bytesS u = d -> t = u) ∨ (c = 11 /\ t = ⟨0, [], []⟩ /\ ∀ u, validT u = 0 -> bytesS u ≠ d)
def ReadR (w : World) (d : List UInt8) : Rt := fun e w' => ∃ (t : Tbl) (f q : SV) (c : Int), e = .returned (.tuple #[tblA t f q, .int .i64 c]) /\ OwnT w w' t f q /\ Nice t /\ Pu w w' /\ ReadOut d t c
def zeroT (R : Rt) (r2 : Nat) (w : World) : Prop :=
  stA Tryz.prog 35 (⟨r2, 0, none⟩ : Addr) #[.int .i64 0, .slice none 0 0, .slice none 0 0] w fun w5 =>
  ∃ nR0_0 : Int, w5.cell? ((⟨r2, 0, none⟩ : Addr).add 0) = some (.int .i64 nR0_0) /\
  ∃ lR0_1 : SV, w5.cell? ((⟨r2, 0, none⟩ : Addr).add 1) = some (.slice lR0_1.a lR0_1.len lR0_1.cap) /\
  ∃ lR0_2 : SV, w5.cell? ((⟨r2, 0, none⟩ : Addr).add 2) = some (.slice lR0_2.a lR0_2.len lR0_2.cap) /\
  R (.returned (.tuple #[.agg #[.int .i64 nR0_0, .slice lR0_1.a lR0_1.len lR0_1.cap, .slice lR0_2.a lR0_2.len lR0_2.cap], .int .i64 11])) w5
theorem zeroT_c {w0 w : World} {d : List UInt8} {r2 : Nat} (hb : w.heap[r2]? = some (.cells #[.int .i64 0, .slice none 0 0, .slice none 0 0] 35)) (hp : Pu w0 w) (hr : w0.heap.size <= r2) (hno : ∀ u, validT u = 0 -> bytesS u ≠ d) : zeroT (ReadR w0 d) r2 w :=
  stA_fill hb s35.symm rfl rfl fun w5 hb5 hf5 hs5 => ⟨_, cl hb5 0, ⟨none, 0, 0⟩, cl hb5 1, ⟨none, 0, 0⟩, cl hb5 2, ⟨0, [], []⟩, ⟨none, 0, 0⟩, ⟨none, 0, 0⟩, 11, rfl, ⟨NewF.nil w0 w5, NewR.nil w0 w5⟩, Nice.zero, hp.andNew hf5 fun i hi => by omega, .inr ⟨rfl, rfl, hno⟩⟩
def copyT (R : Rt) (r2 r4 : Nat) (w : World) : Prop :=
  ∃ n122_0 : Int, w.cell? ((⟨r4, 0, none⟩ : Addr).add 0) = some (.int .i64 n122_0) /\
  ∃ l122_1 : SV, w.cell? ((⟨r4, 0, none⟩ : Addr).add 1) = some (.slice l122_1.a l122_1.len l122_1.cap) /\
  ∃ l122_2 : SV, w.cell? ((⟨r4, 0, none⟩ : Addr).add 2) = some (.slice l122_2.a l122_2.len l122_2.cap) /\
  stA Tryz.prog 35 (⟨r2, 0, none⟩ : Addr) #[.int .i64 n122_0, .slice l122_1.a l122_1.len l122_1.cap, .slice l122_2.a l122_2.len l122_2.cap] w fun w3 =>
  ∃ nR0_0 : Int, w3.cell? ((⟨r2, 0, none⟩ : Addr).add 0) = some (.int .i64 nR0_0) /\
  ∃ lR0_1 : SV, w3.cell? ((⟨r2, 0, none⟩ : Addr).add 1) = some (.slice lR0_1.a lR0_1.len lR0_1.cap) /\
  ∃ lR0_2 : SV, w3.cell? ((⟨r2, 0, none⟩ : Addr).add 2) = some (.slice lR0_2.a lR0_2.len lR0_2.cap) /\
  R (.returned (.tuple #[.agg #[.int .i64 nR0_0, .slice lR0_1.a lR0_1.len lR0_1.cap, .slice lR0_2.a lR0_2.len lR0_2.cap], .int .i64 0])) w3
theorem copyT_c {w0 wr w : World} {d : List UInt8} {r2 r4 : Nat} {t : Tbl} {f q : SV} (hb2 : w.heap[r2]? = some (.cells #[.int .i64 0, .slice none 0 0, .slice none 0 0] 35)) (h4 : w.heap[r4]? = some (.cells #[.int .i64 t.page, .slice f.a f.len f.cap, .slice q.a q.len q.cap] 35)) (ho : OwnT wr w t f q) (hn : Nice t) (hp : Pu w0 w) (hr : w0.heap.size <= r2) (hl : r2 < wr.heap.size) (hz : w0.heap.size <= wr.heap.size)
    (hout : ReadOut d t 0) : copyT (ReadR w0 d) r2 r4 w :=
  ⟨_, cl h4 0, f, cl h4 1, q, cl h4 2, stA_fill hb2 s35.symm rfl rfl fun w5 hb5 hf5 hs5 => ⟨_, cl hb5 0, f, cl hb5 1, q, cl hb5 2, t, f, q, 0, rfl, (ho.one hf5 hl).low hz, hn, hp.andNew hf5 fun i hi => by omega, hout⟩⟩
theorem bytesEqual_c {w w0 : World} {s t : SV} {a b : List UInt8} (ha : NewRow w0 w s a) (hb : ByV w t b) : Calls Tryz.prog 81 #[.slice s.a s.len s.cap, .slice t.a t.len t.cap] w fun e w' => e = .returned (.bool (decide (a = b))) /\ Pu w w' := by
  refine F81_calls _ _ w _ ⟨_, w, conv_str ha, _, w, conv_by hb, ?_, Pu.refl w⟩
  rw [toList_beq]
  congr 2
  exact dec_eq ⟨fun h => by rw [← bs_list a, h, bs_list], fun h => by rw [h]⟩
theorem read_c {w : World} {s : SV} {d : List UInt8} (hb : ByV w s d) (hd : d.length <= 1000000000) : Calls Tryz.prog 41 #[.slice s.a s.len s.cap] w (ReadR w d) := by
  refine F41_calls _ w _ (alB fun w1 hp1 hb1 => (readTable_c (hb.pu hp1) hd).mono ?_)
  rintro e w2 ⟨t, f, q, ok, rfl, ho, hn, hp2, hpar⟩
  have lt1 : w.heap.size < w1.heap.size := blk_lt hb1
  refine ⟨_, f, q, ok, rfl, boxA rfl s35.symm rfl fun w3 hp3 hs3 hb3 => ?_⟩
  have p3 := (hp1.trans hp2).trans hp3
  have ho3 := ho.pu hp3
  refine Br.of (fun d1 => zeroT_c ((hp2.trans hp3).blk hb1) p3 (Nat.le_refl _) fun u hv hu => ?_) (fun d1 => ⟨_, cl hb3 0, f, cl hb3 1, q, cl hb3 2, (validTbl_c (ho3.rd hn) hn.lim).mono ?_⟩)
  · rw [(hpar u hv hu).2] at d1; cases d1
  rintro e w4 ⟨rfl, hp4⟩
  have p4 := p3.trans hp4
  have b3 := hp4.blk hb3
  have ho4 := ho3.pu hp4
  refine ⟨_, rfl, Br.of (fun d1 => zeroT_c (((hp2.trans hp3).trans hp4).blk hb1) p4 (Nat.le_refl _) fun u hv hu => ?_) (fun d1 => ⟨_, cl b3 0, f, cl b3 1, q, cl b3 2, ?_⟩)⟩
  · rw [(hpar u hv hu).1] at d1; exact bntrue d1 hv
  have hv0 : validT t = 0 := bnfalse d1
  refine (tblBytes_c (ho4.rd hn) (Okay.of hv0)).mono ?_
  rintro e w5 ⟨o, rfl, ho5, hp5⟩
  refine ⟨o, rfl, (bytesEqual_c ho5 (hb.pu (p4.trans hp5))).mono ?_⟩
  rintro e w6 ⟨rfl, hp6⟩
  have p46 := hp5.trans hp6
  refine ⟨_, rfl, Br.of (fun d1 => zeroT_c ((((hp2.trans hp3).trans hp4).trans p46).blk hb1) (p4.trans p46) (Nat.le_refl _) fun u hv hu => ?_) (fun d1 => ?_)⟩
  · rw [(hpar u hv hu).1, decide_eq_true hu] at d1; cases d1
  have hbt : bytesS t = d := by simpa using d1
  exact copyT_c ((((hp2.trans hp3).trans hp4).trans p46).blk hb1) (p46.blk b3) (ho4.pu p46) hn (p4.trans p46) (Nat.le_refl _) lt1 hp1.size (.inl ⟨rfl, hv0, hbt, fun u hv hu => (hpar u hv hu).1⟩)
end Go.Proofs.YtecmfdfhpldmmaaGreatDoor

/- Table: the laws on the reading of bytes. No condition. -/
set_option maxRecDepth 100000
set_option maxHeartbeats 1000000
set_option linter.unusedVariables false
set_option linter.unusedSimpArgs false
namespace Go.Proofs.YtecmfdfhpldmmaaGreatDoor
open Go.Sh Go.RowKit
theorem tbl_eq {a b : Tbl} : (a = b) ↔ (a.page = b.page /\ a.fields = b.fields /\ a.recs = b.recs) := by
  obtain ⟨a1, a2, a3⟩ := a; obtain ⟨b1, b2, b3⟩ := b; simp
theorem sameT_c {w : World} {a b : Tbl} {fa ra fb rb : SV} (ha : RdTbl w a fa ra) (hb : RdTbl w b fb rb) : Calls Tryz.prog 43 #[tblA a fa ra, tblA b fb rb] w fun e w' => e = .returned (.bool (decide (a = b))) /\ Pu w w' := by
  refine F43_calls _ _ _ _ _ _ w _ (alB fun w1 hp1 hb1 => alB fun w2 hp2 hb2 => ?_)
  have hp02 := hp1.trans hp2
  have b1 : ∀ {wz}, Pu w2 wz -> _ := fun {wz} (h : Pu w2 wz) => tbl_blk (t := a) (f := fa) (q := ra) (h.blk (hp2.blk hb1))
  have b2 : ∀ {wz}, Pu w2 wz -> _ := fun {wz} (h : Pu w2 wz) => tbl_blk (t := b) (f := fb) (q := rb) (h.blk hb2)
  have c1 := (b1 (Pu.refl _)).1
  have c2 := (b2 (Pu.refl _)).1
  rw [add0] at c1 c2
  have no : ∀ {w' : World}, Pu w2 w' -> a ≠ b -> (Ending.returned (.bool false) = .returned (.bool (decide (a = b))) /\ Pu w w') := fun h hne => ⟨by rw [decide_eq_false hne], hp02.trans h⟩
  refine ⟨_, c1, _, c2, Br.of (fun d => no (Pu.refl _) fun e => bntrue d (by rw [e])) (fun d => ⟨_, (b1 (Pu.refl _)).2.1, _, (b2 (Pu.refl _)).2.1, (sameFields_c (RdF.of (ha.fields.pu hp02)) (RdF.of (hb.fields.pu hp02))).mono ?_⟩)⟩
  have hpg := bnfalse d
  rintro e w3 ⟨rfl, hp3⟩
  refine ⟨_, rfl, Br.of (fun d1 => no hp3 fun e => by rw [e] at d1; simp at d1) (fun d1 => ⟨_, (b1 hp3).2.2, _, (b2 hp3).2.2, ?_⟩)⟩
  have hfl : a.fields = b.fields := by simpa using d1
  have hla := ha.recs.len
  have hlb := hb.recs.len
  have hlm := ha.recs.lim
  refine Br.of (fun d2 => no hp3 fun e => bntrue d2 (by rw [hla, hlb, e])) (fun d2 => ?_)
  have hlen : a.recs.length = b.recs.length := by have := bnfalse d2; omega
  refine loopUp a.recs.length (fun k t w' => t = (k : Int) /\ a.recs.take k = b.recs.take k /\ Pu w2 w') ⟨rfl, by simp, hp3⟩ ?_
  rintro k J t w4 hk ⟨ht, he, hp⟩ hJ
  obtain rfl : t = (k : Int) := ht
  refine ⟨_, (b1 hp).2.2, Br.of (fun d3 => dwE_intro fun w5 hp5 _ => ?_) (fun d3 => ?_)⟩
  · have hk2 : k < a.recs.length := by have := dtrue d3; omega
    have p5 := hp.trans hp5
    obtain ⟨x, hx⟩ := at_k hk2
    obtain ⟨y, hy⟩ := at_k (show k < b.recs.length by omega)
    obtain ⟨p, sx, hpa, _, vx, x0, x1⟩ := recAt (ha.recs.pu (hp02.trans p5)) hx
    obtain ⟨q, sy, hqa, _, vy, y0, y1⟩ := recAt (hb.recs.pu (hp02.trans p5)) hy
    refine ⟨_, (b1 p5).2.2, p, hpa, by omega, by omega, _, x0, _, x1, _, (b2 p5).2.2, q, hqa, by omega, by omega, _, y0, _, y1, (sameRecord_c (RdV.of vx) (RdV.of vy)).mono ?_⟩
    rintro e w6 ⟨rfl, hp6⟩
    refine ⟨_, rfl, Br.of (fun d4 => no (p5.trans hp6) fun e => ?_) (fun d4 => ?_)⟩
    · have : x = y := by rw [e] at hx; rw [hx] at hy; exact Option.some.inj hy
      subst this
      simp at d4
    · rw [wrap_in (by omega) (by omega)]
      have hxy : x = y := by
        rw [rec_eq]
        simpa using d4
      exact hJ _ _ hk2 ⟨by omega, eq_of_take he hx hy hxy, p5.trans hp6⟩
  · have hk2 : k = a.recs.length := by have := dfalse d3; omega
    subst hk2
    rw [List.take_length, hlen, List.take_length] at he
    exact ⟨by rw [decide_eq_true (tbl_eq.2 ⟨hpg, hfl, he⟩)], hp02.trans hp⟩
theorem bytesS_len {t : Tbl} (h : validT t = 0) : (bytesS t).length <= 1000000 := by
  have ho := Okay.of h
  have h1 := bytes_len ho rfl
  have hw0 : 0 <= wide t.fields := by have := sum_le (WOk.of ho.all); unfold wide; omega
  have h3 : (t.recs.length : Int) * wide t.fields <= 300 * 2000 := Int.mul_le_mul (by have := ho.m300; omega) ho.w2 hw0 (by omega)
  have := ho.n16
  omega
theorem tableBack_c (w : World) (t : Tbl) (f r : SV) (h : RdTbl w t f r) (hl : Lim.ok t) : Calls Tryz.prog 9 #[tblA t f r] w fun e w' => e = .returned (.bool true) /\ Pu w w' := by
  have hlf : Lim.ok t.fields := hl.1
  refine F9_calls _ _ _ w _ (alB fun w1 hp1 hb1 => ?_)
  have b1 : ∀ {wz}, Pu w1 wz -> _ := fun {wz} (h : Pu w1 wz) => tbl_blk (t := t) (f := f) (q := r) (h.blk hb1)
  have h1 := h.pu hp1
  refine ⟨_, (b1 (Pu.refl _)).1, _, (b1 (Pu.refl _)).2.1, _, (b1 (Pu.refl _)).2.2, (over_c h1).mono ?_⟩
  rintro e w2 ⟨b, rfl, hp2⟩
  refine ⟨b, rfl, Br.of (fun _ => (known_c w2).mono ?_) (fun _ => ⟨_, (b1 hp2).1, _, (b1 hp2).2.1, _, (b1 hp2).2.2, (bytesE_c (h1.pu hp2) hlf).mono ?_⟩)⟩
  · rintro e w3 ⟨rfl, hp3⟩; exact ⟨_, rfl, rfl, (hp1.trans hp2).trans hp3⟩
  rintro e w3 ⟨q3, rfl, hq3, hp3⟩
  have p3 := hp2.trans hp3
  refine ⟨q3, _, rfl, Br.of (fun d => ⟨_, (b1 p3).1, _, (b1 p3).2.1, _, (b1 p3).2.2, (rValidTbl_c (h1.pu p3)).mono ?_⟩) (fun d => ?_)⟩
  · rintro e w4 ⟨rfl, hp4⟩
    refine ⟨_, rfl, Br.t (by simp) ((known_c w4).mono ?_)⟩
    rintro e w5 ⟨rfl, hp5⟩
    exact ⟨_, rfl, rfl, (hp1.trans p3).trans (hp4.trans hp5)⟩
  have hv : validT t = 0 := bnfalse d
  have hbo : bytesOut t = bytesS t := by unfold bytesOut; rw [if_pos hv]
  rw [hbo] at hq3
  have hbl := bytesS_len hv
  refine (read_c (hq3.by (by omega)) (by omega)).mono ?_
  rintro e w4 ⟨u, fu, ru, c, rfl, ho, hn, hp4, hout⟩
  obtain ⟨q1, q2⟩ : c = 0 /\ u = t := by
    rcases hout with ⟨h1, _, _, h4⟩ | ⟨_, _, h3⟩
    · exact ⟨h1, h4 t hv rfl⟩
    · exact absurd rfl (h3 t hv)
  refine ⟨_, fu, ru, c, rfl, boxA rfl s35.symm rfl fun w5 hp5 hs5 hb5 => Br.t (by rw [q1]; rfl) ?_⟩
  have p5 := (p3.trans hp4).trans hp5
  refine ⟨_, (b1 p5).1, _, (b1 p5).2.1, _, (b1 p5).2.2, _, cl hb5 0, fu, cl hb5 1, ru, cl hb5 2, (sameT_c (h1.pu p5) ((ho.pu hp5).rd hn)).mono ?_⟩
  rintro e w6 ⟨rfl, hp6⟩
  refine ⟨_, rfl, Br.t (decide_eq_true q2.symm) ((known_c w6).mono ?_)⟩
  rintro e w7 ⟨rfl, hp7⟩
  exact ⟨_, rfl, rfl, (hp1.trans p5).trans (hp6.trans hp7)⟩
theorem NewRow.set {w1 w : World} {s : SV} {l : List UInt8} (h : NewRow w1 w s l) (hp : Pu w1 w) {i : Nat} (hi : i < l.length) (b : UInt8) : ∃ a, s.a = some a /\ ∀ K : World -> Prop, (∀ w', NewRow w1 w' s (l.set i b) -> Pu w1 w' -> K w') -> st1 (a.add i) (u8V b) w K := by
  obtain ⟨a, ha, _⟩ := h.1.st1 (j := i) (by simpa using hi) (u8V b) (K := fun _ => True) fun _ _ _ _ => trivial
  refine ⟨a, ha, fun K hK => ?_⟩
  obtain ⟨a', ha', hst⟩ := h.1.st1 (j := i) (by simpa using hi) (u8V b) (K := K) fun w' h1 h2 _ => hK w' ⟨by rw [List.map_set]; exact h1, h.2⟩ (hp.andNew h2 fun i hi => h.2 i hi)
  rw [ha] at ha'; cases ha'
  exact hst
end Go.Proofs.YtecmfdfhpldmmaaGreatDoor
