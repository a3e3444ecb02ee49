import Derived.Test.YtecmfdfhpldmmaaGreatDoorTbOwB
import Derived.Test.YtecmfdfhpldmmaaGreatDoorTbPrB
import Derived.Lib.SlBytesRow
import Derived.Lib.BufferRead
import Derived.Test.YtecmfdfhpldmmaaGreatDoorShTwentyThree
/- Table: the program's header of a table. No condition. -/
set_option maxRecDepth 100000
set_option linter.unusedVariables false
set_option linter.unusedSimpArgs false
namespace Go.Proofs.YtecmfdfhpldmmaaGreatDoor
open Go.Sh Go.RowKit
def hdRest (R : Rt) (r1 r10 : Nat) (l14 : SV) (ds : Ds) (w21 : World) : Prop :=
  ∃ l15 : SV, ∃ w22 : World, (Builtin.append_ #[37, 37] 37 #[.slice (some ⟨r10, 0, none⟩) 2 2, .slice l14.a l14.len l14.cap]).run Tryz.prog w21 = .ok (.slice l15.a l15.len l15.cap) w22 /\
  ∃ l18 : SV, w22.cell? ((⟨r1, 0, none⟩ : Addr).add 1) = some (.slice l18.a l18.len l18.cap) /\
  Calls Tryz.prog 110 #[.int .i64 ((l18.len : Nat) : Int)] w22 fun e w23 =>
  ∃ n20 : Int, e = .returned (.int .i64 n20) /\
  Calls Tryz.prog 109 #[.int .i64 n20, .int .i64 2] w23 fun e w24 =>
  ∃ l21 : SV, e = .returned (.slice l21.a l21.len l21.cap) /\
  ∃ l22 : SV, ∃ w25 : World, (Builtin.append_ #[37, 37] 37 #[.slice l15.a l15.len l15.cap, .slice l21.a l21.len l21.cap]).run Tryz.prog w24 = .ok (.slice l22.a l22.len l22.cap) w25 /\
  ∃ l25 : SV, w25.cell? ((⟨r1, 0, none⟩ : Addr).add 1) = some (.slice l25.a l25.len l25.cap) /\
  Calls Tryz.prog 69 #[.slice l25.a l25.len l25.cap] w25 fun e w26 =>
  ∃ n26 : Int, e = .returned (.int .i64 n26) /\
  Calls Tryz.prog 109 #[.int .i64 n26, .int .i64 2] w26 fun e w27 =>
  ∃ l27 : SV, e = .returned (.slice l27.a l27.len l27.cap) /\
  ∃ l28 : SV, ∃ w28 : World, (Builtin.append_ #[37, 37] 37 #[.slice l22.a l22.len l22.cap, .slice l27.a l27.len l27.cap]).run Tryz.prog w27 = .ok (.slice l28.a l28.len l28.cap) w28 /\
  ∃ l31 : SV, w28.cell? ((⟨r1, 0, none⟩ : Addr).add 1) = some (.slice l31.a l31.len l31.cap) /\
  alE (.cells #[.int .u8 (IntKind.u8.wrap ((l31.len : Nat) : Int)), .int .u8 0] 5) w28 fun r34 w29 =>
  ∃ l35 : SV, ∃ w30 : World, (Builtin.append_ #[37, 37] 37 #[.slice l28.a l28.len l28.cap, .slice (some ⟨r34, 0, none⟩) 2 2]).run Tryz.prog w29 = .ok (.slice l35.a l35.len l35.cap) w30 /\
  ∃ l37 : SV, w30.cell? ((⟨r1, 0, none⟩ : Addr).add 1) = some (.slice l37.a l37.len l37.cap) /\
  F62_4 R l35 l37 ((l37.len : Nat) : Int) 0 ds w30
theorem flatMap_take {l : List Fld} {k : Nat} {f : Fld} (h : l[k]? = some f) : (l.take (k + 1)).flatMap fieldS = (l.take k).flatMap fieldS ++ fieldS f := by
  rw [take_at h, List.flatMap_append]; simp
theorem flatMap_le {l : List Fld} (h : ∀ f ∈ l, f.name.size <= 10) : (l.flatMap fieldS).length <= 16 * l.length := by
  induction l with
  | nil => simp
  | cons f l ih =>
    rw [List.flatMap_cons, List.length_append, fieldS_len (h f (by simp)), List.length_cons]
    have := ih fun g hg => h g (by simp [hg])
    omega
theorem byteCells_u8V (l : List UInt8) : Lib.byteCells l = l.map u8V := rfl
def zeros (n : Nat) : List Value := List.replicate n (.int .u8 0)
def entryC (s : ByteArray) (a b c : Value) : Array Value := (s.data.toList.map u8V ++ (List.replicate (10 - s.size) 0).map u8V ++ [a, b, c, .int .u8 0, .int .u8 0, .int .u8 0]).toArray
theorem entryC_size {s : ByteArray} (h : s.size <= 10) (a b c : Value) : (entryC s a b c).size = 16 := by
  unfold entryC; simp only [List.size_toArray, List.length_append, List.length_map, size_list, List.length_replicate, List.length_cons, List.length_nil]; omega
theorem entryC_set10 {s : ByteArray} (h : s.size <= 10) (a b c v : Value) : (entryC s a b c).setIfInBounds 10 v = entryC s v b c := by
  unfold entryC
  apply Array.toList_inj.1
  rw [Array.toList_setIfInBounds]
  simp only
  rw [List.set_append_right _ _ (by simp only [List.length_append, List.length_map, size_list, List.length_replicate]; omega)]
  simp only [List.length_append, List.length_map, size_list, List.length_replicate]
  rw [show 10 - (s.size + (10 - s.size)) = 0 by omega]; rfl
theorem entryC_set11 {s : ByteArray} (h : s.size <= 10) (a b c v : Value) : (entryC s a b c).setIfInBounds 11 v = entryC s a v c := by
  unfold entryC
  apply Array.toList_inj.1
  rw [Array.toList_setIfInBounds]
  simp only
  rw [List.set_append_right _ _ (by simp only [List.length_append, List.length_map, size_list, List.length_replicate]; omega)]
  simp only [List.length_append, List.length_map, size_list, List.length_replicate]
  rw [show 11 - (s.size + (10 - s.size)) = 1 by omega]; rfl
theorem entryC_set12 {s : ByteArray} (h : s.size <= 10) (a b c v : Value) : (entryC s a b c).setIfInBounds 12 v = entryC s a b v := by
  unfold entryC
  apply Array.toList_inj.1
  rw [Array.toList_setIfInBounds]
  simp only
  rw [List.set_append_right _ _ (by simp only [List.length_append, List.length_map, size_list, List.length_replicate]; omega)]
  simp only [List.length_append, List.length_map, size_list, List.length_replicate]
  rw [show 12 - (s.size + (10 - s.size)) = 2 by omega]; rfl
theorem entry_fieldS (f : Fld) : entryC f.name (u8V (letterB f.kind)) (u8V (byteI f.width)) (u8V (nullB f.null)) = ((fieldS f).map u8V).toArray := by
  unfold entryC fieldS
  simp only [List.map_append, List.map_cons, List.map_nil]; rfl
theorem copy_name {w : World} {r : Nat} {s : ByteArray} (hb : w.heap[r]? = some (.cells (zeros 16).toArray 123)) (hs : s.size <= 10) :
    ∃ (n : Int) (w' : World), (Builtin.copy_ #[37, 9] 3 #[.slice (some ⟨r, 0, none⟩) 10 10, .string s]).run Tryz.prog w = .ok (.int .i64 n) w' /\ w'.heap[r]? = some (.cells (entryC s (.int .u8 0) (.int .u8 0) (.int .u8 0)) 123) /\ Fr (· = r) w w' := by
  have h := Lib.run_copy_row_string (P := Tryz.prog) w 37 9 3 5 r 0 10 10 s (zeros 16).toArray 123 u37 (by have := info5; simp only [Option.map_eq_some_iff] at *; obtain ⟨i, h1, h2⟩ := this; exact ⟨i, h1, by simp at h2; exact h2.2.1⟩) hb (by omega) (by simp [zeros]; omega)
  refine ⟨_, _, h, ?_, ?_⟩
  · rw [setRow_heap w r _ _ 123 (0, 0) hb]
    congr 2
    unfold entryC
    rw [byteCells_u8V]
    simp only [List.take_zero, List.nil_append, Nat.zero_add, zeros]
    rw [List.drop_replicate]
    apply Array.toList_inj.1
    simp only [List.append_assoc]
    congr 1
    have e : (List.replicate (10 - s.size) (0 : UInt8)).map u8V = List.replicate (10 - s.size) (.int .u8 0) := by rw [List.map_replicate]; rfl
    rw [e, show 16 - s.size = (10 - s.size) + 6 by omega, ← List.replicate_append_replicate]; rfl
  · exact ⟨rfl, rfl, rfl, by simp, fun k _ hk => setRow_other w r k _ hk⟩
theorem headLoop_c {ww w0 w : World} (hww : Pu ww w0) {s l : SV} {fs : List Fld} {acc : List UInt8} (hz : w0.heap.size <= w.heap.size) (hp0 : Pu w0 w) (h : RdSl w0 s fs) (hr : NewRow w0 w l acc) (hall : fs.all fieldB = true) (hn : fs.length <= 16) (ha : acc.length <= 100) :
    F62_4 (fun e w' => ∃ q : SV, e = .returned (.slice q.a q.len q.cap) /\ NewRow ww w' q (acc ++ fs.flatMap fieldS ++ [13]) /\ Pu ww w') l s ((s.len : Nat) : Int) 0 [] w := by
  have hlen := h.len
  have n10 : ∀ f ∈ fs, f.name.size <= 10 := fun f hf => (field_parts (List.all_eq_true.1 hall f hf)).2.1
  refine loopUp fs.length (fun k t w' => t.2 = (k : Int) /\ NewRow w0 w' t.1 (acc ++ (fs.take k).flatMap fieldS) /\ Pu w0 w') ⟨rfl, by simpa using hr, hp0⟩ ?_
  rintro k J ⟨t1, t2⟩ w2 hk ⟨h2, hr2, hp2⟩ hJ
  obtain rfl : t2 = (k : Int) := h2
  have hr2 : NewRow w0 w2 t1 (acc ++ (fs.take k).flatMap fieldS) := hr2
  have hfl := flatMap_le (l := fs.take k) fun f hf => n10 f (List.mem_of_mem_take hf)
  have htl := List.length_take_le k fs
  dsimp only
  refine Br.of (fun d => ?_) (fun d => ?_)
  · have hk2 : k < fs.length := by have := dtrue d; omega
    obtain ⟨f, hf⟩ := at_k hk2
    have hfB := List.all_eq_true.1 hall f (List.mem_of_getElem? hf)
    obtain ⟨f1, f10, K, hK, hKl⟩ := field_parts hfB
    obtain ⟨a, ha', hi, _, _, _, c0, c1, c2, c3⟩ := fldAt (h.pu hp2) hf
    refine ⟨a, ha', by omega, by omega, _, c0, _, c1, _, c2, _, c3, boxA rfl s23.symm rfl fun w3 hp3 hs3 hb3 => alB fun w4 hp4 hb4 => dwE_intro fun w5 hp5 hh5 => ?_⟩
    have hb35 := (hp4.trans hp5).blk hb3
    have hb45 : w5.heap[w3.heap.size]? = some (.cells (zeros 16).toArray 123) := hp5.blk hb4
    have hlt : w2.heap.size < w3.heap.size := blk_lt hb3
    have hp05 : Pu w0 w5 := ((hp2.trans hp3).trans hp4).trans hp5
    refine ⟨fun u => u = w5, rfl, f.name, fun u hu => by subst hu; exact cl0 hb35, ⟨some ⟨w3.heap.size, 0, none⟩, 10, 10⟩, w5, slice123 _ w5, rfl, ?_⟩
    obtain ⟨n, w6, e6, hb6, hf6⟩ := copy_name hb45 f10
    refine ⟨n, w6, e6, dwE_intro fun w7 hp7 hh7 => ?_⟩
    have hb37 := hp7.blk (hf6.blk hb35 (show ¬ w2.heap.size = w3.heap.size by omega))
    have hb47 := hp7.blk hb6
    have hr7 : NewRow w0 w7 t1 (acc ++ (fs.take k).flatMap fieldS) := ((((hr2.pu hp3).pu hp4).pu hp5).fr hf6 fun b hb e => by
      have hb2 := hr2.1.lt b hb
      have e : b = w3.heap.size := e
      omega).pu hp7
    have hp07 : Pu w0 w7 := (hp05.andNew hf6 fun i hi => by have hi : i = w3.heap.size := hi; have := hp2.size; omega).trans hp7
    refine ⟨fun u => u.heap[w2.heap.size]? = some (.cells #[.string f.name, .int .i64 f.kind, .int .i64 f.width, .bool f.null] 23), hb37, f.kind, fun u hu => cl hu 1, f.width, fun u hu => cl hu 2, (kinds_c w7).mono ?_⟩
    rintro e w8 ⟨m, rfl, hm, hm2, hp8⟩
    have hb48 := hp8.blk hb47
    have hb38 := hp8.blk hb37
    have hsz : ∀ a b c, (entryC f.name a b c).size = 16 := entryC_size f10
    have z3 : w3.heap.size < w7.heap.size := blk_lt hb47
    refine ⟨some m, rfl, fun u => u.heap[w2.heap.size]? = some (.cells #[.string f.name, .int .i64 f.kind, .int .i64 f.width, .bool f.null] 23) /\ MapAt u intV kindV m kindsL, ⟨hb38, hm⟩, fun u hu => hu.1, K.letter, K.least, K.most, .func (.func K.wr) #[] #[], .func (.func K.rd) #[] #[], fun u hu => ?_, by omega, by omega, ?_⟩
    · have := kind_look hu.2 f.kind false
      rw [hK] at this; exact this
    · show st1 ((⟨w3.heap.size, 0, none⟩ : Addr).add 10) _ w8 _
      rw [add_def, Nat.zero_add]
      refine st1_intro hb48 (by rw [hsz]; omega) fun w9 hw9 hb9 => ?_
      have hf9 : Fr (· = w3.heap.size) w8 w9 := by rw [hw9]; exact Fr.cell w8 _ 10 _
      rw [entryC_set10 f10, hKl] at hb9
      have hb39 := hf9.blk hb38 (show ¬ w2.heap.size = w3.heap.size by omega)
      refine ⟨fun u => u.heap[w2.heap.size]? = some (.cells #[.string f.name, .int .i64 f.kind, .int .i64 f.width, .bool f.null] 23) /\ MapAt u intV kindV m kindsL, ⟨hb39, hm.fr hf9 (by omega)⟩, fun u hu => hu, by omega, by omega, ?_⟩
      show st1 ((⟨w3.heap.size, 0, none⟩ : Addr).add 11) _ w9 _
      rw [add_def, Nat.zero_add]
      refine st1_intro hb9 (by rw [hsz]; omega) fun w10 hw10 hb10 => ?_
      have hf10 : Fr (· = w3.heap.size) w9 w10 := by rw [hw10]; exact Fr.cell w9 _ 11 _
      rw [entryC_set11 f10, wrap_byte] at hb10
      have hb310 := hf10.blk hb39 (show ¬ w2.heap.size = w3.heap.size by omega)
      -- behind the last store
      have fin : ∀ {w11 : World}, Fr (· = w3.heap.size) w10 w11 -> w11.heap[w3.heap.size]? = some (.cells ((fieldS f).map u8V).toArray 123) ->
          ∃ l62 : SV, ∃ w12 : World, (Builtin.append_ #[37, 37] 37 #[.slice t1.a t1.len t1.cap, .slice (some (if 16 = 0 then (⟨w3.heap.size, 0, none⟩ : Addr) else (⟨w3.heap.size, 0, none⟩ : Addr).add (0 * 1))) (16 - 0) (16 - 0)]).run Tryz.prog w11 = .ok (.slice l62.a l62.len l62.cap) w12 /\ J (l62, (IntKind.i64.wrap ((k : Int) + 1))) w12 := fun {w11} hf11 hb11 => by
        have hfa : Fr (· = w3.heap.size) w8 w11 := (hf9.trans hf10 fun _ h _ => h).trans hf11 fun _ h _ => h
        have hr11 : NewRow w0 w11 t1 (acc ++ (fs.take k).flatMap fieldS) := (hr7.pu hp8).fr hfa fun b hb e => by
          have hb2 := hr2.1.lt b hb
          have e : b = w3.heap.size := e
          omega
        have hp011 : Pu w0 w11 := (hp07.trans hp8).andNew hfa fun i hi => by have hi : i = w3.heap.size := hi; have := hp2.size; omega
        obtain ⟨s', w12, e12, hr12, hf12⟩ := hr11.app hp011.size (m := ⟨some ⟨w3.heap.size, 0, none⟩, 16, 16⟩) (news := fieldS f) (fieldS_len f10).symm (fun j b hj => ⟨_, rfl, by rw [add_def, cell_blk hb11, Nat.zero_add]; simp [hj]⟩) (by rw [fieldS_len f10]; simp only [List.length_append]; omega)
        refine ⟨s', w12, e12, ?_⟩
        rw [wrap_in (by omega) (by omega)]
        refine hJ _ _ hk2 ⟨by dsimp only; omega, ?_, hp011.andNew hf12 fun i hi => hr11.2 i hi⟩
        rw [flatMap_take hf, ← List.append_assoc]; exact hr12
      refine ⟨_, cl hb310 3, Br.of (fun d1 => ⟨by omega, by omega, ?_⟩) (fun d1 => ⟨by omega, by omega, fin (Fr.refl _ _) ?_⟩)⟩
      · show st1 ((⟨w3.heap.size, 0, none⟩ : Addr).add 12) _ w10 _
        rw [add_def, Nat.zero_add]
        refine st1_intro hb10 (by rw [hsz]; omega) fun w11 hw11 hb11 => ⟨by omega, by omega, fin (by rw [hw11]; exact Fr.cell w10 _ 12 _) ?_⟩
        rw [entryC_set12 f10] at hb11
        rw [← entry_fieldS, d1]; exact hb11
      · rw [← entry_fieldS, d1]; exact hb10
  · have hk2 : k = fs.length := by have := dfalse d; omega
    subst hk2
    rw [List.take_length] at hr2 hfl
    refine alB fun w3 hp3 hb3 => ?_
    obtain ⟨s', w4, e4, hr4, hf4⟩ := (hr2.pu hp3).one (hp2.trans hp3).size (b := 13) hb3 rfl (by simp only [List.length_append]; omega)
    exact ⟨s', w4, e4, s', rfl, hr4.low hww.size, hww.trans ((hp2.trans hp3).andNew hf4 fun i hi => hr2.2 i hi)⟩
theorem hdRest_c {ww w0 w21 : World} (hww : Pu ww w0) {t : Tbl} {f r l14 : SV} {r1 r10 : Nat} (h : RdTbl w0 t f r) (hvf : validF t.fields = 0) (hrl : t.recs.length <= 1000000) (hp : Pu w0 w21) (hb1 : w0.heap[r1]? = some (.cells #[.int .i64 t.page, .slice f.a f.len f.cap, .slice r.a r.len r.cap] 35)) (h10 : w0.heap.size <= r10)
    (hb10 : w21.heap[r10]? = some (.cells #[.int .u8 67, .int .u8 (IntKind.u8.wrap t.page)] 5)) (hl : NewRow w0 w21 l14 (lowN t.recs.length 4)) :
    hdRest (fun e w' => ∃ q : SV, e = .returned (.slice q.a q.len q.cap) /\ NewRow ww w' q (headS t) /\ Pu ww w') r1 r10 l14 [] w21 := by
  obtain ⟨hne0, hall, hnd, hn16, hw⟩ := validF_ok hvf
  have hfl := h.fields.len
  rw [wrap_byte] at hb10
  have box : NewRow w0 w21 ⟨some ⟨r10, 0, none⟩, 2, 2⟩ [67, byteI t.page] := NewRow.box (l := [67, byteI t.page]) hb10 h10 (by simp)
  obtain ⟨l15, w22, e22, r15, f22⟩ := box.app hp.size (m := l14) (news := lowN t.recs.length 4) hl.len (fun j b hj => hl.cell hj) (by rw [lowN_len]; simp)
  have hp22 : Pu w0 w22 := hp.andNew f22 fun i hi => box.2 i hi
  refine ⟨l15, w22, e22, f, cl (hp22.blk hb1) 1, ?_⟩
  rw [hfl]
  refine (headLen_c t.fields.length (by omega) w22).mono ?_
  rintro e w23 ⟨rfl, hp23⟩
  refine ⟨_, rfl, (low_c (13 + 16 * t.fields.length) 2 (by omega) w23).mono ?_⟩
  rintro e w24 ⟨l21, rfl, r21, hp24⟩
  have hp24' := hp22.trans (hp23.trans hp24)
  have r15' := r15.pu (hp23.trans hp24)
  obtain ⟨l22, w25, e25, r22, f25⟩ := r15'.app hp24'.size (m := l21) (news := lowN (13 + 16 * t.fields.length) 2) r21.len (fun j b hj => r21.cell hj) (by simp only [List.length_append, lowN_len]; simp)
  have hp25 : Pu w0 w25 := hp24'.andNew f25 fun i hi => r15'.2 i hi
  refine ⟨l21, rfl, l22, w25, e25, f, cl (hp25.blk hb1) 1, (length_c (h.fields.pu hp25) (WOk.of hall)).mono ?_⟩
  rintro e w26 ⟨rfl, hp26⟩
  have hs := sum_le (WOk.of hall)
  have hw0 : wide t.fields = ((wide t.fields).toNat : Int) := by unfold wide at *; omega
  refine ⟨_, rfl, ?_⟩
  rw [show (Value.int .i64 (wide t.fields)) = .int .i64 (((wide t.fields).toNat : Nat) : Int) by rw [← hw0]]
  refine (low_c (wide t.fields).toNat 2 (by omega) w26).mono ?_
  rintro e w27 ⟨l27, rfl, r27, hp27⟩
  have hp27' := hp25.trans (hp26.trans hp27)
  have r22' := r22.pu (hp26.trans hp27)
  obtain ⟨l28, w28, e28, r28, f28⟩ := r22'.app hp27'.size (m := l27) (news := lowN (wide t.fields).toNat 2) r27.len (fun j b hj => r27.cell hj) (by simp only [List.length_append, lowN_len]; simp)
  have hp28 : Pu w0 w28 := hp27'.andNew f28 fun i hi => r22'.2 i hi
  refine ⟨l27, rfl, l28, w28, e28, f, cl (hp28.blk hb1) 1, alB fun w29 hp29 hb29 => ?_⟩
  rw [wrap_byte, hfl] at hb29
  have hp29' := hp28.trans hp29
  have box2 : NewRow w0 w29 ⟨some ⟨w28.heap.size, 0, none⟩, 2, 2⟩ [byteI (t.fields.length : Int), 0] := NewRow.box (l := [byteI (t.fields.length : Int), 0]) hb29 hp28.size (by simp)
  have r28' := r28.pu hp29
  obtain ⟨l35, w30, e30, r35, f30⟩ := r28'.app hp29'.size (m := ⟨some ⟨w28.heap.size, 0, none⟩, 2, 2⟩) (news := [byteI (t.fields.length : Int), 0]) rfl (fun j b hj => box2.cell hj) (by simp only [List.length_append, lowN_len]; simp)
  have hp30 : Pu w0 w30 := hp29'.andNew f30 fun i hi => r28'.2 i hi
  refine ⟨l35, w30, e30, f, cl (hp30.blk hb1) 1, ?_⟩
  exact headLoop_c hww hp30.size hp30 h.fields r35 hall hn16 (by simp only [List.length_append, lowN_len, List.length_cons, List.length_nil]; omega)
theorem header_c {w : World} {t : Tbl} {f r : SV} (h : RdTbl w t f r) (hvf : validF t.fields = 0) (hrl : t.recs.length <= 1000000) : Calls Tryz.prog 62 #[tblA t f r] w fun e w' => ∃ q : SV, e = .returned (.slice q.a q.len q.cap) /\ NewRow w w' q (headS t) /\ Pu w w' := by
  refine F62_calls _ _ _ w _ ?_
  refine alB fun w1 hp1 hb1 => dwE_intro fun w2 hp2 hh2 => ?_
  have hp12 := hp1.trans hp2
  have hb2 := hp2.blk hb1
  have hrlen := h.recs.len
  have z1 := hp12.size
  have up : ∀ {w21 r10 l14}, Pu w2 w21 -> w2.heap.size <= r10 -> w21.heap[r10]? = some (.cells #[.int .u8 67, .int .u8 (IntKind.u8.wrap t.page)] 5) -> NewRow w2 w21 l14 (lowN t.recs.length 4) ->
      hdRest (fun e w' => ∃ q : SV, e = .returned (.slice q.a q.len q.cap) /\ NewRow w w' q (headS t) /\ Pu w w') w.heap.size r10 l14 [] w21 := fun {w21 r10 l14} q1 q2 q3 q4 => by
    exact hdRest_c hp12 (h.pu hp12) hvf hrl q1 hb2 q2 q3 q4
  refine ⟨fun u => Pu w2 u, Pu.refl _, t.page, fun u hu => cl0 (hu.blk hb2), r, fun u hu => cl (hu.blk hb2) 2, ?_⟩
  rw [hrlen]
  constructor
  · refine alB fun w20 hp20 hb20 => ⟨hp20, (low_c t.recs.length 4 (by omega) w20).mono ?_⟩
    rintro e w21 ⟨l14, rfl, r14, hp21⟩
    exact ⟨l14, rfl, hp20.trans hp21, up (hp20.trans hp21) (Nat.le_refl _) (hp21.blk hb20) (r14.low hp20.size)⟩
  · refine (low_c t.recs.length 4 (by omega) w2).mono ?_
    rintro e w31 ⟨l14, rfl, r14, hp31⟩
    refine ⟨l14, rfl, hp31, alB fun w32 hp32 hb32 => ⟨hp31.trans hp32, up (hp31.trans hp32) hp31.size hb32 (r14.pu hp32)⟩⟩
theorem validT_fields0 {t : Tbl} (h : validT t = 0) : pageB t.page = true /\ validF t.fields = 0 /\ t.recs.length <= 300 /\ firstBad t.fields t.page t.recs = 0 := by
  unfold validT at h
  split at h
  · rename_i hp
    split at h
    · omega
    · rename_i hf
      split at h
      · omega
      · rename_i hr
        exact ⟨hp, by omega, by omega, h⟩
  · omega
theorem headerE_c {w : World} {t : Tbl} {f r : SV} (h : RdTbl w t f r) (hl : Lim.ok t.fields) : Calls Tryz.prog 19 #[tblA t f r] w fun e w' => ∃ q : SV, e = .returned (.tuple #[.slice q.a q.len q.cap, .int .i64 (validT t)]) /\ NewRow w w' q (if validT t = 0 then headS t else []) /\ Pu w w' := by
  refine F19_calls _ _ _ w _ ?_
  refine alB fun w1 hp1 hb1 => ⟨_, cl hb1 0, _, cl hb1 1, _, cl hb1 2, (validTbl_c (h.pu hp1) hl).mono ?_⟩
  rintro e w2 ⟨rfl, hp2⟩
  have hp12 := hp1.trans hp2
  refine ⟨_, rfl, Br.of (fun d => ⟨⟨none, 0, 0⟩, rfl, by rw [if_neg (bntrue d)]; exact NewRow.nil w w2, hp12⟩) (fun d => ⟨_, cl (hp2.blk hb1) 0, _, cl (hp2.blk hb1) 1, _, cl (hp2.blk hb1) 2, ?_⟩)⟩
  have d := bnfalse d
  obtain ⟨h1, h2, h3, _⟩ := validT_fields0 d
  refine (header_c (h.pu hp12) h2 (by omega)).mono ?_
  rintro e w3 ⟨q, rfl, hq, hp3⟩
  exact ⟨q, rfl, q, by rw [d], by rw [if_pos d]; exact hq.low hp12.size, hp12.trans hp3⟩
end Go.Proofs.YtecmfdfhpldmmaaGreatDoor

/- Table: the null flags of a record, as bytes. No condition. -/
set_option maxRecDepth 100000
set_option linter.unusedVariables false
set_option linter.unusedSimpArgs false
namespace Go.Proofs.YtecmfdfhpldmmaaGreatDoor
open Go.Sh Go.RowKit
def bit01 (bs : List Bool) (i j : Nat) : Nat := if bs[8 * i + j]? = some true then 2 ^ j else 0
def byteAt (bs : List Bool) (i : Nat) : Nat := bit01 bs i 0 + bit01 bs i 1 + bit01 bs i 2 + bit01 bs i 3 + bit01 bs i 4 + bit01 bs i 5 + bit01 bs i 6 + bit01 bs i 7
def flN (N : Nat) (bs : List Bool) : List UInt8 := (List.range N).map fun i => UInt8.ofNat (byteAt bs i)
theorem flN_len (N : Nat) (bs : List Bool) : (flN N bs).length = N := by simp [flN]
theorem flN_nil (N : Nat) : flN N [] = List.replicate N 0 := by
  unfold flN
  apply List.ext_getElem?
  intro i
  simp only [List.getElem?_map, List.getElem?_replicate]
  by_cases h : i < N
  · rw [List.getElem?_range h, if_pos h]; rfl
  · rw [if_neg h, List.getElem?_eq_none (by simp; omega)]; rfl
theorem get_snoc_false (bs : List Bool) (k : Nat) : ((bs ++ [false])[k]? = some true) ↔ (bs[k]? = some true) := by
  rcases Nat.lt_trichotomy k bs.length with h | h | h
  · rw [List.getElem?_append_left h]
  · subst h; simp
  · rw [List.getElem?_eq_none (by simp; omega), List.getElem?_eq_none (by omega)]
theorem get_snoc_true (bs : List Bool) (k : Nat) : ((bs ++ [true])[k]? = some true) ↔ (bs[k]? = some true ∨ k = bs.length) := by
  rcases Nat.lt_trichotomy k bs.length with h | h | h
  · rw [List.getElem?_append_left h]; constructor
    · exact .inl
    · rintro (h1 | h1)
      · exact h1
      · omega
  · subst h; simp
  · rw [List.getElem?_eq_none (by simp; omega), List.getElem?_eq_none (by omega)]; simp; omega
theorem flN_false (N : Nat) (bs : List Bool) : flN N (bs ++ [false]) = flN N bs := by
  unfold flN byteAt bit01
  simp only [get_snoc_false]
theorem bit01_true {bs : List Bool} {q r : Nat} (hm : bs.length = 8 * q + r) (hr : r < 8) (i j : Nat) (hj : j < 8) : bit01 (bs ++ [true]) i j = bit01 bs i j + (if i = q /\ j = r then 2 ^ j else 0) := by
  unfold bit01
  by_cases h : 8 * i + j = bs.length
  · have h1 : i = q /\ j = r := by omega
    have h2 : ¬ bs[8 * i + j]? = some true := by rw [List.getElem?_eq_none (by omega)]; simp
    rw [if_pos ((get_snoc_true _ _).2 (.inr h)), if_neg h2, if_pos h1]; omega
  · have h1 : ¬ (i = q /\ j = r) := by omega
    rw [if_neg h1, Nat.add_zero]
    by_cases h2 : bs[8 * i + j]? = some true
    · rw [if_pos ((get_snoc_true _ _).2 (.inl h2)), if_pos h2]
    · rw [if_neg (fun h3 => ((get_snoc_true _ _).1 h3).elim h2 h), if_neg h2]
theorem byteAt_true {bs : List Bool} {q r : Nat} (hm : bs.length = 8 * q + r) (hr : r < 8) (i : Nat) : byteAt (bs ++ [true]) i = byteAt bs i + (if i = q then 2 ^ r else 0) := by
  unfold byteAt
  rw [bit01_true hm hr i 0 (by omega), bit01_true hm hr i 1 (by omega), bit01_true hm hr i 2 (by omega), bit01_true hm hr i 3 (by omega), bit01_true hm hr i 4 (by omega), bit01_true hm hr i 5 (by omega), bit01_true hm hr i 6 (by omega), bit01_true hm hr i 7 (by omega)]
  by_cases h : i = q
  · simp only [h, true_and, if_true]
    rcases (by omega : r = 0 ∨ r = 1 ∨ r = 2 ∨ r = 3 ∨ r = 4 ∨ r = 5 ∨ r = 6 ∨ r = 7) with rfl | rfl | rfl | rfl | rfl | rfl | rfl | rfl <;> simp <;> omega
  · simp [h]
theorem bit01_le (bs : List Bool) (i j : Nat) : bit01 bs i j <= 2 ^ j := by
  unfold bit01; split
  · exact Nat.le_refl _
  · exact Nat.zero_le _
theorem bit01_zero {bs : List Bool} {q r j : Nat} (hm : bs.length = 8 * q + r) (hj : r <= j) : bit01 bs q j = 0 := by
  unfold bit01; rw [if_neg]; rw [List.getElem?_eq_none (by omega)]; simp
theorem byteAt_lt {bs : List Bool} {q r : Nat} (hm : bs.length = 8 * q + r) (hr : r < 8) : byteAt bs q < 2 ^ r := by
  have z : ∀ j, r <= j -> bit01 bs q j = 0 := fun j hj => bit01_zero hm hj
  have l0 := bit01_le bs q 0
  have l1 := bit01_le bs q 1
  have l2 := bit01_le bs q 2
  have l3 := bit01_le bs q 3
  have l4 := bit01_le bs q 4
  have l5 := bit01_le bs q 5
  have l6 := bit01_le bs q 6
  unfold byteAt
  rcases (by omega : r = 0 ∨ r = 1 ∨ r = 2 ∨ r = 3 ∨ r = 4 ∨ r = 5 ∨ r = 6 ∨ r = 7) with rfl | rfl | rfl | rfl | rfl | rfl | rfl | rfl
  · rw [z 0 (by omega), z 1 (by omega), z 2 (by omega), z 3 (by omega), z 4 (by omega), z 5 (by omega), z 6 (by omega), z 7 (by omega)]; omega
  · rw [z 1 (by omega), z 2 (by omega), z 3 (by omega), z 4 (by omega), z 5 (by omega), z 6 (by omega), z 7 (by omega)]; omega
  · rw [z 2 (by omega), z 3 (by omega), z 4 (by omega), z 5 (by omega), z 6 (by omega), z 7 (by omega)]; omega
  · rw [z 3 (by omega), z 4 (by omega), z 5 (by omega), z 6 (by omega), z 7 (by omega)]; omega
  · rw [z 4 (by omega), z 5 (by omega), z 6 (by omega), z 7 (by omega)]; omega
  · rw [z 5 (by omega), z 6 (by omega), z 7 (by omega)]; omega
  · rw [z 6 (by omega), z 7 (by omega)]; omega
  · rw [z 7 (by omega)]; omega
theorem flN_true {N : Nat} {bs : List Bool} {q r : Nat} (hm : bs.length = 8 * q + r) (hr : r < 8) (hq : q < N) : flN N (bs ++ [true]) = (flN N bs).set q (UInt8.ofNat (byteAt bs q + 2 ^ r)) := by
  apply List.ext_getElem?
  intro i
  rw [List.getElem?_set]
  unfold flN
  simp only [List.length_map, List.length_range, List.getElem?_map]
  by_cases hi : i < N
  · rw [List.getElem?_range hi]
    simp only [Option.map_some, byteAt_true hm hr]
    by_cases h : q = i
    · subst h; rw [if_pos rfl, if_pos rfl, if_pos hi]
    · rw [if_neg (fun e => h e.symm), if_neg h, Nat.add_zero]
  · rw [List.getElem?_eq_none (by simp; omega)]
    by_cases h : q = i
    · omega
    · rw [if_neg h]; rfl
theorem flN_at {N : Nat} {bs : List Bool} {q : Nat} (hq : q < N) : (flN N bs)[q]? = some (UInt8.ofNat (byteAt bs q)) := by
  unfold flN; rw [List.getElem?_map, List.getElem?_range hq]; rfl
theorem or_bit : ∀ r : Nat, r < 8 -> ∀ x : Nat, x < 2 ^ r -> (BitVec.ofInt 8 (x : Int) ||| BitVec.ofInt 8 (IntKind.u8.wrap ((1 : Int) * 2 ^ (min r 8)))).toNat = x + 2 ^ r := by decide +kernel
def nbits : List Fld -> List Val -> List Bool
  | [], _ => []
  | _, [] => []
  | f :: fs, v :: vs => if f.null then decide (v.kind = 0) :: nbits fs vs else nbits fs vs
theorem nbits_snoc : ∀ {l : List Fld} {vs : List Val} {k : Nat} {f : Fld} {v : Val}, l[k]? = some f -> vs[k]? = some v -> nbits (l.take (k + 1)) (vs.take (k + 1)) = nbits (l.take k) (vs.take k) ++ (if f.null then [decide (v.kind = 0)] else [])
  | [], _, _, _, _, h, _ => by simp at h
  | _ :: _, [], _, _, _, _, h => by simp at h
  | a :: l, b :: vs, 0, f, v, h, h2 => by
    simp at h h2; subst h h2
    simp only [List.take_succ_cons, List.take_zero, nbits]
    split <;> simp
  | a :: l, b :: vs, k + 1, f, v, h, h2 => by
    have ih := nbits_snoc (l := l) (vs := vs) (k := k) (f := f) (v := v) (by simpa using h) (by simpa using h2)
    simp only [List.take_succ_cons, nbits]
    by_cases hn : a.null = true
    · rw [if_pos hn, if_pos hn]; rw [ih]; rfl
    · rw [if_neg hn, if_neg hn]; exact ih
theorem nbits_len : ∀ (l : List Fld) (vs : List Val), (nbits l vs).length <= (l.filter (·.null)).length
  | [], _ => by simp [nbits]
  | _ :: _, [] => by simp [nbits]
  | f :: l, v :: vs => by
    have := nbits_len l vs
    unfold nbits
    rw [List.filter_cons]
    by_cases hn : f.null = true
    · rw [if_pos hn, if_pos hn]; simp only [List.length_cons]; omega
    · rw [if_neg hn, if_neg hn]; exact this
end Go.Proofs.YtecmfdfhpldmmaaGreatDoor

/- Table: the program's row of a record. No condition. -/
set_option maxRecDepth 100000
set_option linter.unusedVariables false
set_option linter.unusedSimpArgs false
namespace Go.Proofs.YtecmfdfhpldmmaaGreatDoor
open Go.Sh Go.RowKit
def rowRest (J1 : (Int × Int) -> World -> Prop) (r10 r11 : Nat) (p7 : Option Addr) (n8 n22 : Int) (w11 : World) : Prop :=
  ∃ n50 : Int, w11.cell? (⟨r11, 0, none⟩ : Addr) = some (.int .i64 n50) /\
  Br (n50 == 0) (
  ∃ n53 : Int, w11.cell? ((⟨r10, 0, none⟩ : Addr).add 2) = some (.int .i64 n53) /\
  Calls Tryz.prog 99 #[.string (⟨#[32]⟩ : ByteArray), .int .i64 n53] w11 fun e w28 =>
  ∃ s54 : ByteArray, e = .returned (.string s54) /\
  Calls Tryz.prog 111 #[.pointer p7, .string s54] w28 fun e w29 =>
  ∃ n55_0 : Int, ∃ v55_1 : Value, e = .returned (.tuple #[.int .i64 n55_0, v55_1]) /\
  J1 (n8, (IntKind.i64.wrap (n22 + 1))) w29) (
  dwE w11 fun w30 =>
  ∃ S6 : World -> Prop, S6 w30 /\
  ∃ n58 : Int, (∀ w', S6 w' -> w'.cell? ((⟨r10, 0, none⟩ : Addr).add 1) = some (.int .i64 n58)) /\
  ∃ s61_0 : ByteArray, (∀ w', S6 w' -> w'.cell? ((⟨r10, 0, none⟩ : Addr).add 0) = some (.string s61_0)) /\
  ∃ n61_1 : Int, (∀ w', S6 w' -> w'.cell? ((⟨r10, 0, none⟩ : Addr).add 1) = some (.int .i64 n61_1)) /\
  ∃ n61_2 : Int, (∀ w', S6 w' -> w'.cell? ((⟨r10, 0, none⟩ : Addr).add 2) = some (.int .i64 n61_2)) /\
  ∃ b61_3 : Bool, (∀ w', S6 w' -> w'.cell? ((⟨r10, 0, none⟩ : Addr).add 3) = some (.bool b61_3)) /\
  ∃ n62_0 : Int, (∀ w', S6 w' -> w'.cell? ((⟨r11, 0, none⟩ : Addr).add 0) = some (.int .i64 n62_0)) /\
  ∃ n62_1 : Int, (∀ w', S6 w' -> w'.cell? ((⟨r11, 0, none⟩ : Addr).add 1) = some (.int .i64 n62_1)) /\
  ∃ s62_2 : ByteArray, (∀ w', S6 w' -> w'.cell? ((⟨r11, 0, none⟩ : Addr).add 2) = some (.string s62_2)) /\
  Calls Tryz.prog 89 #[] w30 fun e w31 =>
  ∃ m56 : Option Nat, e = .returned (.map m56) /\
  ∃ S7 : World -> Prop, S7 w31 /\ (∀ u, S7 u -> S6 u) /\
  ∃ n59_0 : Int, ∃ n59_1 : Int, ∃ n59_2 : Int, ∃ v59_3 : Value, ∃ v59_4 : Value, (∀ w', S7 w' -> (Instr.lookup 104 (.map m56) (.int .i64 n58) false).run Tryz.prog w' = .ok (.agg #[.int .u8 n59_0, .int .i64 n59_1, .int .i64 n59_2, v59_3, v59_4]) w') /\
  fnE v59_3 fun f63 first63 cap63 =>
  hasBody Tryz.prog f63 = true /\ Calls Tryz.prog f63 (first63.toList ++ (([.agg #[.string s61_0, .int .i64 n61_1, .int .i64 n61_2, .bool b61_3], .agg #[.int .i64 n62_0, .int .i64 n62_1, .string s62_2]] : List Value) ++ cap63.toList)).toArray w31 fun e w32 =>
  ∃ s63 : ByteArray, e = .returned (.string s63) /\
  Calls Tryz.prog 111 #[.pointer p7, .string s63] w32 fun e w33 =>
  ∃ n64_0 : Int, ∃ v64_1 : Value, e = .returned (.tuple #[.int .i64 n64_0, v64_1]) /\
  J1 (n8, (IntKind.i64.wrap (n22 + 1))) w33)
theorem below_fr {B : Nat} {w w' : World} (h : Below B w w') : Fr (B <= ·) w w' := ⟨h.os, h.tape, h.output, h.size, fun k _ hk => h.block k (by omega)⟩
theorem bld_fr {T e : TypeId} {B b : Nat} {xs : List Value} {Bs : Nat -> Prop} {w w' : World} (h : Lib.IsBuilderF T e B b xs w) (hf : Fr Bs w w') (hn : ∀ i, B <= i -> ¬ Bs i) : Lib.IsBuilderF T e B b xs w' := by
  have one : ∀ {p}, Lib.BuilderAtF T e B b p xs w -> Lib.BuilderAtF T e B b p xs w' := by
    rintro p ⟨hB, v, hb, ⟨hl, ho⟩, hne⟩
    refine ⟨hB, v, hf.blk hb (hn b hB), ⟨hl, ?_⟩, hne⟩
    rcases ho with ho | ⟨g, cap, cur, fz, h1, h2, h3, h4⟩
    · exact .inl ho
    · exact .inr ⟨g, cap, cur, fz, h1, h2, hf.blk h3 (hn g h2), h4⟩
  exact h.elim (fun h => .inl (one h)) (fun h => .inr (one h))
theorem bld_new {w : World} {b : Nat} (hb : w.heap[b]? = some (.cells #[.pointer none, .slice none 0 0] 126)) : Lib.IsBuilderF 126 5 b b (Lib.byteCells []) w :=
  .inl ⟨Nat.le_refl _, .slice none 0 0, hb, ⟨rfl, .inl ⟨rfl, rfl⟩⟩, by simp [Value.ownBlock]⟩
theorem writeString_c {w : World} {B b : Nat} {acc : List UInt8} (s : List UInt8) (h : Lib.IsBuilderF 126 5 B b (Lib.byteCells acc) w) (hl : acc.length + s.length <= 140737488355328) (hB : B <= w.heap.size) :
    Calls Tryz.prog 111 #[.pointer (some ⟨b, 0, none⟩), .string (bs s)] w fun e w' => e = .returned (.tuple #[.int .i64 (s.length : Nat), .nilIface]) /\ Lib.IsBuilderF 126 5 B b (Lib.byteCells (acc ++ s)) w' /\ Below B w w' := by
  refine (Any.Builder_WriteString_k Tryz.lays166 Tryz.Builder_Extra_105 B b (Lib.byteCells acc) (bs s) w h (by rw [Lib.byteCells_length, bs_size]; exact hl) hB).mono ?_
  rintro e w' ⟨rfl, h1, h2, _⟩
  refine ⟨by rw [bs_size], ?_, h2⟩
  have e1 : Lib.byteCells (acc ++ s) = Lib.byteCells acc ++ Lib.strCells (bs s) := by
    unfold Lib.byteCells Lib.strCells; rw [List.map_append, bs_list]
  rw [e1]
  exact .inr h1
theorem u157 : Tryz.prog.underlying 157 = some (.pointer 5) := by kernel_rfl
theorem freeze_fr (w : World) (g n : Nat) : Fr (· = g) w (w.freeze ⟨g, 0, none⟩ n) := by
  unfold World.freeze
  split
  · exact Fr.refl _ _
  · refine ⟨rfl, rfl, rfl, by simp, fun k _ hk => ?_⟩
    have hk : ¬ g = k := fun e => hk e.symm
    simp only [Array.getElem?_modify, hk, if_false]
theorem builderString_c {w : World} {B b : Nat} {acc : List UInt8} (h : Lib.IsBuilderF 126 5 B b (Lib.byteCells acc) w) (h0 : acc ≠ []) : ∃ g cap, B <= g /\ w.cell? ⟨b, 1, none⟩ = some (.slice (some ⟨g, 0, none⟩) acc.length cap) /\ g < w.heap.size /\
    Calls Tryz.prog 112 #[.pointer (some ⟨b, 0, none⟩)] w fun e w' => e = .returned (.string (bs acc)) /\ Fr (· = g) w w' := by
  obtain ⟨p, hB, v, hb, ⟨hl, ho⟩, hne⟩ : ∃ p, Lib.BuilderAtF 126 5 B b p (Lib.byteCells acc) w := h.elim (fun h => ⟨_, h⟩) (fun h => ⟨_, h⟩)
  rw [Lib.byteCells_length] at ho
  have hpos : 0 < acc.length := List.length_pos_iff.2 h0
  rcases ho with ⟨_, hz⟩ | ⟨g, cap, cur, fz, rfl, hg, hgb, hfz, hcap, hmx, hcs, htk⟩
  · omega
  rw [Nat.mul_one] at hcs htk
  refine ⟨g, cap, hg, by rw [cell_blk hb]; rfl, blk_lt hgb, ?_⟩
  refine F112_calls _ w _ (dwE_intro fun w1 hp1 hh1 => ?_)
  have hb1 : w1.heap[b]? = some (.cells #[p, .slice (some ⟨g, 0, none⟩) acc.length cap] 126 (0, 0)) := hp1.blk hb
  have hg1 : w1.heap[g]? = some (.cells cur 5 fz) := hp1.blk hgb
  refine ⟨fun u => u = w1, rfl, ⟨some ⟨g, 0, none⟩, acc.length, cap⟩, fun u hu => by subst hu; exact cl hb1 1, ⟨some ⟨g, 0, none⟩, acc.length, cap⟩, fun u hu => by subst hu; exact cl hb1 1, some ⟨g, 0, none⟩, w1, Lib.run_unsafeSliceData_row _ _ _ _ _ _ (show cap ≠ 0 by omega), rfl, bs acc, w1.freeze ⟨g, 0, none⟩ acc.length, ?_, rfl, ?_⟩
  · refine Lib.run_unsafeString_row w1 157 3 9 5 u157 (by kernel_rfl) g cur.size (by simp [World.shape?, hg1]) acc h0 (by omega) (by unfold maxLen at hmx; omega) fun j x hx => ?_
    rw [add_def, cell_blk hg1, Nat.zero_add]
    have h1 : (cur.toList.take acc.length)[j]? = some (.int .u8 x.toNat) := by rw [htk]; simp [Lib.byteCells, hx]
    rw [List.getElem?_take] at h1
    split at h1
    · simpa using h1
    · cases h1
  · exact (Fr.pu hp1 : Fr (· = g) w w1).trans (freeze_fr w1 g _) fun _ h _ => h
theorem NewRow.str {w0 w : World} {s : SV} {l : List UInt8} (h : NewRow w0 w s l) (hz : w0.heap.size <= w.heap.size) (news : List UInt8) (hb : l.length + news.length <= 70368744177664) :
    ∃ (s' : SV) (w' : World), (Builtin.append_ #[37, 9] 37 #[.slice s.a s.len s.cap, .string (bs news)]).run Tryz.prog w = .ok (.slice s'.a s'.len s'.cap) w' /\ NewRow w0 w' s' (l ++ news) /\ Fr (· ∈ blkOf s) w w' := by
  have h1 := h.len
  have hi := info5
  obtain ⟨i, h2, h3, h4, h5⟩ := info_parts hi
  have own : w.ownsRow 0 5 1 (.slice s.a s.len s.cap) s.len (l.map u8V) := h.1.owns
  have own0 : w.ownsRow w0.heap.size 5 1 (.slice s.a s.len s.cap) s.len (l.map u8V) := by
    obtain ⟨q1, q2⟩ := own
    refine ⟨q1, ?_⟩
    rcases q2 with q2 | ⟨g, cap, cur, q3, _, q4⟩
    · exact .inl q2
    · refine .inr ⟨g, cap, cur, q3, h.2 g ?_, q4⟩
      simp only [Value.slice.injEq] at q3
      simp [blkOf, q3.1]
  obtain ⟨v2, w2, hr2, ho2, hg, _⟩ := Lib.run_append_own_string (P := Tryz.prog) w w0.heap.size 37 9 37 5 i u37 u9 h2 h3 h4 h5 _ _ _ own0 (bs news) (by rw [bs_size]; unfold maxLen; omega) (by rw [bs_size]; omega) hz
  have hs : Lib.strCells (bs news) = news.map u8V := by unfold Lib.strCells; rw [bs_list]; rfl
  rw [hs, ← List.map_append] at ho2
  have hfr : Fr (· ∈ blkOf s) w w2 := ⟨hg.os, hg.tape, hg.output, hg.size, fun k hk hn => hg.block k hk (fun e => hn (by
    cases ha : s.a with
    | none => rw [ha] at e; simp [Value.ownBlock] at e
    | some a => rw [ha] at e; simp only [Value.ownBlock, Option.some.injEq] at e; simp [blkOf, ha, e]))⟩
  obtain ⟨q1, q2⟩ := ho2
  rcases q2 with ⟨q2, q3⟩ | ⟨g, cap, cur, q2, q3, q4, q5, q6, q7, q8⟩
  · refine ⟨⟨none, 0, 0⟩, w2, by rw [hr2, q2], ⟨⟨by rw [q1, q3], .inl rfl⟩, by simp [blkOf]⟩, hfr⟩
  · exact ⟨⟨some ⟨g, 0, none⟩, s.len + (bs news).size, cap⟩, w2, by rw [hr2, q2], ⟨⟨q1, .inr ⟨g, cur, rfl, q4, q5, q6, q7, q8⟩⟩, fun b hb => by simp [blkOf] at hb; omega⟩, hfr⟩
theorem NewRow.app' {w0 w : World} {s m : SV} {l news : List UInt8} (h : NewRow w0 w s l) (hz : w0.heap.size <= w.heap.size) (hl : m.len = news.length) (hn : ∀ (j : Nat) (b : UInt8), news[j]? = some b -> ∃ a, m.a = some a /\ w.cell? (a.add j) = some (u8V b)) (hb : l.length + news.length <= 70368744177664) :
    ∃ (s' : SV) (w' : World), (Builtin.append_ #[37, 37] 37 #[.slice s.a s.len s.cap, .slice m.a m.len m.cap]).run Tryz.prog w = .ok (.slice s'.a s'.len s'.cap) w' /\ NewRow w0 w' s' (l ++ news) /\ Fr (· ∈ blkOf s) w w' /\ ∀ k ∈ blkOf s', k ∈ blkOf s ∨ w.heap.size <= k := by
  have h1 := h.len
  obtain ⟨s', w', hr, hrow, hf, hblk, _⟩ := row_append_list (P := Tryz.prog) (ty := 37) u37 info5 rfl h.1 (m := m) (news := news.map u8V) (by simpa using hl) (fun j u hu => by
    obtain ⟨b, hb, rfl⟩ : ∃ b, news[j]? = some b /\ u8V b = u := by simpa using hu
    exact hn j b hb) (fun u hu => by simp at hu; obtain ⟨x, _, rfl⟩ := hu; rfl) (by omega)
  refine ⟨s', w', hr, ⟨by rw [List.map_append]; exact hrow, fun b hb => ?_⟩, hf, hblk⟩
  rcases hblk b hb with h2 | h2
  · exact h.2 b h2
  · omega
def cellS (sh : Fld -> Val -> List UInt8) (f : Fld) (v : Val) : List UInt8 := if v.kind = 0 then List.replicate f.width.toNat 32 else sh f v
def Writes (sh : Fld -> Val -> List UInt8) (l : List Fld) (vs : List Val) : Prop := ∀ (i : Nat) f v, l[i]? = some f -> vs[i]? = some v -> v.kind ≠ 0 -> (sh f v).length <= 1000 /\ ∃ K, kindOf5 f.kind = some K /\ hasBody Tryz.prog K.wr = true /\
  ∀ w, Calls Tryz.prog K.wr #[fldA f, valA v] w fun e w' => e = .returned (.string (bs (sh f v))) /\ Pu w w'
theorem rowRest_c {sh : Fld -> Val -> List UInt8} {w : World} {r10 r11 b : Nat} {f : Fld} {v : Val} {acc : List UInt8} {nb n22 : Int} {J : (Int × Int) -> World -> Prop} (hw : 0 <= f.width /\ f.width <= 1000)
    (hW : v.kind ≠ 0 -> (sh f v).length <= 1000 /\ ∃ K, kindOf5 f.kind = some K /\ hasBody Tryz.prog K.wr = true /\ ∀ w, Calls Tryz.prog K.wr #[fldA f, valA v] w fun e w' => e = .returned (.string (bs (sh f v))) /\ Pu w w')
    (hb10 : w.heap[r10]? = some (.cells #[.string f.name, .int .i64 f.kind, .int .i64 f.width, .bool f.null] 23)) (hb11 : w.heap[r11]? = some (.cells #[.int .i64 v.kind, .int .i64 v.n, .string v.s] 25))
    (hB : Lib.IsBuilderF 126 5 b b (Lib.byteCells acc) w) (hbs : b < w.heap.size) (ha : acc.length <= 1000000)
    (hJ : ∀ w', Lib.IsBuilderF 126 5 b b (Lib.byteCells (acc ++ cellS sh f v)) w' -> Below b w w' -> J (nb, IntKind.i64.wrap (n22 + 1)) w') :
    rowRest J r10 r11 (some ⟨b, 0, none⟩) nb n22 w := by
  have pub : ∀ {w'}, Pu w w' -> Below b w w' := fun h => Below.mono h (by omega)
  refine ⟨_, cl0 hb11, Br.of (fun d => ⟨_, cl hb10 2, ?_⟩) (fun d => ?_)⟩
  · have ew : f.width = ((f.width.toNat : Nat) : Int) := by omega
    rw [show (Value.int .i64 f.width) = .int .i64 ((f.width.toNat : Nat) : Int) by rw [← ew]]
    refine (repeat_c 32 f.width.toNat (by omega) w).mono ?_
    rintro e w2 ⟨rfl, hp2⟩
    refine ⟨_, rfl, (writeString_c (List.replicate f.width.toNat 32) (bld_fr hB (Fr.pu hp2 : Fr (fun _ => False) w w2) fun _ _ h => h) (by simp only [List.length_replicate]; omega) (by have := hp2.size; omega)).mono ?_⟩
    rintro e w3 ⟨rfl, hB3, hbl⟩
    have : cellS sh f v = List.replicate f.width.toNat 32 := by unfold cellS; rw [if_pos (btrue d)]
    rw [← this] at hB3
    exact ⟨_, _, rfl, hJ w3 hB3 ((pub hp2).trans hbl)⟩
  · have d := bfalse d
    obtain ⟨hlen, K, hK, hbody, hcall⟩ := hW d
    refine dwE_intro fun w2 hp2 hh2 => ⟨fun u => Pu w2 u, Pu.refl _, f.kind, fun u hu => cl (hu.blk (hp2.blk hb10)) 1, f.name, fun u hu => cl (hu.blk (hp2.blk hb10)) 0, f.kind, fun u hu => cl (hu.blk (hp2.blk hb10)) 1, f.width, fun u hu => cl (hu.blk (hp2.blk hb10)) 2, f.null, fun u hu => cl (hu.blk (hp2.blk hb10)) 3,
      v.kind, fun u hu => cl (hu.blk (hp2.blk hb11)) 0, v.n, fun u hu => cl (hu.blk (hp2.blk hb11)) 1, v.s, fun u hu => cl (hu.blk (hp2.blk hb11)) 2, (kinds_c w2).mono ?_⟩
    rintro e w3 ⟨m, rfl, hm, _, hp3⟩
    refine ⟨some m, rfl, fun u => Pu w3 u, Pu.refl _, fun u hu => hp3.trans hu, K.letter, K.least, K.most, .func (.func K.wr) #[] #[], .func (.func K.rd) #[] #[], fun u hu => ?_, hbody, ?_⟩
    · have := kind_look (hm.pu hu) f.kind false
      rw [hK] at this; exact this
    refine (hcall w3).mono ?_
    rintro e w4 ⟨rfl, hp4⟩
    have hp24 := (hp2.trans hp3).trans hp4
    refine ⟨_, rfl, (writeString_c (sh f v) (bld_fr hB (Fr.pu hp24 : Fr (fun _ => False) w w4) fun _ _ h => h) (by omega) (by have := hp24.size; omega)).mono ?_⟩
    rintro e w5 ⟨rfl, hB5, hbl⟩
    have : cellS sh f v = sh f v := by unfold cellS; rw [if_neg d]
    rw [← this] at hB5
    exact ⟨_, _, rfl, hJ w5 hB5 ((pub hp24).trans hbl)⟩
end Go.Proofs.YtecmfdfhpldmmaaGreatDoor

/- Table: the program's row of a record, walked. No condition. -/
set_option maxRecDepth 100000
set_option linter.unusedVariables false
set_option linter.unusedSimpArgs false
namespace Go.Proofs.YtecmfdfhpldmmaaGreatDoor
open Go.Sh Go.RowKit
def goneB (b : Bool) : UInt8 := if b then 42 else 32
def cellsS (sh : Fld -> Val -> List UInt8) (l : List Fld) (vs : List Val) : List UInt8 := (l.zip vs).flatMap fun x => cellS sh x.1 x.2
def rowS (sh : Fld -> Val -> List UInt8) (l : List Fld) (r : Rec) : List UInt8 := [goneB r.gone] ++ flN (nulls l) (nbits l r.v) ++ cellsS sh l r.v
theorem cellsS_take {sh : Fld -> Val -> List UInt8} {l : List Fld} {vs : List Val} {k : Nat} {f : Fld} {v : Val} (h : l[k]? = some f) (h2 : vs[k]? = some v) : cellsS sh (l.take (k + 1)) (vs.take (k + 1)) = cellsS sh (l.take k) (vs.take k) ++ cellS sh f v := by
  unfold cellsS
  rw [take_at h, take_at h2, List.zip_append (by
    have h1 := (List.getElem?_eq_some_iff.1 h).1
    have h3 := (List.getElem?_eq_some_iff.1 h2).1
    rw [List.length_take, List.length_take]; omega), List.flatMap_append]
  simp
theorem cellS_len {sh : Fld -> Val -> List UInt8} {f : Fld} {v : Val} (hw : 0 <= f.width /\ f.width <= 254) (hs : v.kind ≠ 0 -> (sh f v).length <= 1000) : (cellS sh f v).length <= 1000 := by
  unfold cellS
  by_cases h : v.kind = 0
  · rw [if_pos h, List.length_replicate]; omega
  · rw [if_neg h]; exact hs h
theorem cellsS_len {sh : Fld -> Val -> List UInt8} {l : List Fld} {vs : List Val} (hw : WOk l) (hW : Writes sh l vs) : ∀ k, k <= l.length -> k <= vs.length -> (cellsS sh (l.take k) (vs.take k)).length <= 1000 * k
  | 0, _, _ => by simp [cellsS]
  | k + 1, h1, h2 => by
    obtain ⟨f, hf⟩ := at_k (show k < l.length by omega)
    obtain ⟨v, hv⟩ := at_k (show k < vs.length by omega)
    rw [cellsS_take hf hv, List.length_append]
    have := cellsS_len hw hW k (by omega) (by omega)
    have := cellS_len (sh := sh) (v := v) (hw f (List.mem_of_getElem? hf)) (fun h => (hW k f v hf hv h).1)
    omega
theorem filter_take_le (l : List Fld) (k : Nat) : ((l.take k).filter (·.null)).length <= (l.filter (·.null)).length := ((List.take_sublist k l).filter _).length_le
structure RowSt (w : World) (r3 r12 b : Nat) (t l6 : SV) (g : Bool) (N : Nat) (bits : List Bool) (acc : List UInt8) (w' : World) : Prop where
  pu : Pu w w'
  rcd : w'.heap[r3]? = some (.cells #[.bool g, .slice t.a t.len t.cap] 46)
  out : w'.heap[r12]? = some (.cells #[u8V (goneB g)] 5)
  fl : NewRow w w' l6 (flN N bits)
  bld : Lib.IsBuilderF 126 5 b b (Lib.byteCells acc) w'
  lt : b < w'.heap.size
theorem RowSt.below {w : World} {r3 r12 b : Nat} {t l6 : SV} {g : Bool} {N : Nat} {bits : List Bool} {acc acc' : List UInt8} {w' w2 : World} (h : RowSt w r3 r12 b t l6 g N bits acc w') (h3 : r3 < b) (h12 : r12 < b) (h6 : ∀ k ∈ blkOf l6, k < b) (hb : w.heap.size <= b) (hB : Below b w' w2) (hbld : Lib.IsBuilderF 126 5 b b (Lib.byteCells acc') w2) : RowSt w r3 r12 b t l6 g N bits acc' w2 :=
  ⟨Below.trans h.pu (hB.mono hb), by rw [hB.block _ h3]; exact h.rcd, by rw [hB.block _ h12]; exact h.out, h.fl.fr (below_fr hB) fun k hk e => by have := h6 k hk; have e : b <= k := e; omega, hbld, Nat.lt_of_lt_of_le h.lt hB.size⟩
theorem row_c {w : World} {sh : Fld -> Val -> List UInt8} {l : List Fld} {s t : SV} {r : Rec} (h : RdSl w s l) (hr : RdSl w t r.v) (hl : r.v.length = l.length) (h16 : l.length <= 16) (hwid : WOk l) (hW : Writes sh l r.v) (hne : cellsS sh l r.v ≠ []) :
    Calls Tryz.prog 63 #[.slice s.a s.len s.cap, .agg #[.bool r.gone, .slice t.a t.len t.cap]] w fun e w' => ∃ q : SV, e = .returned (.slice q.a q.len q.cap) /\ NewRow w w' q (rowS sh l r) /\ Pu w w' := by
  refine F63_calls _ _ _ w _ ?_
  have hsl := h.len
  have htl := hr.len
  have hnl := nulls_le l
  have hN0 : (nulls l) = ((l.filter (·.null)).length + 7) / 8 := rfl
  refine alB fun w1 hp1 hb1 => alB fun w2 hp2 hb2 => ⟨_, cl0 (hp2.blk hb1), ?_⟩
  have l1 : w.heap.size < w1.heap.size := blk_lt hb1
  have l2 : w1.heap.size < w2.heap.size := blk_lt hb2
  have hp02 := hp1.trans hp2
  -- behind the first byte
  have main : ∀ {w3 : World}, Pu w w3 -> w3.heap[w.heap.size]? = some (.cells #[.bool r.gone, .slice t.a t.len t.cap] 46) -> w3.heap[w1.heap.size]? = some (.cells #[u8V (goneB r.gone)] 5) ->
      Calls Tryz.prog 71 #[.slice s.a s.len s.cap] w3 fun e w38 => ∃ n18 : Int, e = .returned (.int .i64 n18) /\ ∃ l19 : SV, ∃ w39 : World, (Instr.makeSlice 37 (.int .i64 n18) (.int .i64 n18)).run Tryz.prog w38 = .ok (.slice l19.a l19.len l19.cap) w39 /\
        alE (.cells #[.pointer none, .slice none 0 0] 126) w39 fun r7 w40 =>
        F63_4 (fun e w' => ∃ q : SV, e = .returned (.slice q.a q.len q.cap) /\ NewRow w w' q (rowS sh l r) /\ Pu w w') (some (⟨w.heap.size, 0, none⟩ : Addr)) ⟨(some ⟨w1.heap.size, 0, none⟩), 1, 1⟩ l19 (some (⟨r7, 0, none⟩ : Addr)) 0 s ((s.len : Nat) : Int) 0 [] w40 := fun {w3} hp3 hb3 hb3' => by
    refine (nullBytes_c (h.pu hp3)).mono ?_
    rintro e w4 ⟨rfl, hp4⟩
    obtain ⟨i, i1, i2, i3, i4⟩ := info_parts info5
    obtain ⟨w5, e5, row5, hp5, s5⟩ := row_make (P := Tryz.prog) (w := w4) u37 i1 i2 i3 .i64 .i64 (nulls l) (by rw [i4]; omega) (by omega)
    refine ⟨_, rfl, ⟨some ⟨w4.heap.size, 0, none⟩, nulls l, nulls l⟩, w5, e5, alB fun w6 hp6 hb6 => ?_⟩
    have l3 : w1.heap.size < w3.heap.size := blk_lt hb3'
    have z4 : w3.heap.size <= w4.heap.size := hp4.size
    have fl6 : NewRow w w6 ⟨some ⟨w4.heap.size, 0, none⟩, nulls l, nulls l⟩ (flN (nulls l) []) := by
      refine ⟨(?_ : RowAt w5 5 1 _ _).pu hp6, fun b hb => by simp [blkOf] at hb; have := hp3.size; omega⟩
      rw [flN_nil, List.map_replicate]
      rw [show (Value.int IntKind.u8 0).cells = #[.int .u8 0] from rfl, toList_madeCells_one, Nat.mul_one] at row5
      exact row5
    have st0 : RowSt w w.heap.size w1.heap.size w5.heap.size t ⟨some ⟨w4.heap.size, 0, none⟩, nulls l, nulls l⟩ r.gone (nulls l) [] [] w6 :=
      ⟨((hp3.trans hp4).trans hp5).trans hp6, ((hp4.trans hp5).trans hp6).blk hb3, ((hp4.trans hp5).trans hp6).blk hb3', fl6, bld_new hb6, blk_lt hb6⟩
    have c3 : w.heap.size < w5.heap.size := by omega
    have c12 : w1.heap.size < w5.heap.size := by omega
    have c6 : ∀ k ∈ blkOf (⟨some ⟨w4.heap.size, 0, none⟩, nulls l, nulls l⟩ : SV), k < w5.heap.size := fun k hk => by simp [blkOf] at hk; omega
    have hb0 : w.heap.size <= w5.heap.size := by omega
    generalize hq6 : (⟨some ⟨w4.heap.size, 0, none⟩, nulls l, nulls l⟩ : SV) = l6 at *
    have hl6len : l6.len = nulls l := by rw [← hq6]
    refine loopUp l.length (fun k u w' => u.2 = (k : Int) /\ u.1 = ((nbits (l.take k) (r.v.take k)).length : Nat) /\ RowSt w w.heap.size w1.heap.size w5.heap.size t l6 r.gone (nulls l) (nbits (l.take k) (r.v.take k)) (cellsS sh (l.take k) (r.v.take k)) w') ⟨rfl, rfl, st0⟩ ?_
    rintro k J ⟨u1, u2⟩ w7 hk ⟨hu2, hu1, st⟩ hJ
    obtain rfl : u2 = (k : Int) := hu2
    obtain rfl : u1 = ((nbits (l.take k) (r.v.take k)).length : Nat) := hu1
    have hcl := cellsS_len hwid hW k hk (by omega)
    dsimp only
    refine Br.of (fun d => ?_) (fun d => ?_)
    · have hk2 : k < l.length := by have := dtrue d; omega
      obtain ⟨f, hf⟩ := at_k hk2
      obtain ⟨v, hv⟩ := at_k (show k < r.v.length by omega)
      obtain ⟨a, ha, hi, _, _, _, k0, k1, k2, k3⟩ := fldAt (h.pu st.pu) hf
      refine ⟨a, ha, by omega, by omega, _, k0, _, k1, _, k2, _, k3, boxA rfl s23.symm rfl fun w8 hp8 hs8 hb8 => ?_⟩
      obtain ⟨m, hm, hmi, _, _, v0, v1, v2⟩ := valAt (hr.pu (st.pu.trans hp8)) hv
      refine ⟨t, cl (hp8.blk st.rcd) 1, m, hm, by omega, by omega, _, v0, _, v1, _, v2, boxA rfl s25.symm rfl fun w9 hp9 hs9 hb9 => ?_⟩
      have hb8' := hp9.blk hb8
      have hp79 := hp8.trans hp9
      have hlt := st.lt
      have z79 := hp79.size
      have up : ∀ {w' : World} {B : Nat -> Prop} {bits : List Bool}, Fr B w7 w' -> (∀ i, B i -> i < w5.heap.size) -> (¬ B w.heap.size) -> (¬ B w1.heap.size) -> (∀ i, B i -> w.heap.size <= i) -> NewRow w w' l6 (flN (nulls l) bits) -> RowSt w w.heap.size w1.heap.size w5.heap.size t l6 r.gone (nulls l) bits (cellsS sh (l.take k) (r.v.take k)) w' := fun {w' B bits} hf q1 q2 q3 q4 q5 =>
        ⟨st.pu.andNew hf q4, hf.blk st.rcd q2, hf.blk st.out q3, q5, bld_fr st.bld hf fun i hi hB => by have := q1 i hB; omega, Nat.lt_of_lt_of_le hlt hf.size⟩
      -- the end of the round
      have rest : ∀ {wz : World} {bits : List Bool}, RowSt w w.heap.size w1.heap.size w5.heap.size t l6 r.gone (nulls l) bits (cellsS sh (l.take k) (r.v.take k)) wz -> wz.heap[w7.heap.size]? = some (.cells #[.string f.name, .int .i64 f.kind, .int .i64 f.width, .bool f.null] 23) -> wz.heap[w8.heap.size]? = some (.cells #[.int .i64 v.kind, .int .i64 v.n, .string v.s] 25) ->
          bits = nbits (l.take (k + 1)) (r.v.take (k + 1)) -> ∀ {nb : Int}, nb = (bits.length : Nat) -> rowRest J w7.heap.size w8.heap.size (some ⟨w5.heap.size, 0, none⟩) nb (k : Int) wz := fun {wz bits} q1 q2 q3 q4 {nb} q5 => by
        refine rowRest_c (sh := sh) (by have := hwid f (List.mem_of_getElem? hf); omega) (hW k f v hf hv) q2 q3 q1.bld q1.lt (by omega) fun w' hb' hbl => ?_
        rw [wrap_in (by omega) (by omega)]
        refine hJ _ _ hk2 ⟨by dsimp only; omega, by rw [q5, q4], ?_⟩
        rw [← q4, cellsS_take hf hv]
        exact q1.below c3 c12 c6 hb0 hbl hb'
      have hns := nbits_snoc hf hv
      refine ⟨_, cl hb8' 3, Br.of (fun d1 => ⟨_, cl0 hb9, Br.of (fun d2 => ?_) (fun d2 => ?_)⟩) (fun d1 => ?_)⟩
      · -- no value: its flag is set
        rw [if_pos d1, decide_eq_true (btrue d2)] at hns
        generalize hbits : nbits (l.take k) (r.v.take k) = bits at *
        have hm1 : bits.length + 1 <= (l.filter (·.null)).length := by
          have h1 := nbits_len (l.take (k + 1)) (r.v.take (k + 1))
          have h2 := filter_take_le l (k + 1)
          rw [hns] at h1; simp only [List.length_append, List.length_singleton] at h1; omega
        obtain ⟨q, ρ, hqr, hρ⟩ : ∃ q ρ, bits.length = 8 * q + ρ /\ ρ < 8 := ⟨bits.length / 8, bits.length % 8, by omega, by omega⟩
        have hqN : q < nulls l := by omega
        have e1 : ((bits.length : Nat) : Int).tdiv 8 = (q : Int) := by rw [Int.tdiv_eq_ediv_of_nonneg (by omega)]; omega
        have e2 : ((bits.length : Nat) : Int).tmod 8 = (ρ : Int) := by rw [Int.tmod_eq_emod_of_nonneg (by omega)]; omega
        rw [e1, e2, wrap_in (n := (q : Int)) (by omega) (by omega), wrap_in (n := ((bits.length : Nat) : Int) + 1) (by have := List.length_filter_le (·.null) l; omega) (by have := List.length_filter_le (·.null) l; omega)]
        refine dwE_intro fun w10 hp10 hh10 => ?_
        have fl10 : NewRow w w10 l6 (flN (nulls l) bits) := (st.fl.pu hp79).pu hp10
        have hbl := byteAt_lt hqr hρ
        have hpow : 2 ^ ρ <= 128 := by
          rcases (by omega : ρ = 0 ∨ ρ = 1 ∨ ρ = 2 ∨ ρ = 3 ∨ ρ = 4 ∨ ρ = 5 ∨ ρ = 6 ∨ ρ = 7) with rfl | rfl | rfl | rfl | rfl | rfl | rfl | rfl <;> decide
        obtain ⟨a6, ha6, hc6⟩ := fl10.cell (flN_at hqN)
        have ebyte : u8V (UInt8.ofNat (byteAt bits q)) = .int .u8 ((byteAt bits q : Nat) : Int) := by
          unfold u8V; congr 2; simp; omega
        rw [ebyte] at hc6
        refine ⟨rfl, by omega, a6, ha6, by omega, by omega, _, by rw [Int.toNat_natCast, Nat.mul_one]; exact hc6, rfl, by omega, by omega, ?_⟩
        rw [Int.toNat_natCast, Int.toNat_natCast, Nat.mul_one, or_bit ρ hρ _ hbl, wrap_byte]
        have ev : byteI ((byteAt bits q + 2 ^ ρ : Nat) : Int) = UInt8.ofNat (byteAt bits q + 2 ^ ρ) := by rw [byteI_nat]; congr 1; omega
        rw [ev]
        obtain ⟨a7, ha7, hst⟩ := fl10.1.st1 (j := q) (by simp [flN_len]; exact hqN) (u8V (UInt8.ofNat (byteAt bits q + 2 ^ ρ))) (K := fun w15 => rowRest J w7.heap.size w8.heap.size (some ⟨w5.heap.size, 0, none⟩) (((bits.length : Nat) : Int) + 1) (k : Int) w15) fun w11 hr11 hf11 hs11 => by
          rw [← List.map_set, ← flN_true hqr hρ hqN] at hr11
          have hfa : Fr (· ∈ blkOf l6) w7 w11 := (Fr.pu (hp79.trans hp10) : Fr (· ∈ blkOf l6) w7 w10).trans hf11 fun _ h _ => h
          refine rest (up hfa c6 (fun hc => ?_) (fun hc => ?_) (fun i hi => st.fl.2 i hi) ⟨hr11, st.fl.2⟩) (hf11.blk (hp10.blk hb8') fun hc => by have := c6 _ hc; omega) (hf11.blk (hp10.blk hb9) fun hc => by have := c6 _ hc; have := hp8.size; omega) hns.symm (by simp)
          · rw [← hq6] at hc; simp [blkOf] at hc; omega
          · rw [← hq6] at hc; simp [blkOf] at hc; omega
        exact ⟨a7, ha7, by omega, by omega, hst⟩
      · rw [if_pos d1, decide_eq_false (bfalse d2)] at hns
        rw [wrap_in (n := ((nbits (l.take k) (r.v.take k)).length : Int) + 1) (by have := nbits_len (l.take k) (r.v.take k); have := filter_take_le l k; have := List.length_filter_le (·.null) l; omega) (by have := nbits_len (l.take k) (r.v.take k); have := filter_take_le l k; have := List.length_filter_le (·.null) l; omega)]
        refine rest (bits := nbits (l.take k) (r.v.take k) ++ [false]) (up (B := fun _ => False) (Fr.pu hp79) (fun _ h => h.elim) (fun h => h) (fun h => h) (fun _ h => h.elim) ?_) hb8' hb9 hns.symm (by simp)
        rw [flN_false]; exact st.fl.pu hp79
      · rw [if_neg (by rw [d1]; simp), List.append_nil] at hns
        exact rest (up (B := fun _ => False) (Fr.pu hp79) (fun _ h => h.elim) (fun h => h) (fun h => h) (fun _ h => h.elim) (st.fl.pu hp79)) hb8' hb9 hns.symm rfl
    · have hk2 : k = l.length := by have := dfalse d; omega
      subst hk2
      rw [List.take_length, List.take_of_length_le (show r.v.length <= l.length by omega)] at *
      have hlt := st.lt
      have out : NewRow w w7 ⟨some ⟨w1.heap.size, 0, none⟩, 1, 1⟩ [goneB r.gone] := NewRow.box (l := [goneB r.gone]) st.out (by omega) (by simp)
      obtain ⟨l68, w8, e8, r8, f8, blk8⟩ := out.app' st.pu.size (m := l6) (news := flN (nulls l) (nbits l r.v)) st.fl.len (fun j b hj => st.fl.cell hj) (by simp only [List.length_singleton, flN_len]; omega)
      have hbld8 := bld_fr st.bld f8 fun i hi hB => by simp [blkOf] at hB; omega
      have z8 := f8.size
      have hp8 : Pu w w8 := st.pu.andNew f8 fun i hi => out.2 i hi
      obtain ⟨g, cap, hbg, hcell, hgl, hcall⟩ := builderString_c hbld8 hne
      have hg7 : g < w7.heap.size := by
        obtain ⟨g', cap', _, hcell', hgl', _⟩ := builderString_c st.bld hne
        have e1 : w8.heap[w5.heap.size]? = w7.heap[w5.heap.size]? := f8.block _ hlt (by simp [blkOf]; omega)
        have e2 : w8.cell? ⟨w5.heap.size, 1, none⟩ = w7.cell? ⟨w5.heap.size, 1, none⟩ := World.cell?_of_block e1
        rw [e2, hcell'] at hcell
        simp only [Option.some.injEq, Value.slice.injEq, Addr.mk.injEq] at hcell
        omega
      refine ⟨l68, w8, e8, hcall.mono ?_⟩
      rintro e w9 ⟨rfl, hfg⟩
      have r9 : NewRow w w9 l68 ([goneB r.gone] ++ flN (nulls l) (nbits l r.v)) := r8.fr hfg fun b hb e => by
        have e : b = g := e
        rcases blk8 b hb with h1 | h1
        · simp [blkOf] at h1; omega
        · omega
      have hbl : Fr (w5.heap.size <= ·) w8 w9 := ⟨hfg.os, hfg.tape, hfg.output, hfg.size, fun i hi hn => hfg.block i hi (fun e => hn (by have e : i = g := e; omega))⟩
      have hp9 : Pu w w9 := hp8.andNew hbl fun i hi => Nat.le_trans hb0 hi
      obtain ⟨q, w10, e10, r10, f10⟩ := r9.str hp9.size (cellsS sh l r.v) (by simp only [List.length_append, List.length_singleton, flN_len]; omega)
      exact ⟨_, rfl, q, w10, e10, q, rfl, r10, hp9.andNew f10 fun i hi => r9.2 i hi⟩
  refine Br.of (fun d => ⟨_, rfl, by omega, by omega, ?_⟩) (fun d => main hp02 (hp2.blk hb1) (by rw [d]; exact hb2))
  show st1 ((⟨w1.heap.size, 0, none⟩ : Addr).add 0) _ w2 _
  rw [add_def]
  refine st1_intro hb2 (by decide) fun w3 hw3 hb3 => main ?_ ?_ (by rw [d]; exact hb3)
  · exact hp02.andNew (B := (· = w1.heap.size)) (by rw [hw3]; exact Fr.cell w2 _ 0 _) fun i hi => by omega
  · exact (by rw [hw3]; exact Fr.cell w2 _ 0 _ : Fr (· = w1.heap.size) w2 w3).blk (hp2.blk hb1) (by omega)
end Go.Proofs.YtecmfdfhpldmmaaGreatDoor

/- Table: the row with its code; the table that each law looks at. No condition. -/
set_option maxRecDepth 100000
set_option linter.unusedVariables false
set_option linter.unusedSimpArgs false
namespace Go.Proofs.YtecmfdfhpldmmaaGreatDoor
open Go.Sh Go.RowKit
def textSh (f : Fld) (v : Val) : List UInt8 := v.s.data.toList ++ List.replicate (f.width.toNat - v.s.size) 32
theorem writeText_c (f : Fld) (v : Val) (hw : (v.s.size : Int) <= f.width /\ f.width <= 1000) (w : World) : Calls Tryz.prog 131 #[fldA f, valA v] w fun e w' => e = .returned (.string (bs (textSh f v))) /\ Pu w w' := by
  refine F131_calls _ _ _ _ _ _ _ w _ ?_
  refine alB fun w1 hp1 hb1 => alB fun w2 hp2 hb2 => dwE_intro fun w3 hp3 _ => ?_
  have hp13 := hp2.trans hp3
  refine ⟨fun u => Pu w3 u, Pu.refl _, v.s, fun u hu => cl (hu.blk (hp3.blk hb2)) 2, f.width, fun u hu => cl (hu.blk (hp13.blk hb1)) 2, v.s, fun u hu => cl (hu.blk (hp3.blk hb2)) 2, ?_⟩
  rw [wrap_in (by omega) (by omega)]
  have e1 : f.width - ((v.s.size : Nat) : Int) = ((f.width.toNat - v.s.size : Nat) : Int) := by omega
  rw [e1]
  refine (repeat_c 32 _ (by omega) w3).mono ?_
  rintro e w4 ⟨rfl, hp4⟩
  refine ⟨_, rfl, hp4, ?_, ?_, (hp1.trans hp13).trans hp4⟩
  · have e4 := bs_size (List.replicate (f.width.toNat - v.s.size) 32); rw [List.length_replicate] at e4; omega
  · rw [str_append, bs_list]; rfl
def rowCode (t : Tbl) (k : Int) : Int := if validT t ≠ 0 then validT t else if k < 1 ∨ (t.recs.length : Int) < k then 4 else 0
def rowOut (sh : Fld -> Val -> List UInt8) (t : Tbl) (k : Int) : List UInt8 := if rowCode t k = 0 then (match t.recs[(k - 1).toNat]? with | some x => rowS sh t.fields x | none => []) else []
theorem validR_ok {l : List Fld} {p : Int} {r : Rec} (h : validR l p r = 0) : r.v.length = l.length /\ fitAll l p r.v = true := by
  by_cases h1 : r.v.length = l.length
  · rw [validR_fit h1] at h
    refine ⟨h1, ?_⟩
    cases hx : fitAll l p r.v
    · rw [hx] at h; simp at h
    · rfl
  · rw [validR_len h1] at h; omega
theorem firstBad_all {l : List Fld} {p : Int} : ∀ {rs : List Rec}, firstBad l p rs = 0 -> ∀ x ∈ rs, validR l p x = 0
  | [], _, _, hx => by cases hx
  | a :: rs, h, x, hx => by
    unfold firstBad at h
    by_cases h1 : validR l p a ≠ 0
    · rw [if_pos h1] at h; exact absurd h h1
    · rw [if_neg h1] at h
      rcases List.mem_cons.1 hx with rfl | hx
      · simpa using h1
      · exact firstBad_all h x hx
theorem rowE_c {w : World} {t : Tbl} {f r : SV} {sh : Fld -> Val -> List UInt8} (h : RdTbl w t f r) (hl : Lim.ok t.fields) (k : Int) (hk : In64 k) (hW : validT t = 0 -> ∀ x ∈ t.recs, Writes sh t.fields x.v /\ cellsS sh t.fields x.v ≠ []) :
    Calls Tryz.prog 21 #[tblA t f r, .int .i64 k] w fun e w' => ∃ q : SV, e = .returned (.tuple #[.slice q.a q.len q.cap, .int .i64 (rowCode t k)]) /\ NewRow w w' q (rowOut sh t k) /\ Pu w w' := by
  refine F21_calls _ _ _ _ w _ ?_
  refine alB fun w1 hp1 hb1 => ⟨_, cl hb1 0, _, cl hb1 1, _, cl hb1 2, (validTbl_c (h.pu hp1) hl).mono ?_⟩
  rintro e w2 ⟨rfl, hp2⟩
  have hp12 := hp1.trans hp2
  have hrl := h.recs.len
  have no : ∀ {c : Int}, c ≠ 0 -> rowCode t k = c -> ∃ q : SV, Ending.returned (.tuple #[.slice none 0 0, .int .i64 c]) = .returned (.tuple #[.slice q.a q.len q.cap, .int .i64 (rowCode t k)]) /\ NewRow w w2 q (rowOut sh t k) /\ Pu w w2 := fun h1 h2 =>
    ⟨⟨none, 0, 0⟩, by rw [h2], by unfold rowOut; rw [if_neg (by rw [h2]; exact h1)]; exact NewRow.nil w w2, hp12⟩
  refine ⟨_, rfl, Br.of (fun d => no (bntrue d) (by unfold rowCode; rw [if_pos (bntrue d)])) (fun d => Br.of (fun d1 => no (c := 4) (by decide) ?_) (fun d1 => ⟨_, cl (hp2.blk hb1) 2, Br.of (fun d2 => no (c := 4) (by decide) ?_) (fun d2 => ?_)⟩))⟩
  · unfold rowCode; rw [if_neg (by rw [bnfalse d]; simp), if_pos (.inl (dtrue d1))]
  · unfold rowCode; rw [if_neg (by rw [bnfalse d]; simp), if_pos (.inr (by have := dtrue d2; omega))]
  have hv := bnfalse d
  have d1 := dfalse d1
  have d2 := dfalse d2
  obtain ⟨hpg, hvf, h300, hfb⟩ := validT_fields0 hv
  obtain ⟨_, hall, _, h16, _⟩ := validF_ok hvf
  have hki : (k - 1).toNat < t.recs.length := by omega
  obtain ⟨x, hx⟩ := at_k hki
  have hxm := List.mem_of_getElem? hx
  obtain ⟨hxl, _⟩ := validR_ok (firstBad_all hfb x hxm)
  have hc : rowCode t k = 0 := by unfold rowCode; rw [if_neg (by rw [hv]; simp), if_neg (by omega)]
  refine dwE_intro fun w3 hp3 _ => ?_
  have hp13 := hp2.trans hp3
  have hp03 := hp1.trans hp13
  rw [wrap_in (by omega) (by have := h.recs.lim; omega)]
  obtain ⟨a, q, ha, hi, hq, c0, c1⟩ := recAt (h.recs.pu hp03) hx
  refine ⟨_, cl (hp13.blk hb1) 1, _, cl (hp13.blk hb1) 2, a, ha, by omega, by omega, _, c0, _, c1, (row_c (sh := sh) (h.fields.pu hp03) hq hxl h16 (WOk.of hall) (hW hv x hxm).1 (hW hv x hxm).2).mono ?_⟩
  rintro e w4 ⟨o, rfl, ho, hp4⟩
  refine ⟨o, rfl, o, by rw [hc], ?_, hp03.trans hp4⟩
  unfold rowOut; rw [if_pos hc, hx]; exact ho.low hp03.size
theorem conv_str {w0 w : World} {s : SV} {l : List UInt8} (h : NewRow w0 w s l) : (convert 37 9 (.slice s.a s.len s.cap)).run Tryz.prog w = .ok (.string (bs l)) w := by
  obtain ⟨⟨hl, ho⟩, _⟩ := h
  rcases ho with rfl | ⟨g, cur, h3, h4, h5, h6, h7, h8⟩
  · have : l = [] := by simpa using hl
    subst this
    exact Lib.run_convert_nil_bytes w 37 9 5 0 u37 u5 u9
  · have hsl : s.len = (bs l).size := by rw [bs_size]; simp at hl; omega
    rw [h3, hsl]
    refine Lib.run_convert_whole w 37 5 9 u37 u5 u9 g 0 (bs l) (fun i hi => ?_) s.cap
    rw [Nat.zero_add, cell_blk h4]
    have hi' : i < l.length := by rw [bs_size] at hi; exact hi
    have h1 : (cur.toList.take (s.len * 1))[i]? = some (u8V (l[i])) := by rw [h8]; simp [hi']
    rw [List.getElem?_take] at h1
    split at h1
    · have h2 : cur[i]? = some (u8V l[i]) := by simpa using h1
      rw [h2]; rfl
    · cases h1
def knF : Fld := ⟨⟨#[65]⟩, 4, 3, false⟩
def knV : Val := ⟨4, 0, ⟨#[97, 98]⟩⟩
def knT : Tbl := ⟨0, [knF], [⟨false, [knV]⟩]⟩
theorem kn_valid : validT knT = 0 := by decide +kernel
theorem kn_head : (headS knT).length = 29 := by
  unfold headS
  simp only [List.length_append, lowN_len, knT, List.flatMap_cons, List.flatMap_nil, List.length_cons, List.length_nil]
  rw [fieldS_len (by decide)]
theorem kn_row : rowS textSh knT.fields ⟨false, [knV]⟩ = [32, 97, 98, 32] := by decide +kernel
theorem kn_fit : fitS ⟨⟨#[65]⟩, 4, 2, false⟩ 0 ⟨4, 0, ⟨#[97, 98, 32]⟩⟩ = (⟨4, 0, ⟨#[97, 98]⟩⟩, 0) := by decide +kernel
theorem known_c (w : World) : Calls Tryz.prog 12 #[] w fun e w' => e = .returned (.bool true) /\ Pu w w' := by
  refine F12_calls w _ ?_
  refine alB fun w1 hp1 hb1 => (rText_c ⟨#[97, 98]⟩ w1).mono ?_
  rintro e w2 ⟨rfl, hp2⟩
  refine ⟨_, _, _, rfl, alB fun w3 hp3 hb3 => alB fun w4 hp4 hb4 => boxA rfl (by kernel_rfl) rfl fun w5 hp5 hs5 hb5 => ?_⟩
  have rdF : RdSl w5 ⟨some ⟨w.heap.size, 0, none⟩, 1, 1⟩ [knF] := by
    refine ⟨rfl, Nat.le_refl _, (show (1 : Nat) <= 140737488355328 by decide), fun i x hx => ?_⟩
    cases i with
    | zero =>
      simp at hx; subst hx
      refine ⟨_, rfl, fldV knF, ⟨rfl, ⟨by decide, by decide⟩, ⟨by decide, by decide⟩⟩, fun j v hv => ?_⟩
      rw [add_def, add_def, cell_blk ((((hp2.trans hp3).trans hp4).trans hp5).blk hb1)]
      rcases j with _ | _ | _ | _ | j <;> simp [fldV] at hv ⊢
      all_goals first | exact hv | (rw [← hv]; rfl)
    | succ i => simp at hx
  have rdV : RdSl w5 ⟨some ⟨w2.heap.size, 0, none⟩, 1, 1⟩ [knV] := by
    refine ⟨rfl, Nat.le_refl _, (show (1 : Nat) <= 140737488355328 by decide), fun i x hx => ?_⟩
    cases i with
    | zero =>
      simp at hx; subst hx
      refine ⟨_, rfl, valV knV, ⟨rfl, ⟨by decide, by decide⟩, ⟨by decide, by decide⟩⟩, fun j v hv => ?_⟩
      rw [add_def, add_def, cell_blk ((hp4.trans hp5).blk hb3)]
      rcases j with _ | _ | _ | j <;> simp [valV] at hv ⊢
      all_goals first | exact hv | (rw [← hv]; rfl)
    | succ i => simp at hx
  have rdR : RdSl w5 ⟨some ⟨w3.heap.size, 0, none⟩, 1, 1⟩ [(⟨false, [knV]⟩ : Rec)] := by
    refine ⟨rfl, Nat.le_refl _, (show (1 : Nat) <= 140737488355328 by decide), fun i x hx => ?_⟩
    cases i with
    | zero =>
      simp at hx; subst hx
      refine ⟨_, rfl, _, ⟨⟨some ⟨w2.heap.size, 0, none⟩, 1, 1⟩, rfl, rdV⟩, fun j v hv => ?_⟩
      rw [add_def, add_def, cell_blk (hp5.blk hb4)]
      rcases j with _ | _ | j <;> simp at hv ⊢
      all_goals first | exact hv | (rw [← hv])
    | succ i => simp at hx
  have rdT : RdTbl w5 knT ⟨some ⟨w.heap.size, 0, none⟩, 1, 1⟩ ⟨some ⟨w3.heap.size, 0, none⟩, 1, 1⟩ := ⟨⟨by decide, by decide⟩, rdF, rdR⟩
  have lim : Lim.ok knT.fields := fun f hf => by
    have : f = knF := by simpa [knT] using hf
    subst this; show (1 : Nat) <= _; decide
  refine ⟨_, cl hb5 0, ⟨some ⟨w.heap.size, 0, none⟩, 1, 1⟩, cl hb5 1, ⟨some ⟨w3.heap.size, 0, none⟩, 1, 1⟩, cl hb5 2, (headerE_c rdT lim).mono ?_⟩
  rintro e w6 ⟨q, rfl, hq, hp6⟩
  rw [kn_valid] at *
  rw [if_pos rfl] at hq
  have hq29 := hq.len
  rw [kn_head] at hq29
  refine ⟨q, _, rfl, _, cl (hp6.blk hb5) 0, ⟨some ⟨w.heap.size, 0, none⟩, 1, 1⟩, cl (hp6.blk hb5) 1, ⟨some ⟨w3.heap.size, 0, none⟩, 1, 1⟩, cl (hp6.blk hb5) 2, (rowE_c (sh := textSh) (rdT.pu hp6) lim 1 ⟨by decide, by decide⟩ fun _ x hx => ?_).mono ?_⟩
  · have : x = ⟨false, [knV]⟩ := by simpa [knT] using hx
    subst this
    refine ⟨fun i f v hf hv _ => ?_, by decide +kernel⟩
    cases i with
    | zero =>
      simp [knT] at hf hv; subst hf hv
      refine ⟨by decide, ⟨67, 1, 254, 131, 132⟩, rfl, by kernel_rfl, fun w => writeText_c knF knV ⟨by decide, by decide⟩ w⟩
    | succ i => simp [knT] at hf
  rintro e w7 ⟨o, rfl, ho, hp7⟩
  have hcode : rowCode knT 1 = 0 := by unfold rowCode; rw [if_neg (by rw [kn_valid]; simp), if_neg (by decide)]
  have hout : rowOut textSh knT 1 = [32, 97, 98, 32] := by unfold rowOut; rw [if_pos hcode]; exact kn_row
  rw [hout] at ho
  rw [hcode]
  refine ⟨o, _, rfl, (rText_c ⟨#[97, 98, 32]⟩ w7).mono ?_⟩
  rintro e w8 ⟨rfl, hp8⟩
  refine ⟨_, _, _, rfl, (fit_c ⟨⟨#[65]⟩, 4, 2, false⟩ 0 ⟨4, 0, ⟨#[97, 98, 32]⟩⟩ (by decide) w8).mono ?_⟩
  rintro e w9 ⟨rfl, hp9⟩
  rw [kn_fit]
  refine ⟨_, _, _, _, rfl, boxA rfl s25.symm rfl fun w10 hp10 hs10 hb10 => ?_⟩
  have hp710 := (hp8.trans hp9).trans hp10
  have hall : Pu w w10 := ((((((hp1.trans hp2).trans hp3).trans hp4).trans hp5).trans hp6).trans hp7).trans hp710
  refine Br.t rfl (Br.t (by rw [hq29]; rfl) (Br.t rfl ⟨_, w10, conv_str (ho.pu hp710), Br.t ?_ (Br.t rfl ⟨_, cl hb10 2, ?_, hall⟩)⟩))
  · rw [toList_beq]; rfl
  · rw [toList_beq]; rfl
end Go.Proofs.YtecmfdfhpldmmaaGreatDoor

/- Table: lengths and offsets; how large a table is; the law on which tables there are. No condition. -/
set_option maxRecDepth 100000
set_option linter.unusedVariables false
set_option linter.unusedSimpArgs false
namespace Go.Proofs.YtecmfdfhpldmmaaGreatDoor
open Go.Sh Go.RowKit
theorem weightOf_c {w : World} {s : SV} {l : List Val} (h : RdSl w s l) : Calls Tryz.prog 64 #[.slice s.a s.len s.cap] w fun e w' => ∃ n : Int, e = .returned (.int .i64 n) /\ Pu w w' := by
  refine F64_calls _ w _ ?_
  have hlen := h.len
  have hlim := h.lim
  refine loopUp l.length (fun k t w' => t.2 = (k : Int) /\ Pu w w') ⟨rfl, Pu.refl _⟩ ?_
  rintro k J ⟨t1, t2⟩ w2 hk ⟨ht, hp⟩ hJ
  obtain rfl : t2 = (k : Int) := ht
  dsimp only
  refine Br.of (fun d => ?_) (fun d => ⟨_, rfl, hp⟩)
  have hk2 : k < l.length := by have := dtrue d; omega
  obtain ⟨v, hv⟩ := at_k hk2
  obtain ⟨a, ha, hi, _, _, c0, c1, c2⟩ := valAt (h.pu hp) hv
  refine ⟨a, ha, by omega, by omega, _, c2, ?_⟩
  rw [wrap_in (n := (k : Int) + 1) (by omega) (by omega)]
  exact hJ _ _ hk2 ⟨by dsimp only; omega, hp⟩
theorem weight_c {w : World} {t : Tbl} {f r : SV} (h : RdTbl w t f r) : Calls Tryz.prog 24 #[tblA t f r] w fun e w' => ∃ n : Int, e = .returned (.int .i64 n) /\ Pu w w' := by
  refine F24_calls _ _ _ w _ (alB fun w1 hp1 hb1 => ⟨_, cl hb1 1, ?_⟩)
  have hfl := h.fields.len
  have hfm := h.fields.lim
  have hrl := h.recs.len
  have hrm := h.recs.lim
  refine loopUp t.fields.length (fun k u w' => u.2 = (k : Int) /\ Pu w1 w') ⟨rfl, Pu.refl _⟩ ?_
  rintro k J ⟨u1, u2⟩ w2 hk ⟨hu, hp⟩ hJ
  obtain rfl : u2 = (k : Int) := hu
  dsimp only
  refine ⟨_, cl (hp.blk hb1) 1, Br.of (fun d => ?_) (fun d => ?_)⟩
  · have hk2 : k < t.fields.length := by have := dtrue d; omega
    obtain ⟨x, hx⟩ := at_k hk2
    obtain ⟨a, ha, hi, _, _, c, _⟩ := fldAt (h.fields.pu (hp1.trans hp)) hx
    refine ⟨_, cl (hp.blk hb1) 1, a, ha, by omega, by omega, _, c, ?_⟩
    rw [wrap_in (n := (k : Int) + 1) (by omega) (by omega)]
    exact hJ _ _ hk2 ⟨by dsimp only; omega, hp⟩
  clear hJ J
  refine loopUp t.recs.length (fun k u w' => u.2 = (k : Int) /\ Pu w1 w') ⟨rfl, hp⟩ ?_
  rintro k J ⟨u1, u2⟩ w2 hk ⟨hu, hp⟩ hJ
  obtain rfl : u2 = (k : Int) := hu
  dsimp only
  refine ⟨_, cl (hp.blk hb1) 2, Br.of (fun d => ?_) (fun d => ⟨_, rfl, hp1.trans hp⟩)⟩
  have hk2 : k < t.recs.length := by have := dtrue d; omega
  obtain ⟨x, hx⟩ := at_k hk2
  obtain ⟨a, q, ha, hi, hq, c0, c1⟩ := recAt (h.recs.pu (hp1.trans hp)) hx
  refine ⟨_, cl (hp.blk hb1) 2, a, ha, by omega, by omega, _, c1, (weightOf_c hq).mono ?_⟩
  rintro e w3 ⟨n, rfl, hp3⟩
  refine ⟨n, rfl, ?_⟩
  rw [wrap_in (n := (k : Int) + 1) (by omega) (by omega)]
  exact hJ _ _ hk2 ⟨by dsimp only; omega, hp.trans hp3⟩
theorem over_c {w : World} {t : Tbl} {f r : SV} (h : RdTbl w t f r) : Calls Tryz.prog 16 #[tblA t f r] w fun e w' => ∃ b : Bool, e = .returned (.bool b) /\ Pu w w' := by
  refine F16_calls _ _ _ w _ (alB fun w1 hp1 hb1 => ⟨_, cl hb1 0, _, cl hb1 1, _, cl hb1 2, (weight_c (h.pu hp1)).mono ?_⟩)
  rintro e w2 ⟨n, rfl, hp2⟩
  exact ⟨n, rfl, _, rfl, hp1.trans hp2⟩
theorem u55 : Tryz.prog.underlying 55 = some (.slice 3) := by kernel_rfl
theorem info3 : (Tryz.prog.info? 3).map (fun i => (i.zero, i.size, i.bytes)) = some (some (.int .i64 0), 1, 8) := by kernel_rfl
def NewI (w0 w : World) (s : SV) (l : List Int) : Prop := RowAt w 3 1 s (l.map intV) /\ ∀ b ∈ blkOf s, w0.heap.size <= b
theorem NewI.len {w0 w : World} {s : SV} {l : List Int} (h : NewI w0 w s l) : s.len = l.length := by have := h.1.1; simp at this; omega
theorem NewI.pu {w0 w w' : World} {s : SV} {l : List Int} (h : NewI w0 w s l) (hp : Pu w w') : NewI w0 w' s l := ⟨h.1.pu hp, h.2⟩
theorem NewI.nil (w0 w : World) : NewI w0 w ⟨none, 0, 0⟩ [] := ⟨RowAt.nil w 3 1, by simp [blkOf]⟩
theorem NewI.low {w0 w1 w : World} {s : SV} {l : List Int} (h : NewI w1 w s l) (hz : w0.heap.size <= w1.heap.size) : NewI w0 w s l := ⟨h.1, fun b hb => Nat.le_trans hz (h.2 b hb)⟩
theorem NewI.push {w0 w : World} {s : SV} {l : List Int} (h : NewI w0 w s l) (hz : w0.heap.size <= w.heap.size) {r : Nat} {n : Int} (hr : w.heap[r]? = some (.cells #[.int .i64 n] 3)) (hb : l.length <= 1000000) :
    ∃ (s' : SV) (w' : World), (Builtin.append_ #[55, 55] 55 #[.slice s.a s.len s.cap, .slice (some ⟨r, 0, none⟩) 1 1]).run Tryz.prog w = .ok (.slice s'.a s'.len s'.cap) w' /\ NewI w0 w' s' (l ++ [n]) /\ Fr (· ∈ blkOf s) w w' := by
  have h1 := h.len
  obtain ⟨s', w', hra, hrow, hf, hblk, _⟩ := row_push (P := Tryz.prog) (ty := 55) u55 info3 rfl h.1 (a := ⟨r, 0, none⟩) (u := .int .i64 n) (by rw [cell_blk hr]; rfl) rfl (by omega)
  refine ⟨s', w', hra, ⟨by simpa using hrow, fun b hb => ?_⟩, hf⟩
  rcases hblk b hb with h2 | h2
  · exact h.2 b h2
  · omega
end Go.Proofs.YtecmfdfhpldmmaaGreatDoor

/- Table: the law on what a value becomes in a field. No condition. -/
set_option maxRecDepth 100000
set_option linter.unusedVariables false
set_option linter.unusedSimpArgs false
namespace Go.Proofs.YtecmfdfhpldmmaaGreatDoor
open Go.Sh Go.RowKit
theorem sameValue_c (a b : Val) (w : World) : Calls Tryz.prog 15 #[valA a, valA b] w fun e w' => e = .returned (.bool (decide (a = b))) /\ Pu w w' := by
  refine F15_calls _ _ _ _ _ _ w _ ?_
  refine alB fun w1 hp1 hb1 => alB fun w2 hp2 hb2 => ?_
  have hp := hp1.trans hp2
  have q1 := hp2.blk hb1
  refine ⟨_, cl0 q1, _, cl0 hb2, Br.of (fun d => ⟨_, cl q1 1, _, cl hb2 1, Br.of (fun d1 => ⟨_, cl q1 2, _, cl hb2 2, ?_, hp⟩) (fun d1 => ⟨?_, hp⟩)⟩) (fun d => ⟨?_, hp⟩)⟩
  · rw [toList_beq]
    congr 2
    have e1 : a.kind = b.kind := btrue d
    have e2 : a.n = b.n := btrue d1
    refine dec_eq ⟨fun e3 => ?_, fun e => by rw [e]⟩
    obtain ⟨a1, a2, a3⟩ := a; obtain ⟨b1, b2, b3⟩ := b
    simp only at e1 e2 e3
    subst e1 e2 e3; rfl
  · rw [decide_eq_false (fun e => bfalse d1 (by rw [e]))]
  · rw [decide_eq_false (fun e => bfalse d (by rw [e]))]
end Go.Proofs.YtecmfdfhpldmmaaGreatDoor

/- Table: records of empty values, places of names; the law on them. No condition. -/
set_option maxRecDepth 100000
set_option linter.unusedVariables false
set_option linter.unusedSimpArgs false
namespace Go.Proofs.YtecmfdfhpldmmaaGreatDoor
open Go.Sh Go.RowKit
theorem u44 : Tryz.prog.underlying 44 = some (.slice 25) := by kernel_rfl
theorem info25 : (Tryz.prog.info? 25).map (fun i => (i.zero, i.size, i.bytes)) = some (some (.agg #[.int .i64 0, .int .i64 0, .string ⟨#[]⟩]), 3, 32) := by kernel_rfl
theorem s46 : sizeB Tryz.prog 46 = 2 := by kernel_rfl
theorem valV_len (v : Val) : (valV v).length = 3 := rfl
def NewV (w0 w : World) (s : SV) (l : List Val) : Prop := RowAt w 25 3 s (l.flatMap valV) /\ ∀ b ∈ blkOf s, w0.heap.size <= b
theorem NewV.len {w0 w : World} {s : SV} {l : List Val} (h : NewV w0 w s l) : s.len = l.length := h.1.len valV_len (by decide)
theorem NewV.pu {w0 w w' : World} {s : SV} {l : List Val} (h : NewV w0 w s l) (hp : Pu w w') : NewV w0 w' s l := ⟨h.1.pu hp, h.2⟩
theorem NewV.fr {B : Nat -> Prop} {w0 w w' : World} {s : SV} {l : List Val} (h : NewV w0 w s l) (hf : Fr B w w') (hn : ∀ k ∈ blkOf s, ¬ B k) : NewV w0 w' s l := ⟨h.1.fr hf hn, h.2⟩
theorem NewV.nil (w0 w : World) : NewV w0 w ⟨none, 0, 0⟩ [] := ⟨RowAt.nil w 25 3, by simp [blkOf]⟩
theorem NewV.low {w0 w1 w : World} {s : SV} {l : List Val} (h : NewV w1 w s l) (hz : w0.heap.size <= w1.heap.size) : NewV w0 w s l := ⟨h.1, fun b hb => Nat.le_trans hz (h.2 b hb)⟩
theorem NewV.push {w0 w : World} {s : SV} {l : List Val} (h : NewV w0 w s l) (hz : w0.heap.size <= w.heap.size) {r : Nat} {v : Val} {c : Array Value} (hr : w.heap[r]? = some (.cells c 25)) (hc : c = #[.int .i64 v.kind, .int .i64 v.n, .string v.s]) (hb : l.length <= 1000000) :
    ∃ (s' : SV) (w' : World), (Builtin.append_ #[44, 44] 44 #[.slice s.a s.len s.cap, .slice (some ⟨r, 0, none⟩) 1 1]).run Tryz.prog w = .ok (.slice s'.a s'.len s'.cap) w' /\ NewV w0 w' s' (l ++ [v]) /\ Fr (· ∈ blkOf s) w w' := by
  subst hc
  have h1 := h.len
  obtain ⟨s', w', hra, hrow, hf, hblk, _⟩ := row_append_any (P := Tryz.prog) (ty := 44) u44 info25 rfl (by decide) h.1 (A := some ⟨r, 0, none⟩) (m := 1) (c := 1) (news := valV v) rfl (fun j u hu => ⟨_, rfl, by rw [cl hr]; simpa using hu⟩) (fun u hu => by simp [valV] at hu; rcases hu with rfl | rfl | rfl <;> rfl) (by omega)
  refine ⟨s', w', hra, ⟨by simpa using hrow, fun b hb => ?_⟩, hf⟩
  rcases hblk b hb with h2 | h2
  · exact h.2 b h2
  · omega
structure RdV (w : World) (s : SV) (l : List Val) : Prop where
  len : s.len = l.length
  lim : l.length <= 140737488355328
  get : ∀ i v, l[i]? = some v -> ∃ a, s.a = some a /\ w.cell? ((a.add (i * 3)).add 0) = some (.int .i64 v.kind) /\ w.cell? ((a.add (i * 3)).add 1) = some (.int .i64 v.n) /\ w.cell? ((a.add (i * 3)).add 2) = some (.string v.s)
theorem RdV.pu {w w' : World} {s : SV} {l : List Val} (h : RdV w s l) (hp : Pu w w') : RdV w' s l := ⟨h.len, h.lim, fun i v hv => by
  obtain ⟨a, h1, h2, h3, h4⟩ := h.get i v hv
  exact ⟨a, h1, hp.cell h2, hp.cell h3, hp.cell h4⟩⟩
theorem RdV.of {w : World} {s : SV} {l : List Val} (h : RdSl w s l) : RdV w s l := ⟨h.len, by have := h.lim; have := h.len; omega, fun i v hv => by
  obtain ⟨a, h1, _, _, _, h2, h3, h4⟩ := valAt h hv
  exact ⟨a, h1, h2, h3, h4⟩⟩
theorem NewV.rd {w0 w : World} {s : SV} {l : List Val} (h : NewV w0 w s l) (hb : l.length <= 140737488355328) : RdV w s l := ⟨h.len, hb, fun i v hv => by
  obtain ⟨a, h1, _, h2⟩ := h.1.elem valV_len hv (o := 0) rfl
  obtain ⟨a', h1', _, h3⟩ := h.1.elem valV_len hv (o := 1) rfl
  obtain ⟨a'', h1'', _, h4⟩ := h.1.elem valV_len hv (o := 2) rfl
  rw [h1] at h1' h1''; cases h1'; cases h1''
  exact ⟨a, h1, h2, h3, h4⟩⟩
theorem eq_of_take {α : Type} {a b : List α} {k : Nat} (h : a.take k = b.take k) {x y : α} (hx : a[k]? = some x) (hy : b[k]? = some y) (e : x = y) : a.take (k + 1) = b.take (k + 1) := by
  rw [take_at hx, take_at hy, h, e]
theorem sameValues_c {w : World} {s t : SV} {a b : List Val} (ha : RdV w s a) (hb : RdV w t b) : Calls Tryz.prog 68 #[.slice s.a s.len s.cap, .slice t.a t.len t.cap] w fun e w' => e = .returned (.bool (decide (a = b))) /\ Pu w w' := by
  refine F68_calls _ _ w _ ?_
  have hla := ha.len
  have hlb := hb.len
  have hlim := ha.lim
  refine Br.of (fun d => ⟨by rw [decide_eq_false (fun e => bntrue d (by rw [hla, hlb, e]))], Pu.refl _⟩) (fun d => ?_)
  have hab : a.length = b.length := by have := bnfalse d; omega
  refine loopUp a.length (fun k t w' => t = (k : Int) /\ a.take k = b.take k /\ Pu w w') ⟨rfl, by simp, Pu.refl _⟩ ?_
  rintro k J t w2 hk ⟨ht, he, hp⟩ hJ
  obtain rfl : t = (k : Int) := ht
  refine Br.of (fun d1 => dwE_intro fun w3 hp3 _ => ?_) (fun d1 => ?_)
  · have hk2 : k < a.length := by have := dtrue d1; omega
    obtain ⟨x, hx⟩ := at_k hk2
    obtain ⟨y, hy⟩ := at_k (show k < b.length by omega)
    obtain ⟨p, hpa, c0, c1, c2⟩ := ((ha.pu hp).pu hp3).get k x hx
    obtain ⟨q, hqa, e0, e1, e2⟩ := ((hb.pu hp).pu hp3).get k y hy
    refine ⟨p, hpa, by omega, by omega, _, c0, _, c1, _, c2, q, hqa, by omega, by omega, _, e0, _, e1, _, e2, (sameValue_c x y w3).mono ?_⟩
    rintro e w4 ⟨rfl, hp4⟩
    refine ⟨_, rfl, Br.of (fun d2 => ⟨?_, (hp.trans hp3).trans hp4⟩) (fun d2 => ?_)⟩
    · rw [decide_eq_false]
      intro e
      subst e
      rw [hx] at hy
      cases hy
      simp at d2
    · rw [wrap_in (by omega) (by omega)]
      exact hJ _ _ hk2 ⟨by omega, eq_of_take he hx hy (by simpa using d2), (hp.trans hp3).trans hp4⟩
  · have hk2 : k = a.length := by have := dfalse d1; omega
    subst hk2
    rw [List.take_length, hab, List.take_length] at he
    exact ⟨by rw [decide_eq_true he], hp⟩
theorem sameRecord_c {w : World} {s t : SV} {x y : Bool} {a b : List Val} (ha : RdV w s a) (hb : RdV w t b) : Calls Tryz.prog 29 #[.agg #[.bool x, .slice s.a s.len s.cap], .agg #[.bool y, .slice t.a t.len t.cap]] w fun e w' => e = .returned (.bool (decide (x = y) && decide (a = b))) /\ Pu w w' := by
  refine F29_calls _ _ _ _ w _ (alB fun w1 hp1 hb1 => alB fun w2 hp2 hb2 => ?_)
  have hp := hp1.trans hp2
  have q1 := hp2.blk hb1
  refine ⟨_, cl0 q1, _, cl0 hb2, Br.of (fun d => ⟨_, cl q1 1, _, cl hb2 1, (sameValues_c (ha.pu hp) (hb.pu hp)).mono ?_⟩) (fun d => ⟨?_, hp⟩)⟩
  · rintro e w3 ⟨rfl, hp3⟩
    exact ⟨_, rfl, by rw [decide_eq_true (p := x = y) (by simpa using d)]; rfl, hp.trans hp3⟩
  · rw [decide_eq_false (p := x = y) (by simpa using d)]; rfl
theorem rNum_c (n : Int) (w : World) : Calls Tryz.prog 118 #[.int .i64 n] w fun e w' => e = .returned (valA ⟨2, n, ⟨#[]⟩⟩) /\ Pu w w' := by
  refine F118_calls _ w _ (boxA rfl s25.symm rfl fun w1 hp1 _ hb1 => ?_)
  exact ⟨_, cl hb1 0, _, cl hb1 1, _, cl hb1 2, rfl, hp1⟩
theorem rEmpty_c (f : Fld) (w : World) : Calls Tryz.prog 87 #[fldA f] w fun e w' => e = .returned (valA (emptyV f)) /\ Pu w w' := by
  refine F87_calls _ _ _ _ w _ ?_
  refine alB fun w1 hp1 hb1 => alB fun w2 hp2 hb2 => ⟨_, cl (hp2.blk hb1) 1, Br.of (fun d => ?_) (fun d => ⟨_, cl (hp2.blk hb1) 1, ?_⟩)⟩
  · refine (rNum_c 0 w2).mono ?_
    rintro e w3 ⟨rfl, hp3⟩
    refine ⟨_, _, _, rfl, stA_fill (hp3.blk hb2) s25.symm rfl rfl fun w4 hb4 hf4 hs4 => ?_⟩
    exact ⟨_, cl hb4 0, _, cl hb4 1, _, cl hb4 2, by unfold emptyV; rw [if_pos (btrue d)], hp1.trans ((hp2.trans hp3).andNew hf4 fun i hi => by omega)⟩
  · refine stA_fill hb2 s25.symm rfl rfl fun w3 hb3 hf3 hs3 => ?_
    exact ⟨_, cl hb3 0, _, cl hb3 1, _, cl hb3 2, by unfold emptyV; rw [if_neg (bfalse d)], hp1.trans (hp2.andNew hf3 fun i hi => by omega)⟩
theorem map_take' {α β : Type} (g : α -> β) {l : List α} {k : Nat} {x : α} (h : l[k]? = some x) : (l.take (k + 1)).map g = (l.take k).map g ++ [g x] := by
  rw [take_at h, List.map_append]; rfl
def idxN (l : List Fld) (s : ByteArray) : Option Nat := l.findIdx? fun f => decide (f.name = s)
def idxK (l : List Fld) (s : ByteArray) : Int := ((idxN l s).getD 0 : Nat)
theorem index_c {w : World} {s : SV} {l : List Fld} (h : RdSl w s l) (nm : ByteArray) : Calls Tryz.prog 27 #[.slice s.a s.len s.cap, .string nm] w fun e w' => e = .returned (.tuple #[.int .i64 (idxK l nm), .bool (idxN l nm).isSome]) /\ Pu w w' := by
  refine F27_calls _ _ w _ (alB fun w1 hp1 hb1 => ?_)
  have tells : TellsF l 67 #[.pointer (some ⟨w.heap.size, 0, none⟩)] (fun f => decide (f.name = nm)) w1 := ⟨by kernel_rfl, fun f hf w2 hp2 => by
    refine F67_calls _ _ _ _ _ w2 _ (alB fun w3 hp3 hb3 => ⟨_, cl0 hb3, _, cl0 ((hp2.trans hp3).blk hb1), ?_, hp3⟩)
    rw [toList_beq]⟩
  refine (indexFunc_c (h.pu hp1) tells).mono ?_
  rintro e w2 ⟨rfl, hp2⟩
  refine ⟨_, rfl, _, w2, max_run _ _ _ _ _ _, ?_, hp1.trans hp2⟩
  unfold idxK idxN
  cases l.findIdx? fun f => decide (f.name = nm) with
  | none => rfl
  | some k =>
    dsimp only
    rw [Int.max_eq_left (by omega), decide_eq_true (by omega)]; rfl
theorem rIndex_c {w : World} {s : SV} {l : List Fld} (h : RdSl w s l) (nm : ByteArray) : Calls Tryz.prog 28 #[.slice s.a s.len s.cap, .string nm] w fun e w' => e = .returned (.tuple #[.int .i64 (idxK l nm), .bool (idxN l nm).isSome]) /\ Pu w w' := by
  refine F28_calls _ _ w _ ?_
  have hlen := h.len
  have hlim := h.lim
  refine loopUp l.length (fun k t w' => t = (k : Int) /\ (∀ f ∈ l.take k, decide (f.name = nm) = false) /\ Pu w w') ⟨rfl, by simp, Pu.refl _⟩ ?_
  rintro k J t w2 hk ⟨ht, hno, hp⟩ hJ
  obtain rfl : t = (k : Int) := ht
  refine Br.of (fun d => ?_) (fun d => ?_)
  · have hk2 : k < l.length := by have := dtrue d; omega
    obtain ⟨f, hf⟩ := at_k hk2
    obtain ⟨a, ha, hi, _, _, c, _⟩ := fldAt (h.pu hp) hf
    refine ⟨a, ha, by omega, by omega, _, c, ?_⟩
    rw [toList_beq]
    refine Br.of (fun d1 => ?_) (fun d1 => ?_)
    · have : idxN l nm = some k := findIdx_take hno hf d1
      refine ⟨?_, hp⟩
      unfold idxK; rw [this]; rfl
    · rw [wrap_in (by omega) (by omega)]
      refine hJ _ _ hk2 ⟨by omega, fun f' hf' => ?_, hp⟩
      rw [take_at hf, List.mem_append, List.mem_singleton] at hf'
      rcases hf' with hf' | rfl
      · exact hno f' hf'
      · exact d1
  · have hk2 : k = l.length := by have := dfalse d; omega
    subst hk2
    rw [List.take_length] at hno
    have : idxN l nm = none := by unfold idxN; rw [List.findIdx?_eq_none_iff]; exact fun x hx => by rw [hno x hx]
    refine ⟨?_, hp⟩
    unfold idxK; rw [this]; rfl
end Go.Proofs.YtecmfdfhpldmmaaGreatDoor

/- Table: in which records two tables differ; the law on it. No condition. -/
set_option maxRecDepth 100000
set_option linter.unusedVariables false
set_option linter.unusedSimpArgs false
namespace Go.Proofs.YtecmfdfhpldmmaaGreatDoor
open Go.Sh Go.RowKit
theorem struct23 : structK Tryz.prog 23 [.str, .int .i64, .int .i64, .bool] = true := by kernel_rfl
theorem guard23 : Tryz.prog.eqGuardType Tryz.prog.depth 23 = false := by kernel_rfl
theorem fldV_inj {a b : Fld} (h : fldV a = fldV b) : a = b := by
  obtain ⟨a1, a2, a3, a4⟩ := a; obtain ⟨b1, b2, b3, b4⟩ := b
  simp [fldV] at h; simp [h]
theorem neFld (x y : Operand) (a b : Fld) (w : World) : (eqS .neq 23 x y (fldA a) (fldA b)).run Tryz.prog w = .ok (.bool (!decide (a = b))) w := by
  refine neS_rowK (ks := [.str, .int .i64, .int .i64, .bool]) (xs := fldV a) (ys := fldV b) struct23 guard23 rfl rfl ?_ w
  rw [decide_eq_true_iff]
  exact ⟨fun h => by rw [h], fldV_inj⟩
structure RdF (w : World) (s : SV) (l : List Fld) : Prop where
  len : s.len = l.length
  lim : l.length <= 140737488355328
  get : ∀ i f, l[i]? = some f -> ∃ a, s.a = some a /\ w.cell? ((a.add (i * 4)).add 0) = some (.string f.name) /\ w.cell? ((a.add (i * 4)).add 1) = some (.int .i64 f.kind) /\ w.cell? ((a.add (i * 4)).add 2) = some (.int .i64 f.width) /\ w.cell? ((a.add (i * 4)).add 3) = some (.bool f.null)
theorem RdF.pu {w w' : World} {s : SV} {l : List Fld} (h : RdF w s l) (hp : Pu w w') : RdF w' s l := ⟨h.len, h.lim, fun i v hv => by
  obtain ⟨a, h1, h2, h3, h4, h5⟩ := h.get i v hv
  exact ⟨a, h1, hp.cell h2, hp.cell h3, hp.cell h4, hp.cell h5⟩⟩
theorem RdF.of {w : World} {s : SV} {l : List Fld} (h : RdSl w s l) : RdF w s l := ⟨h.len, by have := h.lim; have := h.len; omega, fun i v hv => by
  obtain ⟨a, h1, _, _, _, _, h2, h3, h4, h5⟩ := fldAt h hv
  exact ⟨a, h1, h2, h3, h4, h5⟩⟩
theorem ne_of_at {α : Type} {a b : List α} {k : Nat} {x y : α} (hx : a[k]? = some x) (hy : b[k]? = some y) (h : x ≠ y) : a ≠ b := fun e => by
  subst e; rw [hx] at hy; cases hy; exact h rfl
theorem sameFields_c {w : World} {s t : SV} {a b : List Fld} (ha : RdF w s a) (hb : RdF w t b) : Calls Tryz.prog 79 #[.slice s.a s.len s.cap, .slice t.a t.len t.cap] w fun e w' => e = .returned (.bool (decide (a = b))) /\ Pu w w' := by
  refine F79_calls _ _ w _ ?_
  have hla := ha.len
  have hlb := hb.len
  have hlim := ha.lim
  refine Br.of (fun d => ⟨by rw [decide_eq_false (fun e => bntrue d (by rw [hla, hlb, e]))], Pu.refl _⟩) (fun d => ?_)
  have hab : a.length = b.length := by have := bnfalse d; omega
  refine loopUp a.length (fun k t w' => t = (k : Int) /\ a.take k = b.take k /\ Pu w w') ⟨rfl, by simp, Pu.refl _⟩ ?_
  rintro k J t w2 hk ⟨ht, he, hp⟩ hJ
  obtain rfl : t = (k : Int) := ht
  refine Br.of (fun d1 => dwE_intro fun w3 hp3 _ => ?_) (fun d1 => ?_)
  · have hk2 : k < a.length := by have := dtrue d1; omega
    obtain ⟨x, hx⟩ := at_k hk2
    obtain ⟨y, hy⟩ := at_k (show k < b.length by omega)
    obtain ⟨p, hpa, c0, c1, c2, c3⟩ := ((ha.pu hp).pu hp3).get k x hx
    obtain ⟨q, hqa, e0, e1, e2, e3⟩ := ((hb.pu hp).pu hp3).get k y hy
    refine ⟨p, hpa, by omega, by omega, _, c0, _, c1, _, c2, _, c3, q, hqa, by omega, by omega, _, e0, _, e1, _, e2, _, e3, _, fun w => neFld _ _ x y w, Br.of (fun d2 => ⟨?_, hp.trans hp3⟩) (fun d2 => ?_)⟩
    · rw [decide_eq_false (ne_of_at hx hy (by simpa using d2))]
    · rw [wrap_in (by omega) (by omega)]
      exact hJ _ _ hk2 ⟨by omega, eq_of_take he hx hy (by simpa using d2), hp.trans hp3⟩
  · have hk2 : k = a.length := by have := dfalse d1; omega
    subst hk2
    rw [List.take_length, hab, List.take_length] at he
    exact ⟨by rw [decide_eq_true he], hp⟩
theorem validT_ok {t : Tbl} (h : validT t = 0) : pageB t.page = true /\ validF t.fields = 0 /\ t.recs.length <= 300 /\ firstBad t.fields t.page t.recs = 0 := by
  unfold validT at h
  split at h
  · rename_i h1
    split at h
    · rename_i h2; exact absurd h h2
    · rename_i h2
      split at h
      · cases h
      · rename_i h3; exact ⟨h1, by omega, by omega, h⟩
  · cases h
theorem rec_eq {x y : Rec} : (x = y) ↔ (x.gone = y.gone /\ x.v = y.v) := by
  obtain ⟨a, b⟩ := x; obtain ⟨c, d⟩ := y; simp
theorem tbl_blk {w : World} {r : Nat} {t : Tbl} {f q : SV} (h : w.heap[r]? = some (.cells #[.int .i64 t.page, .slice f.a f.len f.cap, .slice q.a q.len q.cap] 35)) : w.cell? ((⟨r, 0, none⟩ : Addr).add 0) = some (.int .i64 t.page) /\ w.cell? ((⟨r, 0, none⟩ : Addr).add 1) = some (.slice f.a f.len f.cap) /\ w.cell? ((⟨r, 0, none⟩ : Addr).add 2) = some (.slice q.a q.len q.cap) := ⟨cl h 0, cl h 1, cl h 2⟩
end Go.Proofs.YtecmfdfhpldmmaaGreatDoor
