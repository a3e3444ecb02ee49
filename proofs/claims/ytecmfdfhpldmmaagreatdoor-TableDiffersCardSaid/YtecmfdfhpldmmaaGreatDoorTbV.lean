import Derived.Test.YtecmfdfhpldmmaaGreatDoorTbU
import Derived.Test.YtecmfdfhpldmmaaGreatDoorTbT
import Derived.Test.YtecmfdfhpldmmaaGreatDoorTbFblank
import Derived.Test.YtecmfdfhpldmmaaGreatDoorTbFnum0
/- Table: records of empty values, places of names; the law on them. No condition. -/
set_option maxRecDepth 100000
set_option linter.unusedVariables false
set_option linter.unusedSimpArgs false
namespace Go.Proofs.YtecmfdfhpldmmaaGreatDoor
open Go.Sh Go.RowKit

/-! ### Rows of values -/
theorem u44 : Tryz.prog.underlying 44 = some (.slice 25) := by kernel_rfl
theorem info25 : (Tryz.prog.info? 25).map (fun i => (i.zero, i.size, i.bytes)) = some (some (.agg #[.int .i64 0, .int .i64 0, .string ⟨#[]⟩]), 3, 32) := by kernel_rfl
theorem s46 : sizeB Tryz.prog 46 = 2 := by kernel_rfl
theorem valV_len (v : Val) : (valV v).length = 3 := rfl
def NewV (w0 w : World) (s : SV) (l : List Val) : Prop := RowAt w 25 3 s (l.flatMap valV) ∧ ∀ b ∈ blkOf s, w0.heap.size ≤ b
theorem NewV.len {w0 w : World} {s : SV} {l : List Val} (h : NewV w0 w s l) : s.len = l.length := h.1.len valV_len (by decide)
theorem NewV.pu {w0 w w' : World} {s : SV} {l : List Val} (h : NewV w0 w s l) (hp : Pu w w') : NewV w0 w' s l := ⟨h.1.pu hp, h.2⟩
theorem NewV.fr {B : Nat → Prop} {w0 w w' : World} {s : SV} {l : List Val} (h : NewV w0 w s l) (hf : Fr B w w') (hn : ∀ k ∈ blkOf s, ¬ B k) : NewV w0 w' s l := ⟨h.1.fr hf hn, h.2⟩
theorem NewV.nil (w0 w : World) : NewV w0 w ⟨none, 0, 0⟩ [] := ⟨RowAt.nil w 25 3, by simp [blkOf]⟩
theorem NewV.low {w0 w1 w : World} {s : SV} {l : List Val} (h : NewV w1 w s l) (hz : w0.heap.size ≤ w1.heap.size) : NewV w0 w s l := ⟨h.1, fun b hb => Nat.le_trans hz (h.2 b hb)⟩
theorem NewV.push {w0 w : World} {s : SV} {l : List Val} (h : NewV w0 w s l) (hz : w0.heap.size ≤ w.heap.size) {r : Nat} {v : Val} {c : Array Value} (hr : w.heap[r]? = some (.cells c 25)) (hc : c = #[.int .i64 v.kind, .int .i64 v.n, .string v.s]) (hb : l.length ≤ 1000000) :
    ∃ (s' : SV) (w' : World), (Builtin.append_ #[44, 44] 44 #[.slice s.a s.len s.cap, .slice (some ⟨r, 0, none⟩) 1 1]).run Tryz.prog w = .ok (.slice s'.a s'.len s'.cap) w' ∧ NewV w0 w' s' (l ++ [v]) ∧ Fr (· ∈ blkOf s) w w' := by
  subst hc
  have h1 := h.len
  obtain ⟨s', w', hra, hrow, hf, hblk, _⟩ := row_append_any (P := Tryz.prog) (ty := 44) u44 info25 rfl (by decide) h.1 (A := some ⟨r, 0, none⟩) (m := 1) (c := 1) (news := valV v) rfl (fun j u hu => ⟨_, rfl, by rw [cl hr]; simpa using hu⟩) (fun u hu => by simp [valV] at hu; rcases hu with rfl | rfl | rfl <;> rfl) (by omega)
  refine ⟨s', w', hra, ⟨by simpa using hrow, fun b hb => ?_⟩, hf⟩
  rcases hblk b hb with h2 | h2
  · exact h.2 b h2
  · omega
/-- Values that can be read. -/
structure RdV (w : World) (s : SV) (l : List Val) : Prop where
  len : s.len = l.length
  lim : l.length ≤ 140737488355328
  get : ∀ i v, l[i]? = some v → ∃ a, s.a = some a ∧ w.cell? ((a.add (i * 3)).add 0) = some (.int .i64 v.kind) ∧ w.cell? ((a.add (i * 3)).add 1) = some (.int .i64 v.n) ∧ w.cell? ((a.add (i * 3)).add 2) = some (.string v.s)
theorem RdV.pu {w w' : World} {s : SV} {l : List Val} (h : RdV w s l) (hp : Pu w w') : RdV w' s l := ⟨h.len, h.lim, fun i v hv => by
  obtain ⟨a, h1, h2, h3, h4⟩ := h.get i v hv
  exact ⟨a, h1, hp.cell h2, hp.cell h3, hp.cell h4⟩⟩
theorem RdV.of {w : World} {s : SV} {l : List Val} (h : RdSl w s l) : RdV w s l := ⟨h.len, by have := h.lim; have := h.len; omega, fun i v hv => by
  obtain ⟨a, h1, _, _, _, h2, h3, h4⟩ := valAt h hv
  exact ⟨a, h1, h2, h3, h4⟩⟩
theorem NewV.rd {w0 w : World} {s : SV} {l : List Val} (h : NewV w0 w s l) (hb : l.length ≤ 140737488355328) : RdV w s l := ⟨h.len, hb, fun i v hv => by
  obtain ⟨a, h1, _, h2⟩ := h.1.elem valV_len hv (o := 0) rfl
  obtain ⟨a', h1', _, h3⟩ := h.1.elem valV_len hv (o := 1) rfl
  obtain ⟨a'', h1'', _, h4⟩ := h.1.elem valV_len hv (o := 2) rfl
  rw [h1] at h1' h1''; cases h1'; cases h1''
  exact ⟨a, h1, h2, h3, h4⟩⟩
theorem eq_of_take {α : Type} {a b : List α} {k : Nat} (h : a.take k = b.take k) {x y : α} (hx : a[k]? = some x) (hy : b[k]? = some y) (e : x = y) : a.take (k + 1) = b.take (k + 1) := by
  rw [take_at hx, take_at hy, h, e]
theorem sameValues_c {w : World} {s t : SV} {a b : List Val} (ha : RdV w s a) (hb : RdV w t b) : Calls Tryz.prog 68 #[.slice s.a s.len s.cap, .slice t.a t.len t.cap] w fun e w' => e = .returned (.bool (decide (a = b))) ∧ Pu w w' := by
  refine F68_calls _ _ w _ ?_
  have hla := ha.len
  have hlb := hb.len
  have hlim := ha.lim
  refine Br.of (fun d => ⟨by rw [decide_eq_false (fun e => bntrue d (by rw [hla, hlb, e]))], Pu.refl _⟩) (fun d => ?_)
  have hab : a.length = b.length := by have := bnfalse d; omega
  refine loopUp a.length (fun k t w' => t = (k : Int) ∧ a.take k = b.take k ∧ Pu w w') ⟨rfl, by simp, Pu.refl _⟩ ?_
  rintro k J t w2 hk ⟨ht, he, hp⟩ hJ
  obtain rfl : t = (k : Int) := ht
  refine Br.of (fun d1 => dwE_intro fun w3 hp3 _ => ?_) (fun d1 => ?_)
  · have hk2 : k < a.length := by have := dtrue d1; omega
    obtain ⟨x, hx⟩ := at_k hk2
    obtain ⟨y, hy⟩ := at_k (show k < b.length by omega)
    obtain ⟨p, hpa, c0, c1, c2⟩ := ((ha.pu hp).pu hp3).get k x hx
    obtain ⟨q, hqa, e0, e1, e2⟩ := ((hb.pu hp).pu hp3).get k y hy
    refine ⟨p, hpa, by omega, by omega, _, c0, _, c1, _, c2, q, hqa, by omega, by omega, _, e0, _, e1, _, e2, (sameValue_c x y w3).mono ?_⟩
    rintro e w4 ⟨rfl, hp4⟩
    refine ⟨_, rfl, Br.of (fun d2 => ⟨?_, (hp.trans hp3).trans hp4⟩) (fun d2 => ?_)⟩
    · rw [decide_eq_false]
      intro e
      subst e
      rw [hx] at hy
      cases hy
      simp at d2
    · rw [wrap_in (by omega) (by omega)]
      exact hJ _ _ hk2 ⟨by omega, eq_of_take he hx hy (by simpa using d2), (hp.trans hp3).trans hp4⟩
  · have hk2 : k = a.length := by have := dfalse d1; omega
    subst hk2
    rw [List.take_length, hab, List.take_length] at he
    exact ⟨by rw [decide_eq_true he], hp⟩
theorem sameRecord_c {w : World} {s t : SV} {x y : Bool} {a b : List Val} (ha : RdV w s a) (hb : RdV w t b) : Calls Tryz.prog 29 #[.agg #[.bool x, .slice s.a s.len s.cap], .agg #[.bool y, .slice t.a t.len t.cap]] w fun e w' => e = .returned (.bool (decide (x = y) && decide (a = b))) ∧ Pu w w' := by
  refine F29_calls _ _ _ _ w _ (alB fun w1 hp1 hb1 => alB fun w2 hp2 hb2 => ?_)
  have hp := hp1.trans hp2
  have q1 := hp2.blk hb1
  refine ⟨_, cl0 q1, _, cl0 hb2, Br.of (fun d => ⟨_, cl q1 1, _, cl hb2 1, (sameValues_c (ha.pu hp) (hb.pu hp)).mono ?_⟩) (fun d => ⟨?_, hp⟩)⟩
  · rintro e w3 ⟨rfl, hp3⟩
    exact ⟨_, rfl, by rw [decide_eq_true (p := x = y) (by simpa using d)]; rfl, hp.trans hp3⟩
  · rw [decide_eq_false (p := x = y) (by simpa using d)]; rfl

/-! ### Empty values -/
theorem rNum_c (n : Int) (w : World) : Calls Tryz.prog 118 #[.int .i64 n] w fun e w' => e = .returned (valA ⟨2, n, ⟨#[]⟩⟩) ∧ Pu w w' := by
  refine F118_calls _ w _ (boxA rfl s25.symm rfl fun w1 hp1 _ hb1 => ?_)
  exact ⟨_, cl hb1 0, _, cl hb1 1, _, cl hb1 2, rfl, hp1⟩
theorem rEmpty_c (f : Fld) (w : World) : Calls Tryz.prog 87 #[fldA f] w fun e w' => e = .returned (valA (emptyV f)) ∧ Pu w w' := by
  refine F87_calls _ _ _ _ w _ ?_
  refine alB fun w1 hp1 hb1 => alB fun w2 hp2 hb2 => ⟨_, cl (hp2.blk hb1) 1, Br.of (fun d => ?_) (fun d => ⟨_, cl (hp2.blk hb1) 1, ?_⟩)⟩
  · refine (rNum_c 0 w2).mono ?_
    rintro e w3 ⟨rfl, hp3⟩
    refine ⟨_, _, _, rfl, stA_fill (hp3.blk hb2) s25.symm rfl rfl fun w4 hb4 hf4 hs4 => ?_⟩
    exact ⟨_, cl hb4 0, _, cl hb4 1, _, cl hb4 2, by unfold emptyV; rw [if_pos (btrue d)], hp1.trans ((hp2.trans hp3).andNew hf4 fun i hi => by omega)⟩
  · refine stA_fill hb2 s25.symm rfl rfl fun w3 hb3 hf3 hs3 => ?_
    exact ⟨_, cl hb3 0, _, cl hb3 1, _, cl hb3 2, by unfold emptyV; rw [if_neg (bfalse d)], hp1.trans (hp2.andNew hf3 fun i hi => by omega)⟩
def blankV (l : List Fld) : List Val := if validF l = 0 then l.map emptyV else []
theorem map_take' {α β : Type} (g : α → β) {l : List α} {k : Nat} {x : α} (h : l[k]? = some x) : (l.take (k + 1)).map g = (l.take k).map g ++ [g x] := by
  rw [take_at h, List.map_append]; rfl
theorem blank_c {w : World} {s : SV} {l : List Fld} (h : RdSl w s l) (hl : Lim.ok l) : Calls Tryz.prog 25 #[.slice s.a s.len s.cap] w fun e w' => ∃ q : SV, e = .returned (.tuple #[.agg #[.bool false, .slice q.a q.len q.cap], .int .i64 (validF l)]) ∧ NewV w w' q (blankV l) ∧ Pu w w' := by
  refine F25_calls _ w _ (alB fun w1 hp1 hb1 => (validFields_c (h.pu hp1) hl).mono ?_)
  rintro e w2 ⟨rfl, hp2⟩
  have hb2 := hp2.blk hb1
  refine ⟨_, rfl, Br.of (fun d => stA_fill hb2 s46.symm rfl rfl fun w3 hb3 hf3 hs3 => ⟨_, cl hb3 0, ⟨none, 0, 0⟩, cl hb3 1, ⟨none, 0, 0⟩, rfl, by unfold blankV; rw [if_neg (bntrue d)]; exact NewV.nil w w3, (hp1.trans hp2).andNew hf3 fun i hi => by omega⟩) (fun d => alB fun w3 hp3 hb3 => ?_)⟩
  have hv := bnfalse d
  have h16 := (validF_ok hv).2.2.2.1
  have hlen := h.len
  have hp03 := (hp1.trans hp2).trans hp3
  have z1 := hp1.size
  have z2 := hp2.size
  have z3 := hp3.size
  have lt2 : w2.heap.size < w3.heap.size := blk_lt hb3
  have lt1 : w.heap.size < w1.heap.size := blk_lt hb1
  refine loopUp l.length (fun k t w' => t = (k : Int) ∧ ∃ q : SV, w'.heap[w.heap.size]? = some (.cells #[.bool false, .slice none 0 0] 46) ∧ w'.heap[w2.heap.size]? = some (.cells #[.bool false, .slice q.a q.len q.cap] 46) ∧ NewV w3 w' q ((l.take k).map emptyV) ∧ w3.heap.size ≤ w'.heap.size ∧ Pu w w') ⟨rfl, ⟨none, 0, 0⟩, hp3.blk hb2, hb3, NewV.nil w3 w3, Nat.le_refl _, hp03⟩ ?_
  rintro k J t w4 hk ⟨ht, q, a1, a2, a3, a4, hp⟩ hJ
  obtain rfl : t = (k : Int) := ht
  have htl := List.length_take_le k l
  refine Br.of (fun d1 => ?_) (fun d1 => ?_)
  · have hk2 : k < l.length := by have := dtrue d1; omega
    obtain ⟨f, hf⟩ := at_k hk2
    obtain ⟨a, ha, hi, _, _, _, c0, c1, c2, c3⟩ := fldAt (h.pu hp) hf
    refine ⟨a, ha, by omega, by omega, _, c0, _, c1, _, c2, _, c3, boxA rfl s23.symm rfl fun w5 hp5 hs5 hb5 => dwE_intro fun w6 hp6 _ => ?_⟩
    have b6 := (hp5.trans hp6).blk a2
    refine ⟨fun u => Pu w6 u, Pu.refl _, q, fun u hu => cl (hu.blk b6) 1, f.name, fun u hu => cl (hu.blk (hp6.blk hb5)) 0, f.kind, fun u hu => cl (hu.blk (hp6.blk hb5)) 1, f.width, fun u hu => cl (hu.blk (hp6.blk hb5)) 2, f.null, fun u hu => cl (hu.blk (hp6.blk hb5)) 3, (empty_c f w6).mono ?_⟩
    rintro e w7 ⟨rfl, hp7⟩
    refine ⟨_, _, _, rfl, hp7, alB fun w8 hp8 hb8 => ⟨hp7.trans hp8, ?_⟩⟩
    have hp48 := (((hp5.trans hp6).trans hp7).trans hp8)
    have z48 := hp48.size
    obtain ⟨q', w9, e9, r9, f9⟩ := (a3.pu hp48).push (by omega) hb8 rfl (by rw [List.length_map]; omega)
    have n2 : ¬ w2.heap.size ∈ blkOf q := fun hc => by have := a3.2 _ hc; omega
    have n1 : ¬ w.heap.size ∈ blkOf q := fun hc => by have := a3.2 _ hc; omega
    have hb9 := f9.blk (hp48.blk a2) n2
    have hb9' := f9.blk (hp48.blk a1) n1
    refine ⟨q', w9, e9, st1_intro (o := 1) hb9 (by simp) fun wx ex hbx => ?_⟩
    have fx : Fr (· = w2.heap.size) w9 wx := by rw [ex]; exact Fr.cell w9 _ _ _
    have zx : wx.heap.size = w9.heap.size := by rw [ex]; simp
    have z9 := f9.size
    rw [wrap_in (by omega) (by omega)]
    refine hJ _ _ hk2 ⟨by omega, q', fx.blk hb9' (by omega), hbx, by rw [map_take' _ hf]; exact r9.fr fx fun i hi => by have := r9.2 i hi; omega, by omega, ?_⟩
    have p9 : Pu w w9 := (hp.trans hp48).andNew f9 fun i hi => by have := a3.2 i hi; omega
    exact p9.andNew fx fun i hi => by omega
  · have hk2 : k = l.length := by have := dfalse d1; omega
    subst hk2
    rw [List.take_length] at a3
    refine ⟨_, cl a2 0, q, cl a2 1, stA_fill a1 s46.symm rfl rfl fun w5 hb5 hf5 hs5 => ⟨_, cl hb5 0, q, cl hb5 1, q, by rw [hv], ?_, hp.andNew hf5 fun i hi => by omega⟩⟩
    unfold blankV; rw [if_pos hv]
    exact (a3.fr hf5 fun i hi => by have := a3.2 i hi; omega).low (by omega)
theorem rBlanks_c {w : World} {s : SV} {l : List Fld} (h : RdSl w s l) (h16 : l.length ≤ 16) : Calls Tryz.prog 65 #[.slice s.a s.len s.cap] w fun e w' => ∃ q : SV, e = .returned (.agg #[.bool false, .slice q.a q.len q.cap]) ∧ NewV w w' q (l.map emptyV) ∧ Pu w w' := by
  refine F65_calls _ w _ (alB fun w2 hp2 hb2 => alB fun w3 hp3 hb3 => ?_)
  have hlen := h.len
  have hp03 := hp2.trans hp3
  have z2 := hp2.size
  have z3 := hp3.size
  have lt2 : w2.heap.size < w3.heap.size := blk_lt hb3
  have lt1 : w.heap.size < w2.heap.size := blk_lt hb2
  refine loopUp l.length (fun k t w' => t = (k : Int) ∧ ∃ q : SV, w'.heap[w.heap.size]? = some (.cells #[.bool false, .slice none 0 0] 46) ∧ w'.heap[w2.heap.size]? = some (.cells #[.bool false, .slice q.a q.len q.cap] 46) ∧ NewV w3 w' q ((l.take k).map emptyV) ∧ w3.heap.size ≤ w'.heap.size ∧ Pu w w') ⟨rfl, ⟨none, 0, 0⟩, hp3.blk hb2, hb3, NewV.nil w3 w3, Nat.le_refl _, hp03⟩ ?_
  rintro k J t w4 hk ⟨ht, q, a1, a2, a3, a4, hp⟩ hJ
  obtain rfl : t = (k : Int) := ht
  have htl := List.length_take_le k l
  refine Br.of (fun d1 => dwE_intro fun w6 hp6 _ => ?_) (fun d1 => ?_)
  · have hk2 : k < l.length := by have := dtrue d1; omega
    obtain ⟨f, hf⟩ := at_k hk2
    obtain ⟨a, ha, hi, _, _, _, c0, c1, c2, c3⟩ := fldAt ((h.pu hp).pu hp6) hf
    have b6 := hp6.blk a2
    refine ⟨fun u => Pu w6 u, Pu.refl _, q, fun u hu => cl (hu.blk b6) 1, a, ha, by omega, by omega, f.name, fun u hu => hu.cell c0, f.kind, fun u hu => hu.cell c1, f.width, fun u hu => hu.cell c2, f.null, fun u hu => hu.cell c3, (rEmpty_c f w6).mono ?_⟩
    rintro e w7 ⟨rfl, hp7⟩
    refine ⟨_, _, _, rfl, hp7, alB fun w8 hp8 hb8 => ⟨hp7.trans hp8, ?_⟩⟩
    have hp48 := ((hp6.trans hp7).trans hp8)
    have z48 := hp48.size
    obtain ⟨q', w9, e9, r9, f9⟩ := (a3.pu hp48).push (by omega) hb8 rfl (by rw [List.length_map]; omega)
    have n2 : ¬ w2.heap.size ∈ blkOf q := fun hc => by have := a3.2 _ hc; omega
    have n1 : ¬ w.heap.size ∈ blkOf q := fun hc => by have := a3.2 _ hc; omega
    have hb9 := f9.blk (hp48.blk a2) n2
    have hb9' := f9.blk (hp48.blk a1) n1
    refine ⟨q', w9, e9, st1_intro (o := 1) hb9 (by simp) fun wx ex hbx => ?_⟩
    have fx : Fr (· = w2.heap.size) w9 wx := by rw [ex]; exact Fr.cell w9 _ _ _
    have zx : wx.heap.size = w9.heap.size := by rw [ex]; simp
    have z9 := f9.size
    rw [wrap_in (by omega) (by omega)]
    refine hJ _ _ hk2 ⟨by omega, q', fx.blk hb9' (by omega), hbx, by rw [map_take' _ hf]; exact r9.fr fx fun i hi => by have := r9.2 i hi; omega, by omega, ?_⟩
    have p9 : Pu w w9 := (hp.trans hp48).andNew f9 fun i hi => by have := a3.2 i hi; omega
    exact p9.andNew fx fun i hi => by omega
  · have hk2 : k = l.length := by have := dfalse d1; omega
    subst hk2
    rw [List.take_length] at a3
    refine ⟨_, cl a2 0, q, cl a2 1, stA_fill a1 s46.symm rfl rfl fun w5 hb5 hf5 hs5 => ⟨_, cl hb5 0, q, cl hb5 1, q, rfl, ?_, hp.andNew hf5 fun i hi => by omega⟩⟩
    exact (a3.fr hf5 fun i hi => by have := a3.2 i hi; omega).low (by omega)
theorem rBlank_c {w : World} {s : SV} {l : List Fld} (h : RdSl w s l) : Calls Tryz.prog 26 #[.slice s.a s.len s.cap] w fun e w' => ∃ q : SV, e = .returned (.tuple #[.agg #[.bool false, .slice q.a q.len q.cap], .int .i64 (validF l)]) ∧ NewV w w' q (blankV l) ∧ Pu w w' := by
  refine F26_calls _ w _ (alB fun w1 hp1 hb1 => (rValidFields_c (h.pu hp1)).mono ?_)
  rintro e w2 ⟨rfl, hp2⟩
  have hb2 := hp2.blk hb1
  have z1 := hp1.size
  have z2 := hp2.size
  refine ⟨_, rfl, Br.of (fun d => stA_fill hb2 s46.symm rfl rfl fun w3 hb3 hf3 hs3 => ⟨_, cl hb3 0, ⟨none, 0, 0⟩, cl hb3 1, ⟨none, 0, 0⟩, rfl, by unfold blankV; rw [if_neg (bntrue d)]; exact NewV.nil w w3, (hp1.trans hp2).andNew hf3 fun i hi => by omega⟩) (fun d => ?_)⟩
  have hv := bnfalse d
  refine (rBlanks_c (h.pu (hp1.trans hp2)) (validF_ok hv).2.2.2.1).mono ?_
  rintro e w3 ⟨q, rfl, hq, hp3⟩
  have lt1 : w.heap.size < w1.heap.size := blk_lt hb1
  refine ⟨_, q, rfl, stA_fill (hp3.blk hb2) s46.symm rfl rfl fun w5 hb5 hf5 hs5 => ⟨_, cl hb5 0, q, cl hb5 1, q, by rw [hv], ?_, ((hp1.trans hp2).trans hp3).andNew hf5 fun i hi => by omega⟩⟩
  unfold blankV; rw [if_pos hv]
  exact (hq.fr hf5 fun i hi => by have := hq.2 i hi; omega).low (by omega)

/-! ### Places of names -/
def idxN (l : List Fld) (s : ByteArray) : Option Nat := l.findIdx? fun f => decide (f.name = s)
def idxK (l : List Fld) (s : ByteArray) : Int := ((idxN l s).getD 0 : Nat)
theorem index_c {w : World} {s : SV} {l : List Fld} (h : RdSl w s l) (nm : ByteArray) : Calls Tryz.prog 27 #[.slice s.a s.len s.cap, .string nm] w fun e w' => e = .returned (.tuple #[.int .i64 (idxK l nm), .bool (idxN l nm).isSome]) ∧ Pu w w' := by
  refine F27_calls _ _ w _ (alB fun w1 hp1 hb1 => ?_)
  have tells : TellsF l 67 #[.pointer (some ⟨w.heap.size, 0, none⟩)] (fun f => decide (f.name = nm)) w1 := ⟨by kernel_rfl, fun f hf w2 hp2 => by
    refine F67_calls _ _ _ _ _ w2 _ (alB fun w3 hp3 hb3 => ⟨_, cl0 hb3, _, cl0 ((hp2.trans hp3).blk hb1), ?_, hp3⟩)
    rw [toList_beq]⟩
  refine (indexFunc_c (h.pu hp1) tells).mono ?_
  rintro e w2 ⟨rfl, hp2⟩
  refine ⟨_, rfl, _, w2, max_run _ _ _ _ _ _, ?_, hp1.trans hp2⟩
  unfold idxK idxN
  cases l.findIdx? fun f => decide (f.name = nm) with
  | none => rfl
  | some k =>
    dsimp only
    rw [Int.max_eq_left (by omega), decide_eq_true (by omega)]; rfl
theorem rIndex_c {w : World} {s : SV} {l : List Fld} (h : RdSl w s l) (nm : ByteArray) : Calls Tryz.prog 28 #[.slice s.a s.len s.cap, .string nm] w fun e w' => e = .returned (.tuple #[.int .i64 (idxK l nm), .bool (idxN l nm).isSome]) ∧ Pu w w' := by
  refine F28_calls _ _ w _ ?_
  have hlen := h.len
  have hlim := h.lim
  refine loopUp l.length (fun k t w' => t = (k : Int) ∧ (∀ f ∈ l.take k, decide (f.name = nm) = false) ∧ Pu w w') ⟨rfl, by simp, Pu.refl _⟩ ?_
  rintro k J t w2 hk ⟨ht, hno, hp⟩ hJ
  obtain rfl : t = (k : Int) := ht
  refine Br.of (fun d => ?_) (fun d => ?_)
  · have hk2 : k < l.length := by have := dtrue d; omega
    obtain ⟨f, hf⟩ := at_k hk2
    obtain ⟨a, ha, hi, _, _, c, _⟩ := fldAt (h.pu hp) hf
    refine ⟨a, ha, by omega, by omega, _, c, ?_⟩
    rw [toList_beq]
    refine Br.of (fun d1 => ?_) (fun d1 => ?_)
    · have : idxN l nm = some k := findIdx_take hno hf d1
      refine ⟨?_, hp⟩
      unfold idxK; rw [this]; rfl
    · rw [wrap_in (by omega) (by omega)]
      refine hJ _ _ hk2 ⟨by omega, fun f' hf' => ?_, hp⟩
      rw [take_at hf, List.mem_append, List.mem_singleton] at hf'
      rcases hf' with hf' | rfl
      · exact hno f' hf'
      · exact d1
  · have hk2 : k = l.length := by have := dfalse d; omega
    subst hk2
    rw [List.take_length] at hno
    have : idxN l nm = none := by unfold idxN; rw [List.findIdx?_eq_none_iff]; exact fun x hx => by rw [hno x hx]
    refine ⟨?_, hp⟩
    unfold idxK; rw [this]; rfl
/-- The law: true. -/
theorem tableBlanks_c (w : World) (s : SV) (l : List Fld) (h : RdSl w s l) (hl : Lim.ok l) (nm : ByteArray) (_ : Lim.ok nm) : Calls Tryz.prog 5 #[.slice s.a s.len s.cap, .string nm] w fun e w' => e = .returned (.bool true) ∧ Pu w w' := by
  refine F5_calls _ _ w _ ?_
  refine (weight_c (t := ⟨0, l, []⟩) (f := s) (r := ⟨none, 0, 0⟩) ⟨by simp [In64], h, RdSl.nil w none 0⟩).mono ?_
  rintro e w1 ⟨n, rfl, hp1⟩
  refine ⟨n, rfl, Br.of (fun _ => (known_c w1).mono ?_) (fun _ => (blank_c (h.pu hp1) hl).mono ?_)⟩
  · rintro e w2 ⟨rfl, hp2⟩; exact ⟨_, rfl, rfl, hp1.trans hp2⟩
  rintro e w2 ⟨q, rfl, hq, hp2⟩
  refine ⟨_, q, _, rfl, boxA rfl s46.symm rfl fun w3 hp3 hs3 hb3 => ?_⟩
  have p3 := (hp1.trans hp2).trans hp3
  refine (rBlank_c (h.pu p3)).mono ?_
  rintro e w4 ⟨q2, rfl, hq2, hp4⟩
  refine ⟨_, q2, _, rfl, boxA rfl s46.symm rfl fun w5 hp5 hs5 hb5 => ?_⟩
  have p5 := (p3.trans hp4).trans hp5
  refine (index_c (h.pu p5) nm).mono ?_
  rintro e w6 ⟨rfl, hp6⟩
  refine ⟨_, _, rfl, (rIndex_c ((h.pu p5).pu hp6) nm).mono ?_⟩
  rintro e w7 ⟨rfl, hp7⟩
  have p7 := hp6.trans hp7
  have e3 := ((hp4.trans hp5).trans p7).blk hb3
  have e5 := p7.blk hb5
  have hbl : (blankV l).length ≤ 140737488355328 := by
    unfold blankV; have := h.lim; have := h.len
    split
    · rw [List.length_map]; omega
    · simp
  refine ⟨_, _, rfl, _, cl e3 0, q, cl e3 1, _, cl e5 0, q2, cl e5 1, (sameRecord_c (x := false) (y := false) ((hq.pu (hp3.trans ((hp4.trans hp5).trans p7))).rd hbl) ((hq2.pu (hp5.trans p7)).rd hbl)).mono ?_⟩
  rintro e w8 ⟨rfl, hp8⟩
  refine ⟨_, rfl, Br.t (by simp) (Br.t (by simp) (Br.t (by simp) (Br.t (by simp) ((known_c w8).mono ?_))))⟩
  rintro e w9 ⟨rfl, hp9⟩
  exact ⟨_, rfl, rfl, p5.trans ((p7.trans hp8).trans hp9)⟩
end Go.Proofs.YtecmfdfhpldmmaaGreatDoor
