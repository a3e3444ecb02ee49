import Derived.Test.YtecmfdfhpldmmaaGreatDoorTbOwC
import Derived.Test.YtecmfdfhpldmmaaGreatDoorTbPrC
import Derived.Test.YtecmfdfhpldmmaaGreatDoorShTwentyThree
import Derived.Test.YtecmfdfhpldmmaaGreatDoorTbOwB
/- Table: records of empty values, places of names; the law on them. No condition. -/
set_option maxRecDepth 100000
set_option linter.unusedVariables false
set_option linter.unusedSimpArgs false
namespace Go.Proofs.YtecmfdfhpldmmaaGreatDoor
open Go.Sh Go.RowKit

theorem u44 : Tryz.prog.underlying 44 = some (.slice 25) := by kernel_rfl
theorem info25 : (Tryz.prog.info? 25).map (fun i => (i.zero, i.size, i.bytes)) = some (some (.agg #[.int .i64 0, .int .i64 0, .string ⟨#[]⟩]), 3, 32) := by kernel_rfl
theorem s46 : sizeB Tryz.prog 46 = 2 := by kernel_rfl
theorem valV_len (v : Val) : (valV v).length = 3 := rfl
def NewV (w0 w : World) (s : SV) (l : List Val) : Prop := RowAt w 25 3 s (l.flatMap valV) /\ ∀ b ∈ blkOf s, w0.heap.size <= b
theorem NewV.len {w0 w : World} {s : SV} {l : List Val} (h : NewV w0 w s l) : s.len = l.length := h.1.len valV_len (by decide)
theorem NewV.pu {w0 w w' : World} {s : SV} {l : List Val} (h : NewV w0 w s l) (hp : Pu w w') : NewV w0 w' s l := ⟨h.1.pu hp, h.2⟩
theorem NewV.fr {B : Nat -> Prop} {w0 w w' : World} {s : SV} {l : List Val} (h : NewV w0 w s l) (hf : Fr B w w') (hn : ∀ k ∈ blkOf s, ¬ B k) : NewV w0 w' s l := ⟨h.1.fr hf hn, h.2⟩
theorem NewV.nil (w0 w : World) : NewV w0 w ⟨none, 0, 0⟩ [] := ⟨RowAt.nil w 25 3, by simp [blkOf]⟩
theorem NewV.low {w0 w1 w : World} {s : SV} {l : List Val} (h : NewV w1 w s l) (hz : w0.heap.size <= w1.heap.size) : NewV w0 w s l := ⟨h.1, fun b hb => Nat.le_trans hz (h.2 b hb)⟩
theorem NewV.push {w0 w : World} {s : SV} {l : List Val} (h : NewV w0 w s l) (hz : w0.heap.size <= w.heap.size) {r : Nat} {v : Val} {c : Array Value} (hr : w.heap[r]? = some (.cells c 25)) (hc : c = #[.int .i64 v.kind, .int .i64 v.n, .string v.s]) (hb : l.length <= 1000000) :
    ∃ (s' : SV) (w' : World), (Builtin.append_ #[44, 44] 44 #[.slice s.a s.len s.cap, .slice (some ⟨r, 0, none⟩) 1 1]).run Tryz.prog w = .ok (.slice s'.a s'.len s'.cap) w' /\ NewV w0 w' s' (l ++ [v]) /\ Fr (· ∈ blkOf s) w w' := by
  subst hc
  have h1 := h.len
  obtain ⟨s', w', hra, hrow, hf, hblk, _⟩ := row_append_any (P := Tryz.prog) (ty := 44) u44 info25 rfl (by decide) h.1 (A := some ⟨r, 0, none⟩) (m := 1) (c := 1) (news := valV v) rfl (fun j u hu => ⟨_, rfl, by rw [cl hr]; simpa using hu⟩) (fun u hu => by simp [valV] at hu; rcases hu with rfl | rfl | rfl <;> rfl) (by omega)
  refine ⟨s', w', hra, ⟨by simpa using hrow, fun b hb => ?_⟩, hf⟩
  rcases hblk b hb with h2 | h2
  · exact h.2 b h2
  · omega
structure RdV (w : World) (s : SV) (l : List Val) : Prop where
  len : s.len = l.length
  lim : l.length <= 140737488355328
  get : ∀ i v, l[i]? = some v -> ∃ a, s.a = some a /\ w.cell? ((a.add (i * 3)).add 0) = some (.int .i64 v.kind) /\ w.cell? ((a.add (i * 3)).add 1) = some (.int .i64 v.n) /\ w.cell? ((a.add (i * 3)).add 2) = some (.string v.s)
theorem RdV.pu {w w' : World} {s : SV} {l : List Val} (h : RdV w s l) (hp : Pu w w') : RdV w' s l := ⟨h.len, h.lim, fun i v hv => by
  obtain ⟨a, h1, h2, h3, h4⟩ := h.get i v hv
  exact ⟨a, h1, hp.cell h2, hp.cell h3, hp.cell h4⟩⟩
theorem RdV.of {w : World} {s : SV} {l : List Val} (h : RdSl w s l) : RdV w s l := ⟨h.len, by have := h.lim; have := h.len; omega, fun i v hv => by
  obtain ⟨a, h1, _, _, _, h2, h3, h4⟩ := valAt h hv
  exact ⟨a, h1, h2, h3, h4⟩⟩
theorem NewV.rd {w0 w : World} {s : SV} {l : List Val} (h : NewV w0 w s l) (hb : l.length <= 140737488355328) : RdV w s l := ⟨h.len, hb, fun i v hv => by
  obtain ⟨a, h1, _, h2⟩ := h.1.elem valV_len hv (o := 0) rfl
  obtain ⟨a', h1', _, h3⟩ := h.1.elem valV_len hv (o := 1) rfl
  obtain ⟨a'', h1'', _, h4⟩ := h.1.elem valV_len hv (o := 2) rfl
  rw [h1] at h1' h1''; cases h1'; cases h1''
  exact ⟨a, h1, h2, h3, h4⟩⟩
theorem eq_of_take {α : Type} {a b : List α} {k : Nat} (h : a.take k = b.take k) {x y : α} (hx : a[k]? = some x) (hy : b[k]? = some y) (e : x = y) : a.take (k + 1) = b.take (k + 1) := by
  rw [take_at hx, take_at hy, h, e]
theorem sameValues_c {w : World} {s t : SV} {a b : List Val} (ha : RdV w s a) (hb : RdV w t b) : Calls Tryz.prog 68 #[.slice s.a s.len s.cap, .slice t.a t.len t.cap] w fun e w' => e = .returned (.bool (decide (a = b))) /\ Pu w w' := by
  refine F68_calls _ _ w _ ?_
  have hla := ha.len
  have hlb := hb.len
  have hlim := ha.lim
  refine Br.of (fun d => ⟨by rw [decide_eq_false (fun e => bntrue d (by rw [hla, hlb, e]))], Pu.refl _⟩) (fun d => ?_)
  have hab : a.length = b.length := by have := bnfalse d; omega
  refine loopUp a.length (fun k t w' => t = (k : Int) /\ a.take k = b.take k /\ Pu w w') ⟨rfl, by simp, Pu.refl _⟩ ?_
  rintro k J t w2 hk ⟨ht, he, hp⟩ hJ
  obtain rfl : t = (k : Int) := ht
  refine Br.of (fun d1 => dwE_intro fun w3 hp3 _ => ?_) (fun d1 => ?_)
  · have hk2 : k < a.length := by have := dtrue d1; omega
    obtain ⟨x, hx⟩ := at_k hk2
    obtain ⟨y, hy⟩ := at_k (show k < b.length by omega)
    obtain ⟨p, hpa, c0, c1, c2⟩ := ((ha.pu hp).pu hp3).get k x hx
    obtain ⟨q, hqa, e0, e1, e2⟩ := ((hb.pu hp).pu hp3).get k y hy
    refine ⟨p, hpa, by omega, by omega, _, c0, _, c1, _, c2, q, hqa, by omega, by omega, _, e0, _, e1, _, e2, (sameValue_c x y w3).mono ?_⟩
    rintro e w4 ⟨rfl, hp4⟩
    refine ⟨_, rfl, Br.of (fun d2 => ⟨?_, (hp.trans hp3).trans hp4⟩) (fun d2 => ?_)⟩
    · rw [decide_eq_false]
      intro e
      subst e
      rw [hx] at hy
      cases hy
      simp at d2
    · rw [wrap_in (by omega) (by omega)]
      exact hJ _ _ hk2 ⟨by omega, eq_of_take he hx hy (by simpa using d2), (hp.trans hp3).trans hp4⟩
  · have hk2 : k = a.length := by have := dfalse d1; omega
    subst hk2
    rw [List.take_length, hab, List.take_length] at he
    exact ⟨by rw [decide_eq_true he], hp⟩
theorem sameRecord_c {w : World} {s t : SV} {x y : Bool} {a b : List Val} (ha : RdV w s a) (hb : RdV w t b) : Calls Tryz.prog 29 #[.agg #[.bool x, .slice s.a s.len s.cap], .agg #[.bool y, .slice t.a t.len t.cap]] w fun e w' => e = .returned (.bool (decide (x = y) && decide (a = b))) /\ Pu w w' := by
  refine F29_calls _ _ _ _ w _ (alB fun w1 hp1 hb1 => alB fun w2 hp2 hb2 => ?_)
  have hp := hp1.trans hp2
  have q1 := hp2.blk hb1
  refine ⟨_, cl0 q1, _, cl0 hb2, Br.of (fun d => ⟨_, cl q1 1, _, cl hb2 1, (sameValues_c (ha.pu hp) (hb.pu hp)).mono ?_⟩) (fun d => ⟨?_, hp⟩)⟩
  · rintro e w3 ⟨rfl, hp3⟩
    exact ⟨_, rfl, by rw [decide_eq_true (p := x = y) (by simpa using d)]; rfl, hp.trans hp3⟩
  · rw [decide_eq_false (p := x = y) (by simpa using d)]; rfl

theorem rNum_c (n : Int) (w : World) : Calls Tryz.prog 118 #[.int .i64 n] w fun e w' => e = .returned (valA ⟨2, n, ⟨#[]⟩⟩) /\ Pu w w' := by
  refine F118_calls _ w _ (boxA rfl s25.symm rfl fun w1 hp1 _ hb1 => ?_)
  exact ⟨_, cl hb1 0, _, cl hb1 1, _, cl hb1 2, rfl, hp1⟩
theorem rEmpty_c (f : Fld) (w : World) : Calls Tryz.prog 87 #[fldA f] w fun e w' => e = .returned (valA (emptyV f)) /\ Pu w w' := by
  refine F87_calls _ _ _ _ w _ ?_
  refine alB fun w1 hp1 hb1 => alB fun w2 hp2 hb2 => ⟨_, cl (hp2.blk hb1) 1, Br.of (fun d => ?_) (fun d => ⟨_, cl (hp2.blk hb1) 1, ?_⟩)⟩
  · refine (rNum_c 0 w2).mono ?_
    rintro e w3 ⟨rfl, hp3⟩
    refine ⟨_, _, _, rfl, stA_fill (hp3.blk hb2) s25.symm rfl rfl fun w4 hb4 hf4 hs4 => ?_⟩
    exact ⟨_, cl hb4 0, _, cl hb4 1, _, cl hb4 2, by unfold emptyV; rw [if_pos (btrue d)], hp1.trans ((hp2.trans hp3).andNew hf4 fun i hi => by omega)⟩
  · refine stA_fill hb2 s25.symm rfl rfl fun w3 hb3 hf3 hs3 => ?_
    exact ⟨_, cl hb3 0, _, cl hb3 1, _, cl hb3 2, by unfold emptyV; rw [if_neg (bfalse d)], hp1.trans (hp2.andNew hf3 fun i hi => by omega)⟩
def blankV (l : List Fld) : List Val := if validF l = 0 then l.map emptyV else []
theorem map_take' {α β : Type} (g : α -> β) {l : List α} {k : Nat} {x : α} (h : l[k]? = some x) : (l.take (k + 1)).map g = (l.take k).map g ++ [g x] := by
  rw [take_at h, List.map_append]; rfl
theorem blank_c {w : World} {s : SV} {l : List Fld} (h : RdSl w s l) (hl : Lim.ok l) : Calls Tryz.prog 25 #[.slice s.a s.len s.cap] w fun e w' => ∃ q : SV, e = .returned (.tuple #[.agg #[.bool false, .slice q.a q.len q.cap], .int .i64 (validF l)]) /\ NewV w w' q (blankV l) /\ Pu w w' := by
  refine F25_calls _ w _ (alB fun w1 hp1 hb1 => (validFields_c (h.pu hp1) hl).mono ?_)
  rintro e w2 ⟨rfl, hp2⟩
  have hb2 := hp2.blk hb1
  refine ⟨_, rfl, Br.of (fun d => stA_fill hb2 s46.symm rfl rfl fun w3 hb3 hf3 hs3 => ⟨_, cl hb3 0, ⟨none, 0, 0⟩, cl hb3 1, ⟨none, 0, 0⟩, rfl, by unfold blankV; rw [if_neg (bntrue d)]; exact NewV.nil w w3, (hp1.trans hp2).andNew hf3 fun i hi => by omega⟩) (fun d => alB fun w3 hp3 hb3 => ?_)⟩
  have hv := bnfalse d
  have h16 := (validF_ok hv).2.2.2.1
  have hlen := h.len
  have hp03 := (hp1.trans hp2).trans hp3
  have z1 := hp1.size
  have z2 := hp2.size
  have z3 := hp3.size
  have lt2 : w2.heap.size < w3.heap.size := blk_lt hb3
  have lt1 : w.heap.size < w1.heap.size := blk_lt hb1
  refine loopUp l.length (fun k t w' => t = (k : Int) /\ ∃ q : SV, w'.heap[w.heap.size]? = some (.cells #[.bool false, .slice none 0 0] 46) /\ w'.heap[w2.heap.size]? = some (.cells #[.bool false, .slice q.a q.len q.cap] 46) /\ NewV w3 w' q ((l.take k).map emptyV) /\ w3.heap.size <= w'.heap.size /\ Pu w w') ⟨rfl, ⟨none, 0, 0⟩, hp3.blk hb2, hb3, NewV.nil w3 w3, Nat.le_refl _, hp03⟩ ?_
  rintro k J t w4 hk ⟨ht, q, a1, a2, a3, a4, hp⟩ hJ
  obtain rfl : t = (k : Int) := ht
  have htl := List.length_take_le k l
  refine Br.of (fun d1 => ?_) (fun d1 => ?_)
  · have hk2 : k < l.length := by have := dtrue d1; omega
    obtain ⟨f, hf⟩ := at_k hk2
    obtain ⟨a, ha, hi, _, _, _, c0, c1, c2, c3⟩ := fldAt (h.pu hp) hf
    refine ⟨a, ha, by omega, by omega, _, c0, _, c1, _, c2, _, c3, boxA rfl s23.symm rfl fun w5 hp5 hs5 hb5 => dwE_intro fun w6 hp6 _ => ?_⟩
    have b6 := (hp5.trans hp6).blk a2
    refine ⟨fun u => Pu w6 u, Pu.refl _, q, fun u hu => cl (hu.blk b6) 1, f.name, fun u hu => cl (hu.blk (hp6.blk hb5)) 0, f.kind, fun u hu => cl (hu.blk (hp6.blk hb5)) 1, f.width, fun u hu => cl (hu.blk (hp6.blk hb5)) 2, f.null, fun u hu => cl (hu.blk (hp6.blk hb5)) 3, (empty_c f w6).mono ?_⟩
    rintro e w7 ⟨rfl, hp7⟩
    refine ⟨_, _, _, rfl, hp7, alB fun w8 hp8 hb8 => ⟨hp7.trans hp8, ?_⟩⟩
    have hp48 := (((hp5.trans hp6).trans hp7).trans hp8)
    have z48 := hp48.size
    obtain ⟨q', w9, e9, r9, f9⟩ := (a3.pu hp48).push (by omega) hb8 rfl (by rw [List.length_map]; omega)
    have n2 : ¬ w2.heap.size ∈ blkOf q := fun hc => by have := a3.2 _ hc; omega
    have n1 : ¬ w.heap.size ∈ blkOf q := fun hc => by have := a3.2 _ hc; omega
    have hb9 := f9.blk (hp48.blk a2) n2
    have hb9' := f9.blk (hp48.blk a1) n1
    refine ⟨q', w9, e9, st1_intro (o := 1) hb9 (by simp) fun wx ex hbx => ?_⟩
    have fx : Fr (· = w2.heap.size) w9 wx := by rw [ex]; exact Fr.cell w9 _ _ _
    have zx : wx.heap.size = w9.heap.size := by rw [ex]; simp
    have z9 := f9.size
    rw [wrap_in (by omega) (by omega)]
    refine hJ _ _ hk2 ⟨by omega, q', fx.blk hb9' (by omega), hbx, by rw [map_take' _ hf]; exact r9.fr fx fun i hi => by have := r9.2 i hi; omega, by omega, ?_⟩
    have p9 : Pu w w9 := (hp.trans hp48).andNew f9 fun i hi => by have := a3.2 i hi; omega
    exact p9.andNew fx fun i hi => by omega
  · have hk2 : k = l.length := by have := dfalse d1; omega
    subst hk2
    rw [List.take_length] at a3
    refine ⟨_, cl a2 0, q, cl a2 1, stA_fill a1 s46.symm rfl rfl fun w5 hb5 hf5 hs5 => ⟨_, cl hb5 0, q, cl hb5 1, q, by rw [hv], ?_, hp.andNew hf5 fun i hi => by omega⟩⟩
    unfold blankV; rw [if_pos hv]
    exact (a3.fr hf5 fun i hi => by have := a3.2 i hi; omega).low (by omega)
theorem rBlanks_c {w : World} {s : SV} {l : List Fld} (h : RdSl w s l) (h16 : l.length <= 16) : Calls Tryz.prog 65 #[.slice s.a s.len s.cap] w fun e w' => ∃ q : SV, e = .returned (.agg #[.bool false, .slice q.a q.len q.cap]) /\ NewV w w' q (l.map emptyV) /\ Pu w w' := by
  refine F65_calls _ w _ (alB fun w2 hp2 hb2 => alB fun w3 hp3 hb3 => ?_)
  have hlen := h.len
  have hp03 := hp2.trans hp3
  have z2 := hp2.size
  have z3 := hp3.size
  have lt2 : w2.heap.size < w3.heap.size := blk_lt hb3
  have lt1 : w.heap.size < w2.heap.size := blk_lt hb2
  refine loopUp l.length (fun k t w' => t = (k : Int) /\ ∃ q : SV, w'.heap[w.heap.size]? = some (.cells #[.bool false, .slice none 0 0] 46) /\ w'.heap[w2.heap.size]? = some (.cells #[.bool false, .slice q.a q.len q.cap] 46) /\ NewV w3 w' q ((l.take k).map emptyV) /\ w3.heap.size <= w'.heap.size /\ Pu w w') ⟨rfl, ⟨none, 0, 0⟩, hp3.blk hb2, hb3, NewV.nil w3 w3, Nat.le_refl _, hp03⟩ ?_
  rintro k J t w4 hk ⟨ht, q, a1, a2, a3, a4, hp⟩ hJ
  obtain rfl : t = (k : Int) := ht
  have htl := List.length_take_le k l
  refine Br.of (fun d1 => dwE_intro fun w6 hp6 _ => ?_) (fun d1 => ?_)
  · have hk2 : k < l.length := by have := dtrue d1; omega
    obtain ⟨f, hf⟩ := at_k hk2
    obtain ⟨a, ha, hi, _, _, _, c0, c1, c2, c3⟩ := fldAt ((h.pu hp).pu hp6) hf
    have b6 := hp6.blk a2
    refine ⟨fun u => Pu w6 u, Pu.refl _, q, fun u hu => cl (hu.blk b6) 1, a, ha, by omega, by omega, f.name, fun u hu => hu.cell c0, f.kind, fun u hu => hu.cell c1, f.width, fun u hu => hu.cell c2, f.null, fun u hu => hu.cell c3, (rEmpty_c f w6).mono ?_⟩
    rintro e w7 ⟨rfl, hp7⟩
    refine ⟨_, _, _, rfl, hp7, alB fun w8 hp8 hb8 => ⟨hp7.trans hp8, ?_⟩⟩
    have hp48 := ((hp6.trans hp7).trans hp8)
    have z48 := hp48.size
    obtain ⟨q', w9, e9, r9, f9⟩ := (a3.pu hp48).push (by omega) hb8 rfl (by rw [List.length_map]; omega)
    have n2 : ¬ w2.heap.size ∈ blkOf q := fun hc => by have := a3.2 _ hc; omega
    have n1 : ¬ w.heap.size ∈ blkOf q := fun hc => by have := a3.2 _ hc; omega
    have hb9 := f9.blk (hp48.blk a2) n2
    have hb9' := f9.blk (hp48.blk a1) n1
    refine ⟨q', w9, e9, st1_intro (o := 1) hb9 (by simp) fun wx ex hbx => ?_⟩
    have fx : Fr (· = w2.heap.size) w9 wx := by rw [ex]; exact Fr.cell w9 _ _ _
    have zx : wx.heap.size = w9.heap.size := by rw [ex]; simp
    have z9 := f9.size
    rw [wrap_in (by omega) (by omega)]
    refine hJ _ _ hk2 ⟨by omega, q', fx.blk hb9' (by omega), hbx, by rw [map_take' _ hf]; exact r9.fr fx fun i hi => by have := r9.2 i hi; omega, by omega, ?_⟩
    have p9 : Pu w w9 := (hp.trans hp48).andNew f9 fun i hi => by have := a3.2 i hi; omega
    exact p9.andNew fx fun i hi => by omega
  · have hk2 : k = l.length := by have := dfalse d1; omega
    subst hk2
    rw [List.take_length] at a3
    refine ⟨_, cl a2 0, q, cl a2 1, stA_fill a1 s46.symm rfl rfl fun w5 hb5 hf5 hs5 => ⟨_, cl hb5 0, q, cl hb5 1, q, rfl, ?_, hp.andNew hf5 fun i hi => by omega⟩⟩
    exact (a3.fr hf5 fun i hi => by have := a3.2 i hi; omega).low (by omega)
theorem rBlank_c {w : World} {s : SV} {l : List Fld} (h : RdSl w s l) : Calls Tryz.prog 26 #[.slice s.a s.len s.cap] w fun e w' => ∃ q : SV, e = .returned (.tuple #[.agg #[.bool false, .slice q.a q.len q.cap], .int .i64 (validF l)]) /\ NewV w w' q (blankV l) /\ Pu w w' := by
  refine F26_calls _ w _ (alB fun w1 hp1 hb1 => (rValidFields_c (h.pu hp1)).mono ?_)
  rintro e w2 ⟨rfl, hp2⟩
  have hb2 := hp2.blk hb1
  have z1 := hp1.size
  have z2 := hp2.size
  refine ⟨_, rfl, Br.of (fun d => stA_fill hb2 s46.symm rfl rfl fun w3 hb3 hf3 hs3 => ⟨_, cl hb3 0, ⟨none, 0, 0⟩, cl hb3 1, ⟨none, 0, 0⟩, rfl, by unfold blankV; rw [if_neg (bntrue d)]; exact NewV.nil w w3, (hp1.trans hp2).andNew hf3 fun i hi => by omega⟩) (fun d => ?_)⟩
  have hv := bnfalse d
  refine (rBlanks_c (h.pu (hp1.trans hp2)) (validF_ok hv).2.2.2.1).mono ?_
  rintro e w3 ⟨q, rfl, hq, hp3⟩
  have lt1 : w.heap.size < w1.heap.size := blk_lt hb1
  refine ⟨_, q, rfl, stA_fill (hp3.blk hb2) s46.symm rfl rfl fun w5 hb5 hf5 hs5 => ⟨_, cl hb5 0, q, cl hb5 1, q, by rw [hv], ?_, ((hp1.trans hp2).trans hp3).andNew hf5 fun i hi => by omega⟩⟩
  unfold blankV; rw [if_pos hv]
  exact (hq.fr hf5 fun i hi => by have := hq.2 i hi; omega).low (by omega)

def idxN (l : List Fld) (s : ByteArray) : Option Nat := l.findIdx? fun f => decide (f.name = s)
def idxK (l : List Fld) (s : ByteArray) : Int := ((idxN l s).getD 0 : Nat)
theorem index_c {w : World} {s : SV} {l : List Fld} (h : RdSl w s l) (nm : ByteArray) : Calls Tryz.prog 27 #[.slice s.a s.len s.cap, .string nm] w fun e w' => e = .returned (.tuple #[.int .i64 (idxK l nm), .bool (idxN l nm).isSome]) /\ Pu w w' := by
  refine F27_calls _ _ w _ (alB fun w1 hp1 hb1 => ?_)
  have tells : TellsF l 67 #[.pointer (some ⟨w.heap.size, 0, none⟩)] (fun f => decide (f.name = nm)) w1 := ⟨by kernel_rfl, fun f hf w2 hp2 => by
    refine F67_calls _ _ _ _ _ w2 _ (alB fun w3 hp3 hb3 => ⟨_, cl0 hb3, _, cl0 ((hp2.trans hp3).blk hb1), ?_, hp3⟩)
    rw [toList_beq]⟩
  refine (indexFunc_c (h.pu hp1) tells).mono ?_
  rintro e w2 ⟨rfl, hp2⟩
  refine ⟨_, rfl, _, w2, max_run _ _ _ _ _ _, ?_, hp1.trans hp2⟩
  unfold idxK idxN
  cases l.findIdx? fun f => decide (f.name = nm) with
  | none => rfl
  | some k =>
    dsimp only
    rw [Int.max_eq_left (by omega), decide_eq_true (by omega)]; rfl
theorem rIndex_c {w : World} {s : SV} {l : List Fld} (h : RdSl w s l) (nm : ByteArray) : Calls Tryz.prog 28 #[.slice s.a s.len s.cap, .string nm] w fun e w' => e = .returned (.tuple #[.int .i64 (idxK l nm), .bool (idxN l nm).isSome]) /\ Pu w w' := by
  refine F28_calls _ _ w _ ?_
  have hlen := h.len
  have hlim := h.lim
  refine loopUp l.length (fun k t w' => t = (k : Int) /\ (∀ f ∈ l.take k, decide (f.name = nm) = false) /\ Pu w w') ⟨rfl, by simp, Pu.refl _⟩ ?_
  rintro k J t w2 hk ⟨ht, hno, hp⟩ hJ
  obtain rfl : t = (k : Int) := ht
  refine Br.of (fun d => ?_) (fun d => ?_)
  · have hk2 : k < l.length := by have := dtrue d; omega
    obtain ⟨f, hf⟩ := at_k hk2
    obtain ⟨a, ha, hi, _, _, c, _⟩ := fldAt (h.pu hp) hf
    refine ⟨a, ha, by omega, by omega, _, c, ?_⟩
    rw [toList_beq]
    refine Br.of (fun d1 => ?_) (fun d1 => ?_)
    · have : idxN l nm = some k := findIdx_take hno hf d1
      refine ⟨?_, hp⟩
      unfold idxK; rw [this]; rfl
    · rw [wrap_in (by omega) (by omega)]
      refine hJ _ _ hk2 ⟨by omega, fun f' hf' => ?_, hp⟩
      rw [take_at hf, List.mem_append, List.mem_singleton] at hf'
      rcases hf' with hf' | rfl
      · exact hno f' hf'
      · exact d1
  · have hk2 : k = l.length := by have := dfalse d; omega
    subst hk2
    rw [List.take_length] at hno
    have : idxN l nm = none := by unfold idxN; rw [List.findIdx?_eq_none_iff]; exact fun x hx => by rw [hno x hx]
    refine ⟨?_, hp⟩
    unfold idxK; rw [this]; rfl
theorem tableBlanks_c (w : World) (s : SV) (l : List Fld) (h : RdSl w s l) (hl : Lim.ok l) (nm : ByteArray) (_ : Lim.ok nm) : Calls Tryz.prog 5 #[.slice s.a s.len s.cap, .string nm] w fun e w' => e = .returned (.bool true) /\ Pu w w' := by
  refine F5_calls _ _ w _ ?_
  refine (weight_c (t := ⟨0, l, []⟩) (f := s) (r := ⟨none, 0, 0⟩) ⟨by simp [In64], h, RdSl.nil w none 0⟩).mono ?_
  rintro e w1 ⟨n, rfl, hp1⟩
  refine ⟨n, rfl, Br.of (fun _ => (known_c w1).mono ?_) (fun _ => (blank_c (h.pu hp1) hl).mono ?_)⟩
  · rintro e w2 ⟨rfl, hp2⟩; exact ⟨_, rfl, rfl, hp1.trans hp2⟩
  rintro e w2 ⟨q, rfl, hq, hp2⟩
  refine ⟨_, q, _, rfl, boxA rfl s46.symm rfl fun w3 hp3 hs3 hb3 => ?_⟩
  have p3 := (hp1.trans hp2).trans hp3
  refine (rBlank_c (h.pu p3)).mono ?_
  rintro e w4 ⟨q2, rfl, hq2, hp4⟩
  refine ⟨_, q2, _, rfl, boxA rfl s46.symm rfl fun w5 hp5 hs5 hb5 => ?_⟩
  have p5 := (p3.trans hp4).trans hp5
  refine (index_c (h.pu p5) nm).mono ?_
  rintro e w6 ⟨rfl, hp6⟩
  refine ⟨_, _, rfl, (rIndex_c ((h.pu p5).pu hp6) nm).mono ?_⟩
  rintro e w7 ⟨rfl, hp7⟩
  have p7 := hp6.trans hp7
  have e3 := ((hp4.trans hp5).trans p7).blk hb3
  have e5 := p7.blk hb5
  have hbl : (blankV l).length <= 140737488355328 := by
    unfold blankV; have := h.lim; have := h.len
    split
    · rw [List.length_map]; omega
    · simp
  refine ⟨_, _, rfl, _, cl e3 0, q, cl e3 1, _, cl e5 0, q2, cl e5 1, (sameRecord_c (x := false) (y := false) ((hq.pu (hp3.trans ((hp4.trans hp5).trans p7))).rd hbl) ((hq2.pu (hp5.trans p7)).rd hbl)).mono ?_⟩
  rintro e w8 ⟨rfl, hp8⟩
  refine ⟨_, rfl, Br.t (by simp) (Br.t (by simp) (Br.t (by simp) (Br.t (by simp) ((known_c w8).mono ?_))))⟩
  rintro e w9 ⟨rfl, hp9⟩
  exact ⟨_, rfl, rfl, p5.trans ((p7.trans hp8).trans hp9)⟩
end Go.Proofs.YtecmfdfhpldmmaaGreatDoor

/- Table: in which records two tables differ; the law on it. No condition. -/
set_option maxRecDepth 100000
set_option linter.unusedVariables false
set_option linter.unusedSimpArgs false
namespace Go.Proofs.YtecmfdfhpldmmaaGreatDoor
open Go.Sh Go.RowKit

theorem struct23 : structK Tryz.prog 23 [.str, .int .i64, .int .i64, .bool] = true := by kernel_rfl
theorem guard23 : Tryz.prog.eqGuardType Tryz.prog.depth 23 = false := by kernel_rfl
theorem structK25 : structK Tryz.prog 25 [.int .i64, .int .i64, .str] = true := by kernel_rfl
theorem under4 : Tryz.prog.underlying 4 = some .bool := by kernel_rfl
theorem fldV_inj {a b : Fld} (h : fldV a = fldV b) : a = b := by
  obtain ⟨a1, a2, a3, a4⟩ := a; obtain ⟨b1, b2, b3, b4⟩ := b
  simp [fldV] at h; simp [h]
theorem neFld (x y : Operand) (a b : Fld) (w : World) : (eqS .neq 23 x y (fldA a) (fldA b)).run Tryz.prog w = .ok (.bool (!decide (a = b))) w := by
  refine neS_rowK (ks := [.str, .int .i64, .int .i64, .bool]) (xs := fldV a) (ys := fldV b) struct23 guard23 rfl rfl ?_ w
  rw [decide_eq_true_iff]
  exact ⟨fun h => by rw [h], fldV_inj⟩
theorem neVal (x y : Operand) (a b : Val) (w : World) : (eqS .neq 25 x y (valA a) (valA b)).run Tryz.prog w = .ok (.bool (!decide (a = b))) w := by
  refine neS_rowK (ks := [.int .i64, .int .i64, .str]) (xs := valV a) (ys := valV b) structK25 guard25 rfl rfl ?_ w
  rw [decide_eq_true_iff]
  exact ⟨fun h => by rw [h], valV_inj⟩
structure RdF (w : World) (s : SV) (l : List Fld) : Prop where
  len : s.len = l.length
  lim : l.length <= 140737488355328
  get : ∀ i f, l[i]? = some f -> ∃ a, s.a = some a /\ w.cell? ((a.add (i * 4)).add 0) = some (.string f.name) /\ w.cell? ((a.add (i * 4)).add 1) = some (.int .i64 f.kind) /\ w.cell? ((a.add (i * 4)).add 2) = some (.int .i64 f.width) /\ w.cell? ((a.add (i * 4)).add 3) = some (.bool f.null)
theorem RdF.pu {w w' : World} {s : SV} {l : List Fld} (h : RdF w s l) (hp : Pu w w') : RdF w' s l := ⟨h.len, h.lim, fun i v hv => by
  obtain ⟨a, h1, h2, h3, h4, h5⟩ := h.get i v hv
  exact ⟨a, h1, hp.cell h2, hp.cell h3, hp.cell h4, hp.cell h5⟩⟩
theorem RdF.of {w : World} {s : SV} {l : List Fld} (h : RdSl w s l) : RdF w s l := ⟨h.len, by have := h.lim; have := h.len; omega, fun i v hv => by
  obtain ⟨a, h1, _, _, _, _, h2, h3, h4, h5⟩ := fldAt h hv
  exact ⟨a, h1, h2, h3, h4, h5⟩⟩
theorem ne_of_at {α : Type} {a b : List α} {k : Nat} {x y : α} (hx : a[k]? = some x) (hy : b[k]? = some y) (h : x ≠ y) : a ≠ b := fun e => by
  subst e; rw [hx] at hy; cases hy; exact h rfl
theorem equalF_c {w : World} {s t : SV} {a b : List Fld} (ha : RdF w s a) (hb : RdF w t b) : Calls Tryz.prog 77 #[.slice s.a s.len s.cap, .slice t.a t.len t.cap] w fun e w' => e = .returned (.bool (decide (a = b))) /\ Pu w w' := by
  refine F77_calls _ _ w _ ?_
  have hla := ha.len
  have hlb := hb.len
  have hlim := ha.lim
  refine Br.of (fun d => ⟨by rw [decide_eq_false (fun e => bntrue d (by rw [hla, hlb, e]))], Pu.refl _⟩) (fun d => ?_)
  have hab : a.length = b.length := by have := bnfalse d; omega
  refine loopUp a.length (fun k t w' => t = (k : Int) /\ a.take k = b.take k /\ Pu w w') ⟨rfl, by simp, Pu.refl _⟩ ?_
  rintro k J t w2 hk ⟨ht, he, hp⟩ hJ
  obtain rfl : t = (k : Int) := ht
  refine Br.of (fun d1 => dwE_intro fun w3 hp3 _ => ?_) (fun d1 => ?_)
  · have hk2 : k < a.length := by have := dtrue d1; omega
    obtain ⟨x, hx⟩ := at_k hk2
    obtain ⟨y, hy⟩ := at_k (show k < b.length by omega)
    obtain ⟨p, hpa, c0, c1, c2, c3⟩ := ((ha.pu hp).pu hp3).get k x hx
    obtain ⟨q, hqa, e0, e1, e2, e3⟩ := ((hb.pu hp).pu hp3).get k y hy
    refine ⟨p, hpa, by omega, by omega, _, c0, _, c1, _, c2, _, c3, q, hqa, by omega, by omega, _, e0, _, e1, _, e2, _, e3, _, fun w => neFld _ _ x y w, Br.of (fun d2 => ⟨?_, hp.trans hp3⟩) (fun d2 => ?_)⟩
    · rw [decide_eq_false (ne_of_at hx hy (by simpa using d2))]
    · rw [wrap_in (by omega) (by omega)]
      exact hJ _ _ hk2 ⟨by omega, eq_of_take he hx hy (by simpa using d2), hp.trans hp3⟩
  · have hk2 : k = a.length := by have := dfalse d1; omega
    subst hk2
    rw [List.take_length, hab, List.take_length] at he
    exact ⟨by rw [decide_eq_true he], hp⟩
theorem sameFields_c {w : World} {s t : SV} {a b : List Fld} (ha : RdF w s a) (hb : RdF w t b) : Calls Tryz.prog 79 #[.slice s.a s.len s.cap, .slice t.a t.len t.cap] w fun e w' => e = .returned (.bool (decide (a = b))) /\ Pu w w' := by
  refine F79_calls _ _ w _ ?_
  have hla := ha.len
  have hlb := hb.len
  have hlim := ha.lim
  refine Br.of (fun d => ⟨by rw [decide_eq_false (fun e => bntrue d (by rw [hla, hlb, e]))], Pu.refl _⟩) (fun d => ?_)
  have hab : a.length = b.length := by have := bnfalse d; omega
  refine loopUp a.length (fun k t w' => t = (k : Int) /\ a.take k = b.take k /\ Pu w w') ⟨rfl, by simp, Pu.refl _⟩ ?_
  rintro k J t w2 hk ⟨ht, he, hp⟩ hJ
  obtain rfl : t = (k : Int) := ht
  refine Br.of (fun d1 => dwE_intro fun w3 hp3 _ => ?_) (fun d1 => ?_)
  · have hk2 : k < a.length := by have := dtrue d1; omega
    obtain ⟨x, hx⟩ := at_k hk2
    obtain ⟨y, hy⟩ := at_k (show k < b.length by omega)
    obtain ⟨p, hpa, c0, c1, c2, c3⟩ := ((ha.pu hp).pu hp3).get k x hx
    obtain ⟨q, hqa, e0, e1, e2, e3⟩ := ((hb.pu hp).pu hp3).get k y hy
    refine ⟨p, hpa, by omega, by omega, _, c0, _, c1, _, c2, _, c3, q, hqa, by omega, by omega, _, e0, _, e1, _, e2, _, e3, _, fun w => neFld _ _ x y w, Br.of (fun d2 => ⟨?_, hp.trans hp3⟩) (fun d2 => ?_)⟩
    · rw [decide_eq_false (ne_of_at hx hy (by simpa using d2))]
    · rw [wrap_in (by omega) (by omega)]
      exact hJ _ _ hk2 ⟨by omega, eq_of_take he hx hy (by simpa using d2), hp.trans hp3⟩
  · have hk2 : k = a.length := by have := dfalse d1; omega
    subst hk2
    rw [List.take_length, hab, List.take_length] at he
    exact ⟨by rw [decide_eq_true he], hp⟩
theorem equalV_c {w : World} {s t : SV} {a b : List Val} (ha : RdV w s a) (hb : RdV w t b) : Calls Tryz.prog 78 #[.slice s.a s.len s.cap, .slice t.a t.len t.cap] w fun e w' => e = .returned (.bool (decide (a = b))) /\ Pu w w' := by
  refine F78_calls _ _ w _ ?_
  have hla := ha.len
  have hlb := hb.len
  have hlim := ha.lim
  refine Br.of (fun d => ⟨by rw [decide_eq_false (fun e => bntrue d (by rw [hla, hlb, e]))], Pu.refl _⟩) (fun d => ?_)
  have hab : a.length = b.length := by have := bnfalse d; omega
  refine loopUp a.length (fun k t w' => t = (k : Int) /\ a.take k = b.take k /\ Pu w w') ⟨rfl, by simp, Pu.refl _⟩ ?_
  rintro k J t w2 hk ⟨ht, he, hp⟩ hJ
  obtain rfl : t = (k : Int) := ht
  refine Br.of (fun d1 => dwE_intro fun w3 hp3 _ => ?_) (fun d1 => ?_)
  · have hk2 : k < a.length := by have := dtrue d1; omega
    obtain ⟨x, hx⟩ := at_k hk2
    obtain ⟨y, hy⟩ := at_k (show k < b.length by omega)
    obtain ⟨p, hpa, c0, c1, c2⟩ := ((ha.pu hp).pu hp3).get k x hx
    obtain ⟨q, hqa, e0, e1, e2⟩ := ((hb.pu hp).pu hp3).get k y hy
    refine ⟨p, hpa, by omega, by omega, _, c0, _, c1, _, c2, q, hqa, by omega, by omega, _, e0, _, e1, _, e2, _, fun w => neVal _ _ x y w, Br.of (fun d2 => ⟨?_, hp.trans hp3⟩) (fun d2 => ?_)⟩
    · rw [decide_eq_false (ne_of_at hx hy (by simpa using d2))]
    · rw [wrap_in (by omega) (by omega)]
      exact hJ _ _ hk2 ⟨by omega, eq_of_take he hx hy (by simpa using d2), hp.trans hp3⟩
  · have hk2 : k = a.length := by have := dfalse d1; omega
    subst hk2
    rw [List.take_length, hab, List.take_length] at he
    exact ⟨by rw [decide_eq_true he], hp⟩

def difB (a b : List Rec) (i : Nat) : Bool := !decide (a[i]? = b[i]?)
def difL (a b : List Rec) (n : Nat) : List Int := ((List.range n).filter (difB a b)).map fun (i : Nat) => (i : Int) + 1
theorem difL_yes {a b : List Rec} {n : Nat} (h : difB a b n = true) : difL a b (n + 1) = difL a b n ++ [(n : Int) + 1] := by
  simp [difL, List.range_succ, List.filter_append, h]
theorem difL_no {a b : List Rec} {n : Nat} (h : difB a b n = false) : difL a b (n + 1) = difL a b n := by
  simp [difL, List.range_succ, List.filter_append, h]
theorem difL_len (a b : List Rec) (n : Nat) : (difL a b n).length <= n := by
  unfold difL; rw [List.length_map]
  have := List.length_filter_le (difB a b) (List.range n)
  simpa using this
def difS (a b : Tbl) : List Int × Int := if validT a ≠ 0 then ([], validT a) else if validT b ≠ 0 then ([], validT b) else if a.page ≠ b.page ∨ a.fields ≠ b.fields then ([], 10) else (difL a.recs b.recs (max a.recs.length b.recs.length), 0)
theorem validT_ok {t : Tbl} (h : validT t = 0) : pageB t.page = true /\ validF t.fields = 0 /\ t.recs.length <= 300 /\ firstBad t.fields t.page t.recs = 0 := by
  unfold validT at h
  split at h
  · rename_i h1
    split at h
    · rename_i h2; exact absurd h h2
    · rename_i h2
      split at h
      · cases h
      · rename_i h3; exact ⟨h1, by omega, by omega, h⟩
  · cases h
theorem rec_eq {x y : Rec} : (x = y) ↔ (x.gone = y.gone /\ x.v = y.v) := by
  obtain ⟨a, b⟩ := x; obtain ⟨c, d⟩ := y; simp
theorem difB_out {a b : List Rec} {i : Nat} (hm : i < max a.length b.length) (h : a.length <= i ∨ b.length <= i) : difB a b i = true := by
  unfold difB
  rw [Bool.not_eq_true', decide_eq_false_iff_not]
  intro e
  rcases h with h | h
  · rw [List.getElem?_eq_none h, List.getElem?_eq_getElem (by omega)] at e; cases e
  · rw [List.getElem?_eq_none (l := b) h, List.getElem?_eq_getElem (by omega)] at e; cases e
theorem difB_in {a b : List Rec} {i : Nat} {x y : Rec} (hx : a[i]? = some x) (hy : b[i]? = some y) : difB a b i = !(decide (x.gone = y.gone) && decide (x.v = y.v)) := by
  unfold difB
  rw [hx, hy]
  congr 1
  rw [← Bool.decide_and]
  refine dec_eq ?_
  rw [Option.some_inj, rec_eq]
theorem dif_push {w0 w : World} {s : SV} {a b : List Rec} {k : Nat} (h : NewI w0 w s (difL a b k)) (hp : Pu w0 w) (hk : k < 1000) {J : SV × Int -> World -> Prop}
    (hJ : ∀ (s' : SV) w', NewI w0 w' s' (difL a b (k + 1)) -> Pu w0 w' -> J (s', (k : Int) + 1) w') (hd : difB a b k = true) :
    alE (.cells #[.int .i64 (IntKind.i64.wrap ((k : Int) + 1))] 3) w fun r w4 => ∃ l90 : SV, ∃ w5 : World, (Builtin.append_ #[55, 55] 55 #[.slice s.a s.len s.cap, .slice (some ⟨r, 0, none⟩) 1 1]).run Tryz.prog w4 = .ok (.slice l90.a l90.len l90.cap) w5 /\ J (l90, IntKind.i64.wrap ((k : Int) + 1)) w5 := by
  rw [wrap_in (by omega) (by omega)]
  refine alB fun w4 hp4 hb4 => ?_
  have hl := difL_len a b k
  obtain ⟨s', w5, e5, r5, f5⟩ := (h.pu hp4).push (hp.trans hp4).size hb4 (by omega)
  refine ⟨s', w5, e5, hJ s' w5 (by rw [difL_yes hd]; exact r5) ?_⟩
  exact (hp.trans hp4).andNew f5 fun i hi => h.2 i hi
theorem tbl_blk {w : World} {r : Nat} {t : Tbl} {f q : SV} (h : w.heap[r]? = some (.cells #[.int .i64 t.page, .slice f.a f.len f.cap, .slice q.a q.len q.cap] 35)) : w.cell? ((⟨r, 0, none⟩ : Addr).add 0) = some (.int .i64 t.page) /\ w.cell? ((⟨r, 0, none⟩ : Addr).add 1) = some (.slice f.a f.len f.cap) /\ w.cell? ((⟨r, 0, none⟩ : Addr).add 2) = some (.slice q.a q.len q.cap) := ⟨cl h 0, cl h 1, cl h 2⟩
theorem differ_c {w : World} {a b : Tbl} {fa ra fb rb : SV} (ha : RdTbl w a fa ra) (hb : RdTbl w b fb rb) (la : Lim.ok a.fields) (lb : Lim.ok b.fields) : Calls Tryz.prog 39 #[tblA a fa ra, tblA b fb rb] w
    fun e w' => ∃ q : SV, e = .returned (.tuple #[.slice q.a q.len q.cap, .int .i64 (difS a b).2]) /\ NewI w w' q (difS a b).1 /\ Pu w w' := by
  refine F39_calls _ _ _ _ _ _ w _ (alB fun w1 hp1 hb1 => alB fun w2 hp2 hb2 => ?_)
  have hp02 := hp1.trans hp2
  have b1 : ∀ {wz}, Pu w2 wz -> _ := fun {wz} (h : Pu w2 wz) => tbl_blk (t := a) (f := fa) (q := ra) (h.blk (hp2.blk hb1))
  have b2 : ∀ {wz}, Pu w2 wz -> _ := fun {wz} (h : Pu w2 wz) => tbl_blk (t := b) (f := fb) (q := rb) (h.blk hb2)
  refine ⟨_, (b1 (Pu.refl _)).1, _, (b1 (Pu.refl _)).2.1, _, (b1 (Pu.refl _)).2.2, (validTbl_c (ha.pu hp02) la).mono ?_⟩
  rintro e w3 ⟨rfl, hp3⟩
  refine ⟨_, rfl, Br.of (fun d => ⟨⟨none, 0, 0⟩, by unfold difS; rw [if_pos (bntrue d)], by unfold difS; rw [if_pos (bntrue d)]; exact NewI.nil w w3, hp02.trans hp3⟩) (fun d => ?_)⟩
  have va := bnfalse d
  refine ⟨_, (b2 hp3).1, _, (b2 hp3).2.1, _, (b2 hp3).2.2, (validTbl_c (hb.pu (hp02.trans hp3)) lb).mono ?_⟩
  rintro e w4 ⟨rfl, hp4⟩
  have p4 := hp3.trans hp4
  have eA : difS a b = if validT b ≠ 0 then ([], validT b) else if a.page ≠ b.page ∨ a.fields ≠ b.fields then ([], 10) else (difL a.recs b.recs (max a.recs.length b.recs.length), 0) := by unfold difS; rw [if_neg (by omega)]
  refine ⟨_, rfl, Br.of (fun d => ⟨⟨none, 0, 0⟩, by rw [eA, if_pos (bntrue d)], by rw [eA, if_pos (bntrue d)]; exact NewI.nil w w4, hp02.trans p4⟩) (fun d => ?_)⟩
  have vb := bnfalse d
  rw [if_neg (by omega)] at eA
  have c1 := (b1 p4).1
  have c2 := (b2 p4).1
  rw [add0] at c1 c2
  refine ⟨_, c1, _, c2, Br.of (fun d => ⟨⟨none, 0, 0⟩, by rw [eA, if_pos (.inl (bntrue d))], by rw [eA, if_pos (.inl (bntrue d))]; exact NewI.nil w w4, hp02.trans p4⟩) (fun d => ⟨_, (b1 p4).2.1, _, (b2 p4).2.1, ?_⟩)⟩
  have hpg := bnfalse d
  refine (equalF_c (RdF.of (ha.fields.pu (hp02.trans p4))) (RdF.of (hb.fields.pu (hp02.trans p4)))).mono ?_
  rintro e w5 ⟨rfl, hp5⟩
  have p5 := p4.trans hp5
  refine ⟨_, rfl, Br.of (fun d => ⟨⟨none, 0, 0⟩, by rw [eA, if_pos (.inr (by simpa using d))], by rw [eA, if_pos (.inr (by simpa using d))]; exact NewI.nil w w5, hp02.trans p5⟩) (fun d => ⟨_, (b1 p5).2.2, _, (b2 p5).2.2, _, w5, max_run _ _ _ _ _ _, ?_⟩)⟩
  rw [if_neg (by rintro (h | h); exact h hpg; exact h (by simpa using d))] at eA
  have hla := ha.recs.len
  have hlb := hb.recs.len
  have ma := (validT_ok va).2.2.1
  have mb := (validT_ok vb).2.2.1
  refine loopUp (max a.recs.length b.recs.length) (fun k t w' => t.2 = (k : Int) /\ NewI w2 w' t.1 (difL a.recs b.recs k) /\ Pu w2 w') ⟨rfl, NewI.nil w2 w5, p5⟩ ?_
  rintro k J ⟨t1, t2⟩ w6 hk ⟨ht, hr, hp⟩ hJ
  obtain rfl : t2 = (k : Int) := ht
  have hr : NewI w2 w6 t1 (difL a.recs b.recs k) := hr
  dsimp only
  refine Br.of (fun d1 => dwE_intro fun w7 hp7 _ => ?_) (fun d1 => ?_)
  · have hk2 : k < max a.recs.length b.recs.length := by have := dtrue d1; omega
    have p7 := hp.trans hp7
    have hr7 := hr.pu hp7
    refine ⟨_, (b1 p7).2.2, Br.of (fun d2 => ?_) (fun d2 => ⟨_, (b2 p7).2.2, Br.of (fun d3 => ?_) (fun d3 => ⟨_, (b1 p7).2.2, ?_⟩)⟩)⟩
    · exact dif_push hr7 p7 (by omega) (fun s' w' h1 h2 => hJ _ _ hk2 ⟨by dsimp only; omega, h1, h2⟩) (difB_out hk2 (.inl (by have := dtrue d2; omega)))
    · exact dif_push hr7 p7 (by omega) (fun s' w' h1 h2 => hJ _ _ hk2 ⟨by dsimp only; omega, h1, h2⟩) (difB_out hk2 (.inr (by have := dtrue d3; omega)))
    have d2 := dfalse d2
    have d3 := dfalse d3
    obtain ⟨x, hx⟩ := at_k (show k < a.recs.length by omega)
    obtain ⟨y, hy⟩ := at_k (show k < b.recs.length by omega)
    obtain ⟨p, sx, hpa, _, vx, x0, x1⟩ := recAt (ha.recs.pu (hp02.trans p7)) hx
    obtain ⟨q, sy, hqa, _, vy, y0, y1⟩ := recAt (hb.recs.pu (hp02.trans p7)) hy
    have x00 := x0
    have y00 := y0
    rw [add0] at x00 y00
    have hd := difB_in hx hy
    refine ⟨p, hpa, by omega, by omega, _, x00, _, (b2 p7).2.2, q, hqa, by omega, by omega, _, y00, _, fun w => neS_bool under4 _ _ _ _ w, Br.of (fun d4 => ?_) (fun d4 => ?_)⟩
    · exact dif_push hr7 p7 (by omega) (fun s' w' h1 h2 => hJ _ _ hk2 ⟨by dsimp only; omega, h1, h2⟩) (by rw [hd, decide_eq_false (by simpa using d4)]; rfl)
    have d4 : x.gone = y.gone := by simpa using d4
    refine ⟨_, (b1 p7).2.2, p, hpa, by omega, by omega, _, x1, _, (b2 p7).2.2, q, hqa, by omega, by omega, _, y1, (equalV_c (RdV.of vx) (RdV.of vy)).mono ?_⟩
    rintro e w8 ⟨rfl, hp8⟩
    refine ⟨_, rfl, Br.of (fun d5 => ?_) (fun d5 => ?_)⟩
    · exact dif_push (hr7.pu hp8) (p7.trans hp8) (by omega) (fun s' w' h1 h2 => hJ _ _ hk2 ⟨by dsimp only; omega, h1, h2⟩) (by rw [hd, decide_eq_true d4]; simpa using d5)
    · show J (t1, IntKind.i64.wrap ((k : Int) + 1)) w8
      rw [wrap_in (by omega) (by omega)]
      refine hJ _ _ hk2 ⟨by dsimp only; omega, ?_, p7.trans hp8⟩
      dsimp only
      rw [difL_no (by rw [hd, decide_eq_true d4]; simpa using d5)]
      exact hr7.pu hp8
  · have hk2 : k = max a.recs.length b.recs.length := by have := dfalse d1; omega
    subst hk2
    exact ⟨t1, by rw [eA], by rw [eA]; exact hr.low hp02.size, hp02.trans hp⟩
theorem rDiffer_c {w : World} {a b : Tbl} {fa ra fb rb : SV} (ha : RdTbl w a fa ra) (hb : RdTbl w b fb rb) : Calls Tryz.prog 40 #[tblA a fa ra, tblA b fb rb] w
    fun e w' => ∃ q : SV, e = .returned (.tuple #[.slice q.a q.len q.cap, .int .i64 (difS a b).2]) /\ NewI w w' q (difS a b).1 /\ Pu w w' := by
  refine F40_calls _ _ _ _ _ _ w _ (alB fun w1 hp1 hb1 => alB fun w2 hp2 hb2 => ?_)
  have hp02 := hp1.trans hp2
  have b1 : ∀ {wz}, Pu w2 wz -> _ := fun {wz} (h : Pu w2 wz) => tbl_blk (t := a) (f := fa) (q := ra) (h.blk (hp2.blk hb1))
  have b2 : ∀ {wz}, Pu w2 wz -> _ := fun {wz} (h : Pu w2 wz) => tbl_blk (t := b) (f := fb) (q := rb) (h.blk hb2)
  refine ⟨_, (b1 (Pu.refl _)).1, _, (b1 (Pu.refl _)).2.1, _, (b1 (Pu.refl _)).2.2, (rValidTbl_c (ha.pu hp02)).mono ?_⟩
  rintro e w3 ⟨rfl, hp3⟩
  refine ⟨_, rfl, Br.of (fun d => ⟨⟨none, 0, 0⟩, by unfold difS; rw [if_pos (bntrue d)], by unfold difS; rw [if_pos (bntrue d)]; exact NewI.nil w w3, hp02.trans hp3⟩) (fun d => ?_)⟩
  have va := bnfalse d
  refine ⟨_, (b2 hp3).1, _, (b2 hp3).2.1, _, (b2 hp3).2.2, (rValidTbl_c (hb.pu (hp02.trans hp3))).mono ?_⟩
  rintro e w4 ⟨rfl, hp4⟩
  have p4 := hp3.trans hp4
  have eA : difS a b = if validT b ≠ 0 then ([], validT b) else if a.page ≠ b.page ∨ a.fields ≠ b.fields then ([], 10) else (difL a.recs b.recs (max a.recs.length b.recs.length), 0) := by unfold difS; rw [if_neg (by omega)]
  refine ⟨_, rfl, Br.of (fun d => ⟨⟨none, 0, 0⟩, by rw [eA, if_pos (bntrue d)], by rw [eA, if_pos (bntrue d)]; exact NewI.nil w w4, hp02.trans p4⟩) (fun d => ?_)⟩
  have vb := bnfalse d
  rw [if_neg (by omega)] at eA
  have c1 := (b1 p4).1
  have c2 := (b2 p4).1
  rw [add0] at c1 c2
  refine ⟨_, c1, _, c2, Br.of (fun d => ⟨⟨none, 0, 0⟩, by rw [eA, if_pos (.inl (bntrue d))], by rw [eA, if_pos (.inl (bntrue d))]; exact NewI.nil w w4, hp02.trans p4⟩) (fun d => ⟨_, (b1 p4).2.1, _, (b2 p4).2.1, ?_⟩)⟩
  have hpg := bnfalse d
  refine (sameFields_c (RdF.of (ha.fields.pu (hp02.trans p4))) (RdF.of (hb.fields.pu (hp02.trans p4)))).mono ?_
  rintro e w5 ⟨rfl, hp5⟩
  have p5 := p4.trans hp5
  refine ⟨_, rfl, Br.of (fun d => ⟨⟨none, 0, 0⟩, by rw [eA, if_pos (.inr (by simpa using d))], by rw [eA, if_pos (.inr (by simpa using d))]; exact NewI.nil w w5, hp02.trans p5⟩) (fun d => ?_)⟩
  rw [if_neg (by rintro (h | h); exact h hpg; exact h (by simpa using d))] at eA
  have hla := ha.recs.len
  have hlb := hb.recs.len
  have ma := (validT_ok va).2.2.1
  have mb := (validT_ok vb).2.2.1
  refine loopUp (max a.recs.length b.recs.length) (fun k t w' => t.2 = (k : Int) /\ NewI w2 w' t.1 (difL a.recs b.recs k) /\ Pu w2 w') ⟨rfl, NewI.nil w2 w5, p5⟩ ?_
  rintro k J ⟨t1, t2⟩ w6 hk ⟨ht, hr, hp⟩ hJ
  obtain rfl : t2 = (k : Int) := ht
  have hr : NewI w2 w6 t1 (difL a.recs b.recs k) := hr
  dsimp only
  have body : ∀ (hk2 : k < max a.recs.length b.recs.length), F40_2 (fun e w' => ∃ q : SV, e = .returned (.tuple #[.slice q.a q.len q.cap, .int .i64 (difS a b).2]) /\ NewI w w' q (difS a b).1 /\ Pu w w') J (some ⟨w.heap.size, 0, none⟩) (some ⟨w1.heap.size, 0, none⟩) t1 (k : Int) [] w6 := fun hk2 => by
    refine dwE_intro fun w7 hp7 _ => ?_
    have p7 := hp.trans hp7
    have hr7 := hr.pu hp7
    refine ⟨_, (b1 p7).2.2, Br.of (fun d2 => ?_) (fun d2 => ⟨_, (b2 p7).2.2, Br.of (fun d3 => ?_) (fun d3 => ⟨_, (b1 p7).2.2, ?_⟩)⟩)⟩
    · exact dif_push hr7 p7 (by omega) (fun s' w' h1 h2 => hJ _ _ hk2 ⟨by dsimp only; omega, h1, h2⟩) (difB_out hk2 (.inl (by have := dtrue d2; omega)))
    · exact dif_push hr7 p7 (by omega) (fun s' w' h1 h2 => hJ _ _ hk2 ⟨by dsimp only; omega, h1, h2⟩) (difB_out hk2 (.inr (by have := dtrue d3; omega)))
    have d2 := dfalse d2
    have d3 := dfalse d3
    obtain ⟨x, hx⟩ := at_k (show k < a.recs.length by omega)
    obtain ⟨y, hy⟩ := at_k (show k < b.recs.length by omega)
    obtain ⟨p, sx, hpa, _, vx, x0, x1⟩ := recAt (ha.recs.pu (hp02.trans p7)) hx
    obtain ⟨q, sy, hqa, _, vy, y0, y1⟩ := recAt (hb.recs.pu (hp02.trans p7)) hy
    have hd := difB_in hx hy
    refine ⟨p, hpa, by omega, by omega, _, x0, _, x1, _, (b2 p7).2.2, q, hqa, by omega, by omega, _, y0, _, y1, (sameRecord_c (RdV.of vx) (RdV.of vy)).mono ?_⟩
    rintro e w8 ⟨rfl, hp8⟩
    refine ⟨_, rfl, Br.of (fun d5 => ?_) (fun d5 => ?_)⟩
    · exact dif_push (hr7.pu hp8) (p7.trans hp8) (by omega) (fun s' w' h1 h2 => hJ _ _ hk2 ⟨by dsimp only; omega, h1, h2⟩) (by rw [hd]; exact d5)
    · show J (t1, IntKind.i64.wrap ((k : Int) + 1)) w8
      rw [wrap_in (by omega) (by omega)]
      refine hJ _ _ hk2 ⟨by dsimp only; omega, ?_, p7.trans hp8⟩
      dsimp only
      rw [difL_no (by rw [hd]; exact d5)]
      exact hr7.pu hp8
  refine ⟨_, (b1 hp).2.2, Br.of (fun d1 => body (by have := dtrue d1; omega)) (fun d1 => ⟨_, (b2 hp).2.2, Br.of (fun d2 => body (by have := dtrue d2; omega)) (fun d2 => ?_)⟩)⟩
  have hk2 : k = max a.recs.length b.recs.length := by have := dfalse d1; have := dfalse d2; omega
  subst hk2
  exact ⟨t1, by rw [eA], by rw [eA]; exact hr.low hp02.size, hp02.trans hp⟩
theorem tableDiffers_c (w : World) (a : Tbl) (fa ra : SV) (ha : RdTbl w a fa ra) (la : Lim.ok a) (b : Tbl) (fb rb : SV) (hb : RdTbl w b fb rb) (lb : Lim.ok b) : Calls Tryz.prog 7 #[tblA a fa ra, tblA b fb rb] w fun e w' => e = .returned (.bool true) /\ Pu w w' := by
  refine F7_calls _ _ _ _ _ _ w _ (alB fun w1 hp1 hb1 => alB fun w2 hp2 hb2 => ?_)
  have hp02 := hp1.trans hp2
  have b1 : ∀ {wz}, Pu w2 wz -> _ := fun {wz} (h : Pu w2 wz) => tbl_blk (t := a) (f := fa) (q := ra) (h.blk (hp2.blk hb1))
  have b2 : ∀ {wz}, Pu w2 wz -> _ := fun {wz} (h : Pu w2 wz) => tbl_blk (t := b) (f := fb) (q := rb) (h.blk hb2)
  refine ⟨_, (b1 (Pu.refl _)).1, _, (b1 (Pu.refl _)).2.1, _, (b1 (Pu.refl _)).2.2, (over_c (ha.pu hp02)).mono ?_⟩
  rintro e w3 ⟨x, rfl, hp3⟩
  refine ⟨x, rfl, Br.of (fun _ => (known_c w3).mono ?_) (fun _ => ⟨_, (b2 hp3).1, _, (b2 hp3).2.1, _, (b2 hp3).2.2, (over_c (hb.pu (hp02.trans hp3))).mono ?_⟩)⟩
  · rintro e w4 ⟨rfl, hp4⟩; exact ⟨_, rfl, rfl, (hp02.trans hp3).trans hp4⟩
  rintro e w4 ⟨y, rfl, hp4⟩
  have p4 := hp3.trans hp4
  refine ⟨y, rfl, Br.of (fun _ => (known_c w4).mono ?_) (fun _ => ⟨_, (b1 p4).1, _, (b1 p4).2.1, _, (b1 p4).2.2, _, (b2 p4).1, _, (b2 p4).2.1, _, (b2 p4).2.2, (differ_c (ha.pu (hp02.trans p4)) (hb.pu (hp02.trans p4)) la.1 lb.1).mono ?_⟩)⟩
  · rintro e w5 ⟨rfl, hp5⟩; exact ⟨_, rfl, rfl, (hp02.trans p4).trans hp5⟩
  rintro e w5 ⟨q, rfl, hq, hp5⟩
  have p5 := p4.trans hp5
  refine ⟨q, _, rfl, _, (b1 p5).1, _, (b1 p5).2.1, _, (b1 p5).2.2, _, (b2 p5).1, _, (b2 p5).2.1, _, (b2 p5).2.2, (rDiffer_c (ha.pu (hp02.trans p5)) (hb.pu (hp02.trans p5))).mono ?_⟩
  rintro e w6 ⟨q2, rfl, hq2, hp6⟩
  refine ⟨q2, _, rfl, (sameInts_c (hq.pu hp6) hq2).mono ?_⟩
  rintro e w7 ⟨rfl, hp7⟩
  refine ⟨_, rfl, Br.t rfl (Br.t (by simp) ((known_c w7).mono ?_))⟩
  rintro e w8 ⟨rfl, hp8⟩
  exact ⟨_, rfl, rfl, (hp02.trans p5).trans ((hp6.trans hp7).trans hp8)⟩
end Go.Proofs.YtecmfdfhpldmmaaGreatDoor

/- Table: how values are written in fields, by both packages. No condition. -/
set_option maxRecDepth 100000
set_option linter.unusedVariables false
set_option linter.unusedSimpArgs false
namespace Go.Proofs.YtecmfdfhpldmmaaGreatDoor
open Go.Sh Go.RowKit

theorem empty_bytes {s : ByteArray} (h : s.size = 0) : s = ⟨#[]⟩ := by
  obtain ⟨⟨l⟩⟩ := s
  cases l with
  | nil => rfl
  | cons a l => simp [ByteArray.size] at h
inductive RightV (f : Fld) (p : Int) (v : Val) : Prop
  | nil (hv : v = noV) (hn : f.null = true)
  | truth (hk : f.kind = 1) (hw : f.width = 1) (hv : v = ⟨1, v.n, ⟨#[]⟩⟩) (hn : v.n = 0 ∨ v.n = 1)
  | num (hk : f.kind = 2) (hw : 1 <= f.width /\ f.width <= 15) (hv : v = ⟨2, v.n, ⟨#[]⟩⟩) (hn : -1000000000000000 <= v.n /\ v.n <= 1000000000000000) (hl : ((decI v.n).length : Int) <= f.width)
  | date (hk : f.kind = 3) (hw : f.width = 8) (hv : v = ⟨3, v.n, ⟨#[]⟩⟩) (hn : 0 <= v.n /\ v.n <= 3652059)
  | text (hk : f.kind = 4) (hw : 1 <= f.width /\ f.width <= 254) (hv : v = ⟨4, 0, v.s⟩) (hl : (v.s.size : Int) <= f.width) (hb : bare v.s.data.toList = v.s.data.toList) (ht : textB v.s.data.toList p = true)
  | memo (hk : f.kind = 5) (hw : f.width = 8) (hv : v = ⟨2, v.n, ⟨#[]⟩⟩) (hn : 0 <= v.n /\ v.n <= 99999999)
theorem fld_kinds {f : Fld} (h : fieldB f = true) : (f.kind = 1 /\ f.width = 1) ∨ (f.kind = 2 /\ 1 <= f.width /\ f.width <= 15) ∨ (f.kind = 3 /\ f.width = 8) ∨ (f.kind = 4 /\ 1 <= f.width /\ f.width <= 254) ∨ (f.kind = 5 /\ f.width = 8) := by
  unfold fieldB kindW at h
  simp only [Bool.and_eq_true] at h
  have h := h.2
  split at h
  · rename_i hk; simp at h; exact .inl ⟨hk, h⟩
  · split at h
    · rename_i hk; simp at h; exact .inr (.inl ⟨hk, h⟩)
    · split at h
      · rename_i hk; simp at h; exact .inr (.inr (.inl ⟨hk, h⟩))
      · split at h
        · rename_i hk; simp at h; exact .inr (.inr (.inr (.inl ⟨hk, h⟩)))
        · split at h
          · rename_i hk; simp at h; exact .inr (.inr (.inr (.inr ⟨hk, h⟩)))
          · simp at h
theorem RightV.of {f : Fld} {p : Int} {v : Val} (hf : fieldB f = true) (h : fitsV f p v = true) : RightV f p v := by
  have hk := fld_kinds hf
  have hv : validV v = 0 := by
    by_cases hv : validV v = 0
    · exact hv
    · unfold fitsV at h; rw [if_pos hv] at h; cases h
  obtain ⟨_, hok, hs⟩ := valid_ok hv
  unfold fitsV at h
  rw [if_neg (by omega)] at h
  obtain ⟨k, n, s⟩ := v
  simp only at *
  by_cases h0 : k = 0
  · rw [if_pos h0] at h
    subst h0
    have hn : n = 0 := by unfold okN at hok; rw [if_pos rfl] at hok; simpa using hok
    have hs : s = ⟨#[]⟩ := empty_bytes (by rcases hs with h | h; omega; exact h)
    subst hn hs
    exact .nil rfl h
  rw [if_neg h0] at h
  by_cases h5 : f.kind = 5
  · rw [if_pos h5] at h
    have hw : f.width = 8 := by omega
    simp only [Bool.and_eq_true, decide_eq_true_eq, memoN] at h
    obtain ⟨rfl, h1, h2⟩ := h
    have hs : s = ⟨#[]⟩ := empty_bytes (by rcases hs with h | h; omega; exact h)
    subst hs
    exact .memo h5 hw rfl ⟨h1, h2⟩
  rw [if_neg h5] at h
  by_cases hkk : k ≠ f.kind
  · rw [if_pos hkk] at h; cases h
  rw [if_neg hkk] at h
  have hkk : k = f.kind := by omega
  rcases hk with ⟨e, hw⟩ | ⟨e, hw⟩ | ⟨e, hw⟩ | ⟨e, hw⟩ | ⟨e, hw⟩
  · rw [e] at hkk; subst hkk
    have hs : s = ⟨#[]⟩ := empty_bytes (by rcases hs with h | h; omega; exact h)
    subst hs
    unfold okN at hok
    rw [if_neg (by decide), if_pos rfl] at hok
    exact .truth e hw rfl (by simpa using hok)
  · rw [e] at hkk; subst hkk
    have hs : s = ⟨#[]⟩ := empty_bytes (by rcases hs with h | h; omega; exact h)
    subst hs
    unfold okN at hok
    rw [if_neg (by decide), if_neg (by decide), if_pos rfl] at hok
    rw [if_pos e] at h
    exact .num e hw rfl (by simpa using hok) (by simpa using h)
  · rw [e] at hkk; subst hkk
    have hs : s = ⟨#[]⟩ := empty_bytes (by rcases hs with h | h; omega; exact h)
    subst hs
    unfold okN at hok
    rw [if_neg (by decide), if_neg (by decide), if_neg (by decide), if_pos rfl] at hok
    exact .date e hw rfl (by simpa using hok)
  · rw [e] at hkk; subst hkk
    rw [if_neg (by omega), if_pos e] at h
    unfold okN at hok
    rw [if_neg (by decide), if_neg (by decide), if_neg (by decide), if_neg (by decide), if_pos rfl] at hok
    simp only [Bool.and_eq_true, decide_eq_true_eq] at h hok
    subst hok
    exact .text e hw rfl h.1.1 h.1.2 h.2
  · omega
noncomputable def shownS (f : Fld) (v : Val) : List UInt8 :=
  if v.kind = 0 then List.replicate f.width.toNat 32 else if f.kind = 1 then [if v.n = 1 then 84 else 70] else if f.kind = 3 then stampB v.n
  else if f.kind = 4 then textSh f v else if f.kind = 5 /\ v.n = 0 then List.replicate f.width.toNat 32 else List.replicate (f.width.toNat - (decI v.n).length) 32 ++ decI v.n
theorem cellS_shown (f : Fld) (v : Val) : cellS shownS f v = shownS f v := by
  unfold cellS
  by_cases h : v.kind = 0
  · rw [if_pos h]; unfold shownS; rw [if_pos h]
  · rw [if_neg h]
theorem stampB_len {n : Int} (h : 0 <= n /\ n <= 3652059) : (stampB n).length = 8 := by
  by_cases h0 : n = 0
  · rw [h0, stampB_zero]; rfl
  obtain ⟨k, rfl⟩ : ∃ k : Nat, n = (k : Int) := ⟨n.toNat, by omega⟩
  have hend := yfirst_end
  -- the year that holds the day
  have hy : ∃ y, 1 <= y /\ y <= 9999 /\ yfirst y < k /\ k <= yfirst (y + 1) := by
    have : ∀ j : Nat, j <= 9999 -> k <= yfirst (j + 1) -> ∃ y, 1 <= y /\ y <= 9999 /\ yfirst y < k /\ k <= yfirst (y + 1) := by
      intro j
      induction j with
      | zero => intro _ hk; exfalso; have : yfirst 1 = 0 := by decide
                simp only [Nat.zero_add] at hk; omega
      | succ j ih =>
        intro hj hk
        by_cases hlt : yfirst (j + 1) < k
        · exact ⟨j + 1, by omega, hj, hlt, hk⟩
        · exact ih (by omega) (by omega)
    exact this 9999 (by omega) (by show k <= yfirst 10000; omega)
  obtain ⟨y, y1, y9, ylt, yle⟩ := hy
  have hys := yfirst_succ y1
  have hm12 := mfirst_year y
  have hm : ∃ m, 1 <= m /\ m <= 12 /\ yfirst y + mfirst y (m - 1) < k /\ k <= yfirst y + mfirst y m := by
    have : ∀ j : Nat, j <= 12 -> k <= yfirst y + mfirst y j -> ∃ m, 1 <= m /\ m <= 12 /\ yfirst y + mfirst y (m - 1) < k /\ k <= yfirst y + mfirst y m := by
      intro j
      induction j with
      | zero => intro _ hk; exfalso; simp only [mfirst] at hk; omega
      | succ j ih =>
        intro hj hk
        by_cases hlt : yfirst y + mfirst y j < k
        · exact ⟨j + 1, by omega, hj, by rw [Nat.add_sub_cancel]; exact hlt, hk⟩
        · exact ih (by omega) (by omega)
    exact this 12 (by omega) (by rw [hm12]; omega)
  obtain ⟨m, m1, m12, mlt, mle⟩ := hm
  obtain ⟨j, rfl⟩ : ∃ j, m = j + 1 := ⟨m - 1, by omega⟩
  rw [Nat.add_sub_cancel] at mlt
  have hmf : mfirst y (j + 1) = mfirst y j + mdays y (j + 1) := rfl
  have hD : IsDate y (j + 1) (k - yfirst y - mfirst y j) := ⟨y1, y9, m1, m12, by omega, by omega⟩
  have e : (k : Int) = (dayOf y (j + 1) (k - yfirst y - mfirst y j) : Nat) := by unfold dayOf; rw [Nat.add_sub_cancel]; omega
  rw [e, stampB_date hD]
  exact stamp_len8 hD
theorem RightV.len {f : Fld} {p : Int} {v : Val} (h : RightV f p v) : (shownS f v).length = f.width.toNat := by
  unfold shownS
  cases h with
  | nil hv hn => rw [hv]; simp [noV]
  | truth hk hw hv hn => rw [hv, if_neg (by simp), if_pos hk, hw]; rfl
  | num hk hw hv hn hl => rw [hv] at *; dsimp only at *; rw [if_neg (by decide), if_neg (by omega), if_neg (by omega), if_neg (by omega), if_neg (by omega), List.length_append, List.length_replicate]; omega
  | date hk hw hv hn => rw [hv, if_neg (by simp), if_neg (by omega), if_pos hk, hw]; exact stampB_len hn
  | text hk hw hv hl hb ht => rw [hv, if_neg (by simp), if_neg (by omega), if_neg (by omega), if_pos hk]; unfold textSh; rw [List.length_append, size_list, List.length_replicate]; dsimp only; omega
  | memo hk hw hv hn =>
    rw [hv] at *; dsimp only at *
    rw [if_neg (by decide), if_neg (by omega), if_neg (by omega), if_neg (by omega)]
    by_cases h0 : v.n = 0
    · rw [if_pos ⟨hk, h0⟩, List.length_replicate]
    · rw [if_neg (by simp [h0]), List.length_append, List.length_replicate]
      obtain ⟨k, hk2⟩ : ∃ k : Nat, v.n = (k : Int) := ⟨v.n.toNat, by omega⟩
      rw [hk2, decI_nat]
      have := decN_short 7 k (by omega)
      omega
theorem writeNum_c (f : Fld) (v : Val) (hw : 1 <= f.width /\ f.width <= 254) (hn : -1000000000000000 <= v.n /\ v.n <= 1000000000000000) (w : World) : Calls Tryz.prog 127 #[fldA f, valA v] w fun e w' => e = .returned (.string (bs (strL v.n f.width))) /\ Pu w w' := by
  refine F127_calls _ _ _ _ _ _ _ w _ (alB fun w1 hp1 hb1 => alB fun w2 hp2 hb2 => ⟨_, cl hb2 1, _, cl (hp2.blk hb1) 2, (str_c hn hw w2).mono ?_⟩)
  rintro e w3 ⟨rfl, hp3⟩
  exact ⟨_, _, rfl, rfl, (hp1.trans hp2).trans hp3⟩
theorem strL_fit {n w : Int} (h : ((decI n).length : Int) <= w) : strL n w = List.replicate (w.toNat - (decI n).length) 32 ++ decI n := by unfold strL; rw [if_neg (by omega)]
theorem write_c {f : Fld} {p : Int} {v : Val} (h : RightV f p v) (h0 : v.kind ≠ 0) : ∃ K, kindOf5 f.kind = some K /\ hasBody Tryz.prog K.wr = true /\ ∀ w, Calls Tryz.prog K.wr #[fldA f, valA v] w fun e w' => e = .returned (.string (bs (shownS f v))) /\ Pu w w' := by
  cases h with
  | nil hv hn => rw [hv] at h0; exact absurd rfl h0
  | truth hk hw hv hn =>
    refine ⟨_, by rw [hk]; rfl, by kernel_rfl, fun w => ?_⟩
    refine F125_calls _ _ _ _ _ _ _ w _ (alB fun w1 hp1 hb1 => alB fun w2 hp2 hb2 => ⟨_, cl hb2 1, _, cl hb2 1, ?_⟩)
    have e : shownS f v = [if v.n = 1 then 84 else 70] := by unfold shownS; rw [if_neg h0, if_pos hk]
    rw [e]
    rcases hn with hn | hn
    · rw [hn]
      rw [wrap_in (by decide) (by decide)]
      exact ⟨by decide, by decide, by decide, by decide, rfl, hp1.trans hp2⟩
    · rw [hn]
      rw [wrap_in (by decide) (by decide)]
      exact ⟨by decide, by decide, by decide, by decide, rfl, hp1.trans hp2⟩
  | num hk hw hv hn hl =>
    refine ⟨_, by rw [hk]; rfl, by kernel_rfl, fun w => ?_⟩
    have e : shownS f v = strL v.n f.width := by rw [strL_fit hl]; unfold shownS; rw [if_neg h0, if_neg (by omega), if_neg (by omega), if_neg (by omega), if_neg (by omega)]
    rw [e]
    exact writeNum_c f v ⟨hw.1, by omega⟩ hn w
  | date hk hw hv hn =>
    refine ⟨_, by rw [hk]; rfl, by kernel_rfl, fun w => ?_⟩
    have e : shownS f v = stampB v.n := by unfold shownS; rw [if_neg h0, if_neg (by omega), if_pos hk]
    rw [e]
    refine F129_calls _ _ _ _ _ _ _ w _ (alB fun w1 hp1 hb1 => alB fun w2 hp2 hb2 => ⟨_, cl hb2 1, (stamp_c v.n hn w2).mono ?_⟩)
    rintro e w3 ⟨rfl, _, hp3⟩
    exact ⟨_, _, rfl, rfl, (hp1.trans hp2).trans hp3⟩
  | text hk hw hv hl hb ht =>
    refine ⟨_, by rw [hk]; rfl, by kernel_rfl, fun w => ?_⟩
    have e : shownS f v = textSh f v := by unfold shownS; rw [if_neg h0, if_neg (by omega), if_neg (by omega), if_pos hk]
    rw [e]
    exact writeText_c f v ⟨hl, by omega⟩ w
  | memo hk hw hv hn =>
    refine ⟨_, by rw [hk]; rfl, by kernel_rfl, fun w => ?_⟩
    refine F133_calls _ _ _ _ _ _ _ w _ (alB fun w1 hp1 hb1 => alB fun w2 hp2 hb2 => ⟨_, cl hb2 1, Br.of (fun d => ⟨_, cl (hp2.blk hb1) 2, ?_⟩) (fun d => ?_)⟩)
    · rw [show (Value.int .i64 f.width) = .int .i64 ((8 : Nat) : Int) by rw [hw]; rfl]
      refine (repeat_c 32 8 (by omega) w2).mono ?_
      rintro e w3 ⟨rfl, hp3⟩
      refine ⟨_, rfl, ?_, (hp1.trans hp2).trans hp3⟩
      have e : shownS f v = List.replicate 8 32 := by unfold shownS; rw [if_neg h0, if_neg (by omega), if_neg (by omega), if_neg (by omega), if_pos ⟨hk, btrue d⟩, hw]; rfl
      rw [e]
    · have d := bfalse d
      have q1 := hp2.blk hb1
      refine ⟨_, cl q1 0, _, cl q1 1, _, cl q1 2, _, cl q1 3, _, cl hb2 0, _, cl hb2 1, _, cl hb2 2, (writeNum_c f v (by omega) (by omega) w2).mono ?_⟩
      rintro e w3 ⟨rfl, hp3⟩
      refine ⟨_, rfl, ?_, (hp1.trans hp2).trans hp3⟩
      have hl : ((decI v.n).length : Int) <= f.width := by
        obtain ⟨k, hk2⟩ : ∃ k : Nat, v.n = (k : Int) := ⟨v.n.toNat, by omega⟩
        rw [hk2, decI_nat]
        have := decN_short 7 k (by omega)
        omega
      have e : shownS f v = strL v.n f.width := by rw [strL_fit hl]; unfold shownS; rw [if_neg h0, if_neg (by omega), if_neg (by omega), if_neg (by omega), if_neg (by simp [d])]
      rw [e]
def RightR (l : List Fld) (p : Int) (vs : List Val) : Prop := vs.length = l.length /\ ∀ (i : Nat) (f : Fld) (v : Val), l[i]? = some f -> vs[i]? = some v -> RightV f p v
theorem RightR.of {l : List Fld} {p : Int} {r : Rec} (hl : l.all fieldB = true) (h : validR l p r = 0) : RightR l p r.v := by
  obtain ⟨h1, h2⟩ := validR_ok h
  refine ⟨h1, fun i f v hf hv => RightV.of (List.all_eq_true.1 hl f (List.mem_of_getElem? hf)) ?_⟩
  exact List.all_eq_true.1 h2 (f, v) (List.mem_of_getElem? (zip_at hf hv))
theorem RightR.writes {l : List Fld} {p : Int} {vs : List Val} (hl : l.all fieldB = true) (h : RightR l p vs) : Writes shownS l vs := fun i f v hf hv h0 => by
  have hr := h.2 i f v hf hv
  refine ⟨?_, write_c hr h0⟩
  rw [hr.len]
  have := field_width (List.all_eq_true.1 hl f (List.mem_of_getElem? hf))
  omega
theorem cellsS_shown_len {l : List Fld} {p : Int} {vs : List Val} (hl : l.all fieldB = true) (h : RightR l p vs) : ∀ k, k <= l.length -> ((cellsS shownS (l.take k) (vs.take k)).length : Int) = ((l.take k).map (·.width)).sum
  | 0, _ => by simp [cellsS]
  | k + 1, h1 => by
    obtain ⟨f, hf⟩ := at_k (show k < l.length by omega)
    obtain ⟨v, hv⟩ := at_k (show k < vs.length by have := h.1; omega)
    rw [cellsS_take hf hv, List.length_append, sum_take hf, cellS_shown, (h.2 k f v hf hv).len]
    have := cellsS_shown_len hl h k (by omega)
    have := field_width (List.all_eq_true.1 hl f (List.mem_of_getElem? hf))
    omega
theorem rowS_len {l : List Fld} {p : Int} {r : Rec} (hl : l.all fieldB = true) (h : RightR l p r.v) : ((rowS shownS l r).length : Int) = wide l := by
  have h1 := cellsS_shown_len hl h l.length (Nat.le_refl _)
  rw [List.take_length, List.take_of_length_le (by have := h.1; omega)] at h1
  unfold rowS wide
  rw [List.length_append, List.length_append, flN_len, List.length_singleton]
  omega
theorem RightR.ne {l : List Fld} {p : Int} {vs : List Val} (hl : l.all fieldB = true) (h : RightR l p vs) (h0 : l ≠ []) : cellsS shownS l vs ≠ [] := fun e => by
  have h1 := cellsS_shown_len hl h l.length (Nat.le_refl _)
  rw [List.take_length, List.take_of_length_le (by have := h.1; omega), e] at h1
  obtain ⟨f, l', rfl⟩ := List.exists_cons_of_ne_nil h0
  simp only [List.map_cons, List.sum_cons, List.length_nil] at h1
  have hf := field_width (List.all_eq_true.1 hl f (by simp))
  have := sum_le (l := l') (WOk.of (List.all_eq_true.2 fun g hg => List.all_eq_true.1 hl g (by simp [hg])))
  omega
theorem times_c (b : UInt8) (n : Nat) (hn : n <= 1000000) (w : World) : Calls Tryz.prog 148 #[.string ⟨#[b]⟩, .int .i64 (n : Int)] w fun e w' => e = .returned (.string (bs (List.replicate n b))) /\ Pu w w' := by
  refine F148_calls _ _ w _ (loopUp n (fun j t w' => t.2 = (j : Int) /\ t.1 = bs (List.replicate j b) /\ Pu w w') ⟨rfl, rfl, Pu.refl w⟩ ?_)
  rintro j J ⟨t1, t2⟩ w2 hj ⟨h2, h1, hp⟩ hJ
  obtain rfl : t2 = (j : Int) := h2
  obtain rfl : t1 = bs (List.replicate j b) := h1
  dsimp only
  refine Br.of (fun d => ⟨?_, ?_⟩) (fun d => ?_)
  · rw [bs_size, List.length_replicate]; show ((j + 1 : Nat) : Int) <= _; omega
  · have := dtrue d
    rw [wrap_in (by omega) (by omega)]
    refine hJ _ _ (by omega) ⟨by dsimp only; omega, ?_, hp⟩
    dsimp only
    rw [str_append, bs_list, List.replicate_succ']
  · have := dfalse d
    have : j = n := by omega
    subst this
    exact ⟨rfl, hp⟩
theorem shown_tail {w w0 : World} (hp : Pu w0 w) {s : List UInt8} {f : Fld} (hl : (s.length : Int) <= f.width /\ f.width <= 1000) {out : List UInt8} (ho : out = s ++ List.replicate (f.width.toNat - s.length) 32) :
    Calls Tryz.prog 148 #[.string (⟨#[32]⟩ : ByteArray), .int .i64 (IntKind.i64.wrap (f.width - (((bs s).size : Nat) : Int)))] w fun e w3 => ∃ s59 : ByteArray, e = .returned (.string s59) /\ (((bs s).size + s59.size : Nat) : Int) <= 9223372036854775807 /\
      (Ending.returned (.string (bs s ++ s59)) = .returned (.string (bs out)) /\ Pu w0 w3) := by
  rw [bs_size, wrap_in (by omega) (by omega), show f.width - (s.length : Int) = ((f.width.toNat - s.length : Nat) : Int) by omega]
  refine (times_c 32 _ (by omega) w).mono ?_
  rintro e w3 ⟨rfl, hp3⟩
  refine ⟨_, rfl, by rw [bs_size, List.length_replicate]; omega, ?_, hp.trans hp3⟩
  rw [str_append, bs_list, bs_list, ho]
theorem shown_num {w w0 : World} (hp : Pu w0 w) {n : Int} (hn : In64 n) {r2 : Nat} {f : Fld} (hb : w.heap[r2]? = some (.cells #[.string f.name, .int .i64 f.kind, .int .i64 f.width, .bool f.null] 23)) (hl : ((decI n).length : Int) <= f.width /\ f.width <= 1000) {out : List UInt8} (ho : out = List.replicate (f.width.toNat - (decI n).length) 32 ++ decI n) :
    Calls Tryz.prog 119 #[.int .i64 n] w fun e w16 => ∃ s8 : ByteArray, e = .returned (.string s8) /\ ∃ n10 : Int, w16.cell? ((⟨r2, 0, none⟩ : Addr).add 2) = some (.int .i64 n10) /\
      Calls Tryz.prog 148 #[.string (⟨#[32]⟩ : ByteArray), .int .i64 (IntKind.i64.wrap (n10 - ((s8.size : Nat) : Int)))] w16 fun e w17 => ∃ s14 : ByteArray, e = .returned (.string s14) /\ ((s14.size + s8.size : Nat) : Int) <= 9223372036854775807 /\
      (Ending.returned (.string (s14 ++ s8)) = .returned (.string (bs out)) /\ Pu w0 w17) := by
  refine (written_c hn w).mono ?_
  rintro e w1 ⟨rfl, hp1⟩
  refine ⟨_, rfl, _, cl (hp1.blk hb) 2, ?_⟩
  rw [bs_size, wrap_in (by omega) (by omega), show f.width - ((decI n).length : Int) = ((f.width.toNat - (decI n).length : Nat) : Int) by omega]
  refine (times_c 32 _ (by omega) w1).mono ?_
  rintro e w3 ⟨rfl, hp3⟩
  refine ⟨_, rfl, by rw [bs_size, List.length_replicate]; omega, ?_, (hp.trans hp1).trans hp3⟩
  rw [str_append, bs_list, bs_list, ho]
theorem rShown_c {f : Fld} {p : Int} {v : Val} (hf : fieldB f = true) (h : RightV f p v) (w : World) : Calls Tryz.prog 108 #[fldA f, valA v] w fun e w' => e = .returned (.string (bs (shownS f v))) /\ Pu w w' := by
  refine F108_calls _ _ _ _ _ _ _ w _ (alB fun w1 hp1 hb1 => alB fun w2 hp2 hb2 => ⟨_, cl0 hb2, ?_⟩)
  have hp := hp1.trans hp2
  have q1 := hp2.blk hb1
  have hwf := field_width hf
  refine Br.of (fun d => ⟨_, cl q1 2, ?_⟩) (fun d => ⟨_, cl q1 1, ?_⟩)
  · exact shown_tail hp (s := []) (by simp; omega) (by unfold shownS; rw [if_pos (btrue d)]; simp)
  have h0 := bfalse d
  refine Br.of (fun d1 => ⟨_, cl hb2 1, ?_⟩) (fun d1 => ⟨_, cl q1 1, ?_⟩)
  · have k1 := btrue d1
    have hw1 : f.width = 1 := by have := fld_kinds hf; omega
    have e : shownS f v = [if v.n = 1 then 84 else 70] := by unfold shownS; rw [if_neg h0, if_pos k1]
    refine Br.of (fun d2 => ⟨_, cl q1 2, ?_⟩) (fun d2 => ⟨_, cl q1 2, ?_⟩)
    · exact shown_tail hp (s := [84]) (by simp; omega) (by rw [e, if_pos (btrue d2), hw1]; rfl)
    · exact shown_tail hp (s := [70]) (by simp; omega) (by rw [e, if_neg (bfalse d2), hw1]; rfl)
  have k1 := bfalse d1
  refine Br.of (fun d2 => ⟨_, cl hb2 1, ?_⟩) (fun d2 => ⟨_, cl q1 1, ?_⟩)
  · have k3 := btrue d2
    have hw8 : f.width = 8 := by have := fld_kinds hf; omega
    have hn : 0 <= v.n /\ v.n <= 3652059 := by
      cases h with
      | nil hv hn => rw [hv] at h0; exact absurd rfl h0
      | date hk hw hv hn => exact hn
      | _ => omega
    refine (rStamp_c v.n hn w2).mono ?_
    rintro e w3 ⟨rfl, hlen, hp3⟩
    refine ⟨_, _, rfl, _, cl (hp3.blk q1) 2, shown_tail (hp.trans hp3) (s := stampB v.n) (by rw [hlen]; omega) ?_⟩
    rw [hlen, hw8]; unfold shownS; rw [if_neg h0, if_neg k1, if_pos k3]; simp
  have k3 := bfalse d2
  refine Br.of (fun d3 => ⟨_, cl hb2 2, _, cl q1 2, ?_⟩) (fun d3 => ⟨_, cl q1 1, ?_⟩)
  · have k4 := btrue d3
    have hl : (v.s.size : Int) <= f.width := by
      cases h with
      | nil hv hn => rw [hv] at h0; exact absurd rfl h0
      | text hk hw hv hl hb ht => exact hl
      | _ => omega
    have := shown_tail hp (s := v.s.data.toList) (f := f) (by rw [size_list]; omega) (out := shownS f v) (by unfold shownS; rw [if_neg h0, if_neg k1, if_neg k3, if_pos k4, size_list]; rfl)
    rw [list_bs] at this
    exact this
  have k4 := bfalse d3
  refine Br.of (fun d4 => ⟨_, cl hb2 1, Br.of (fun d5 => ⟨_, cl q1 2, ?_⟩) (fun d5 => ⟨_, cl hb2 1, ?_⟩)⟩) (fun d4 => ⟨_, cl hb2 1, ?_⟩)
  · exact shown_tail hp (s := []) (by simp; omega) (by unfold shownS; rw [if_neg h0, if_neg k1, if_neg k3, if_neg k4, if_pos ⟨btrue d4, btrue d5⟩]; simp)
  · have k5 := btrue d4
    have n0 := bfalse d5
    have hn : 0 <= v.n /\ v.n <= 99999999 := by
      cases h with
      | nil hv hn => rw [hv] at h0; exact absurd rfl h0
      | memo hk hw hv hn => exact hn
      | _ => omega
    have hl : ((decI v.n).length : Int) <= f.width := by
      obtain ⟨k, hk2⟩ : ∃ k : Nat, v.n = (k : Int) := ⟨v.n.toNat, by omega⟩
      rw [hk2, decI_nat]
      have := decN_short 7 k (by omega)
      have := fld_kinds hf
      omega
    exact shown_num hp ⟨by omega, by omega⟩ q1 ⟨hl, by omega⟩ (by unfold shownS; rw [if_neg h0, if_neg k1, if_neg k3, if_neg k4, if_neg (by simp [n0])])
  · have k5 := bfalse d4
    have hx : (-1000000000000000 <= v.n /\ v.n <= 1000000000000000) /\ ((decI v.n).length : Int) <= f.width := by
      cases h with
      | nil hv hn => rw [hv] at h0; exact absurd rfl h0
      | num hk hw hv hn hl => exact ⟨hn, hl⟩
      | _ => omega
    exact shown_num hp ⟨by omega, by omega⟩ q1 ⟨hx.2, by omega⟩ (by unfold shownS; rw [if_neg h0, if_neg k1, if_neg k3, if_neg k4, if_neg (by simp [k5])])
end Go.Proofs.YtecmfdfhpldmmaaGreatDoor

/- Table: rows that a conversion of a text has made. No condition. -/
set_option maxRecDepth 100000
set_option linter.unusedVariables false
set_option linter.unusedSimpArgs false
namespace Go.Proofs.YtecmfdfhpldmmaaGreatDoor
open Go.Sh Go.RowKit

def MRow (w0 w : World) (s : SV) (l : List UInt8) : Prop := ∃ (g : Nat) (cur : Array Value) (fz : Nat × Nat), s.a = some ⟨g, 0, none⟩ /\ w.heap[g]? = some (.cells cur 5 fz) /\ cur.size <= fz.1 /\ s.len = l.length /\ s.len <= s.cap /\ s.cap <= maxLen /\ cur.size = s.cap /\ cur.toList.take s.len = l.map u8V /\ w0.heap.size <= g
def ByRow (w0 w : World) (s : SV) (l : List UInt8) : Prop := MRow w0 w s l ∨ NewRow w0 w s l
theorem ByRow.pu {w0 w w' : World} {s : SV} {l : List UInt8} (h : ByRow w0 w s l) (hp : Pu w w') : ByRow w0 w' s l := by
  rcases h with ⟨g, cur, fz, h1, h2, h3⟩ | h
  · exact .inl ⟨g, cur, fz, h1, hp.blk h2, h3⟩
  · exact .inr (h.pu hp)
theorem ByRow.len {w0 w : World} {s : SV} {l : List UInt8} (h : ByRow w0 w s l) : s.len = l.length := by
  rcases h with ⟨g, cur, fz, h1, h2, h3, h4, _⟩ | h
  · exact h4
  · exact h.len
theorem MRow.cell {w0 w : World} {s : SV} {l : List UInt8} (h : MRow w0 w s l) {j : Nat} {b : UInt8} (hj : l[j]? = some b) : ∃ a, s.a = some a /\ w.cell? (a.add j) = some (u8V b) := by
  obtain ⟨g, cur, fz, h1, h2, h3, h4, h5, h6, h7, h8, _⟩ := h
  refine ⟨_, h1, ?_⟩
  rw [add_def, cell_blk h2, Nat.zero_add]
  have e : (cur.toList.take s.len)[j]? = some (u8V b) := by rw [h8, List.getElem?_map, hj]; rfl
  rw [List.getElem?_take] at e
  split at e
  · simpa using e
  · cases e
theorem ByRow.cell {w0 w : World} {s : SV} {l : List UInt8} (h : ByRow w0 w s l) {j : Nat} {b : UInt8} (hj : l[j]? = some b) : ∃ a, s.a = some a /\ w.cell? (a.add j) = some (u8V b) := by
  rcases h with h | h
  · exact h.cell hj
  · exact h.cell hj
theorem ByRow.low {w0 w1 w : World} {s : SV} {l : List UInt8} (h : ByRow w1 w s l) (hz : w0.heap.size <= w1.heap.size) : ByRow w0 w s l := by
  rcases h with ⟨g, cur, fz, h1, h2, h3, h4, h5, h6, h7, h8, h9⟩ | h
  · exact .inl ⟨g, cur, fz, h1, h2, h3, h4, h5, h6, h7, h8, Nat.le_trans hz h9⟩
  · exact .inr (h.low hz)
theorem MRow.push {w0 w : World} {s : SV} {l : List UInt8} (h : MRow w0 w s l) (hz : w0.heap.size <= w.heap.size) {r : Nat} {b : UInt8} {c : Array Value} (hr : w.heap[r]? = some (.cells c 5)) (hc : c[0]? = some (u8V b)) (hb : l.length <= 1000000) :
    ∃ (s' : SV) (w' : World), (Builtin.append_ #[37, 37] 37 #[.slice s.a s.len s.cap, .slice (some ⟨r, 0, none⟩) 1 1]).run Tryz.prog w = .ok (.slice s'.a s'.len s'.cap) w' /\ ByRow w0 w' s' (l ++ [b]) /\ Fr (· ∈ blkOf s) w w' := by
  have hcell := fun (j : Nat) (x : UInt8) (hj : l[j]? = some x) => h.cell hj
  obtain ⟨g, cur, fz, h1, h2, h3, h4, h5, h6, h7, h8, h9⟩ := h
  have hi := info5
  obtain ⟨i, i1, i2, i3, i4⟩ := info_parts hi
  have hnews : ∀ j u, [u8V b][j]? = some u -> w.cell? ((⟨r, 0, none⟩ : Addr).add j) = some u := fun j u hu => by
    cases j with
    | zero => simp at hu; subst hu; rw [add0, cell_blk hr]; exact hc
    | succ j => simp at hu
  have hgl : g < w.heap.size := blk_lt h2
  by_cases hroom : s.len + 1 <= s.cap
  · have hin : s.len < cur.size := by omega
    have hfro : w.frozen? ⟨g, s.len, none⟩ = false := by
      obtain ⟨lo, hi'⟩ := fz
      simp only [World.frozen?, h2, Bool.and_eq_false_iff, decide_eq_false_iff_not]
      left; simp only at h3; omega
    have hcl : w.cell? ⟨g, s.len, none⟩ = some cur[s.len] := by rw [cell_blk h2]; simp [hin]
    have hst : (storeCells ⟨g, s.len, none⟩ [u8V b] 0).run Tryz.prog w = .ok () (w.setCell ⟨g, s.len, none⟩ (u8V b)) := by
      simp only [storeCells, Sem.run_bind, add_def, Nat.add_zero]
      rw [run_store Tryz.prog w _ _ _ rfl, hcl]
      simp [hfro]
    have hf := run_firstCells_some (P := Tryz.prog) w i.size 1 ⟨r, 0, none⟩ 1 1 [u8V b] (by rw [i3]; rfl) hnews
    have hrun : (Builtin.append_ #[37, 37] 37 #[.slice s.a s.len s.cap, .slice (some ⟨r, 0, none⟩) 1 1]).run Tryz.prog w = .ok (.slice s.a (s.len + 1) s.cap) (w.setCell ⟨g, s.len, none⟩ (u8V b)) := by
      rw [h1]
      rw [i3] at hf
      simp [Builtin.append_, run_underlying u37, sizeOf, typeInfo, i1, i3, Builtin.lenOf, hroom, hf, Addr.add_lit, hst]
    refine ⟨⟨s.a, s.len + 1, s.cap⟩, _, hrun, .inl ⟨g, cur.setIfInBounds s.len (u8V b), fz, h1, setCell_blk h2 _ _, by rw [Array.size_setIfInBounds]; exact h3, by simp [h4], hroom, h6, by rw [Array.size_setIfInBounds]; exact h7, ?_, h9⟩, ?_⟩
    · rw [Array.toList_setIfInBounds, List.map_append, ← h8]
      apply List.ext_getElem?
      intro j
      show (List.take (s.len + 1) _)[j]? = _
      rw [List.getElem?_take]
      rcases Nat.lt_trichotomy j s.len with hj | hj | hj
      · rw [if_pos (by omega), List.getElem?_set_ne (by omega), List.getElem?_append_left (by rw [List.length_take, Array.length_toList]; omega), List.getElem?_take, if_pos hj]
      · subst hj
        rw [if_pos (by omega), List.getElem?_set_self (by rw [Array.length_toList]; exact hin), List.getElem?_append_right (by rw [List.length_take]; omega), List.length_take, Array.length_toList, show s.len - min s.len cur.size = 0 by omega]; rfl
      · rw [if_neg (by omega), List.getElem?_eq_none]
        rw [List.length_append, List.length_take, List.length_map, List.length_singleton]; omega
    · have := Fr.setCell w ⟨g, s.len, none⟩ (u8V b)
      exact ⟨this.os, this.tape, this.output, this.size, fun k hk hn => this.block k hk (fun e => hn (by simp [blkOf, h1, e]))⟩
  · have hlen : (l.map u8V).length = s.len * i.size := by rw [i3, List.length_map]; omega
    have holds : ∀ j u, (l.map u8V)[j]? = some u -> w.cell? ((⟨g, 0, none⟩ : Addr).add j) = some u := fun j u hu => by
      obtain ⟨x, hx, rfl⟩ : ∃ x, l[j]? = some x /\ u8V x = u := by simpa using hu
      obtain ⟨a, ha, hca⟩ := hcell j x hx
      rw [h1] at ha; cases ha; exact hca
    have hrun := run_append_grow (P := Tryz.prog) w 37 37 5 i (.int .u8 0) u37 i1 i2 ⟨g, 0, none⟩ s.len s.cap (l.map u8V) hlen holds ⟨r, 0, none⟩ 1 1 [u8V b] (by rw [i3]; rfl) hnews (by omega) (by omega) (growslice_fits (by omega) (by rw [i4]; omega))
    have hge := grownCap_ge w (s.len + 1) s.cap 5
    have hcm : grownCap w (s.len + 1) s.cap 5 <= maxLen := grownCap_le_maxLen w (s.len + 1) s.cap 5 (by unfold maxLen; omega)
    refine ⟨⟨some ⟨w.heap.size, 0, none⟩, s.len + 1, grownCap w (s.len + 1) s.cap 5⟩, _, by rw [h1]; exact hrun, .inr ⟨⟨by simp [h4], .inr ⟨w.heap.size, _, rfl, heap_alloc_new w.drew _, hge, hcm, ?_, ?_⟩⟩, fun k hk => by simp [blkOf] at hk; omega⟩, ?_⟩
    · simp only [Array.size_append, List.size_toArray, List.length_map, List.length_singleton, size_zeroCells]
      show l.length + 1 + (grownCap w (s.len + 1) s.cap 5 - (s.len + 1)) * 1 = _
      show l.length + 1 + (grownCap w (s.len + 1) s.cap 5 - (s.len + 1)) * 1 = grownCap w (s.len + 1) s.cap 5 * 1
      omega
    · simp only [Array.toList_append, List.append_assoc]
      rw [← List.append_assoc, List.map_append]
      have e : (List.map u8V l ++ [u8V b]).length = (s.len + 1) * 1 := by simp [h4]
      show List.take ((s.len + 1) * 1) _ = _
      rw [← e]
      exact List.take_left
    · exact (Fr.drew w).trans (Fr.alloc w.drew _) fun i hi _ => hi
theorem ByRow.push {w0 w : World} {s : SV} {l : List UInt8} (h : ByRow w0 w s l) (hp : Pu w0 w) {r : Nat} {b : UInt8} {c : Array Value} (hr : w.heap[r]? = some (.cells c 5)) (hc : c[0]? = some (u8V b)) (hb : l.length <= 1000000) :
    ∃ (s' : SV) (w' : World), (Builtin.append_ #[37, 37] 37 #[.slice s.a s.len s.cap, .slice (some ⟨r, 0, none⟩) 1 1]).run Tryz.prog w = .ok (.slice s'.a s'.len s'.cap) w' /\ ByRow w0 w' s' (l ++ [b]) /\ Pu w0 w' := by
  rcases h with h | h
  · obtain ⟨g, cur, fz, h1, _, _, _, _, _, _, _, h9⟩ := id h
    obtain ⟨s', w', e, h2, f⟩ := h.push hp.size hr hc hb
    exact ⟨s', w', e, h2, hp.andNew f fun i hi => by simp [blkOf, h1] at hi; omega⟩
  · obtain ⟨s', w', e, h2, f⟩ := h.one hp.size hr hc (by omega)
    exact ⟨s', w', e, .inr h2, hp.andNew f fun i hi => h.2 i hi⟩
theorem conv_mark (s : ByteArray) (hs : s.size <= 140737488355328) (w : World) : ∃ l : SV, ∃ w' : World, (convert 9 37 (.string s)).run Tryz.prog w = .ok (.slice l.a l.len l.cap) w' /\ Pu w w' /\ ByRow w w' l s.data.toList := by
  obtain ⟨c, hc, hcm, hcr⟩ : ∃ c, s.size <= c /\ c <= maxLen /\ (choose (.appendCap s.size 0 5)).run Tryz.prog w = .ok c w.drew := by
    refine ⟨(Question.appendCap s.size 0 5).cut (w.tape w.drawn (.appendCap s.size 0 5)), by simp [Question.cut], ?_, ?_⟩
    · simp only [Question.cut]
      have hm := Nat.mod_lt (w.tape w.drawn (.appendCap s.size 0 5)) (show 0 < 2 ^ 63 - s.size by omega)
      unfold maxLen; omega
    · rw [run_choose]; simp [Question.forced]
  obtain ⟨arr, harr⟩ : ∃ arr : Array Value, arr = (s.data.map fun b => Value.int .u8 b.toNat) ++ Array.replicate (c - s.size) (.int .u8 0) := ⟨_, rfl⟩
  have hsz : arr.size = c := by rw [harr]; simp; show s.size + _ = _; omega
  have hst : s.data.toList.length = s.size := size_list s
  refine ⟨⟨some ⟨w.heap.size, 0, none⟩, s.size, c⟩, (w.drew.alloc (.cells arr 5)).freeze ⟨w.heap.size, c, none⟩ 1, ?_, ?_, .inl ⟨w.heap.size, arr, (c, c + 1), rfl, ?_, by rw [hsz]; exact Nat.le_refl _, hst.symm, hc, hcm, hsz, ?_, Nat.le_refl _⟩⟩
  · unfold convert
    simp only [Sem.run_bind, run_under u9, run_under u37, Result.andThen_ok, run_under u5]
    unfold Conv.stringToBytes
    simp only [Sem.run_bind, hcr, Result.andThen_ok, ← harr, newRow, run_newObj, Sem.run_pure]
    have hsh : World.shape? (w.drew.alloc (.cells arr 5)) w.heap.size = some (5, c) := by
      unfold World.shape?
      rw [show (w.drew.alloc (.cells arr 5)).heap[w.heap.size]? = _ from alloc_new w.drew _]
      simp [hsz]
    unfold markStringish
    simp only [Sem.run_bind, run_shape, World.alloc_eq, Result.andThen_ok]
    rw [show w.drew.heap.size = w.heap.size from rfl, hsh]
    simp
  · refine ⟨by unfold World.freeze; simp; rfl, by unfold World.freeze; simp, by unfold World.freeze; simp; rfl, ?_, fun k hk => ?_⟩
    · unfold World.freeze; simp
    · unfold World.freeze
      simp only [Nat.one_ne_zero, if_false, Array.getElem?_modify]
      rw [if_neg (by omega)]
      exact Below.heap_alloc w.drew _ k hk
  · unfold World.freeze
    simp only [Nat.one_ne_zero, if_false, Array.getElem?_modify, if_true]
    rw [show (w.drew.alloc (.cells arr 5)).heap[w.heap.size]? = some (.cells arr 5) from alloc_new w.drew _]
    rfl
  · rw [harr, Array.toList_append, List.take_append_of_le_length (by simp), List.take_of_length_le (by simp)]
    simp [u8V]
end Go.Proofs.YtecmfdfhpldmmaaGreatDoor
