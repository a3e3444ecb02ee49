import Derived.Test.YtcihcbfcgjepfaaGreatDoorBfOwA
import Derived.Test.YtcihcbfcgjepfaaGreatDoorBfPrA
import Derived.Test.YtcihcbfcgjepfaaGreatDoorShSixteen
import Derived.Test.YtcihcbfcgjepfaaGreatDoorShTen
/- Table: rows of fields: which are right, and how wide they are. No condition. -/
set_option maxRecDepth 100000
set_option linter.unusedVariables false
set_option linter.unusedSimpArgs false
namespace Go.Proofs.YtcihcbfcgjepfaaGreatDoor
open Go.Sh Go.RowKit Tryz
theorem zJa {α : Type} [DecidableEq α] {l : List α} {x : α} : (l ++ [x]).Nodup ↔ l.Nodup /\ x ∉ l := by
 rw [List.nodup_append]
 constructor
 ·rintro ⟨h1, _, h3⟩; exact ⟨h1, fun hx => h3 x hx x (by simp) rfl⟩
 ·rintro ⟨h1, h2⟩; exact ⟨h1, by simp, fun a ha b hb e => by simp at hb; subst hb; subst e; exact h2 ha⟩
theorem yQv (l : List Fld) : (zKI l : Int) <= l.length + 1 := by
 unfold zKI
 have := List.length_filter_le (·.null) l
 omega
theorem yQG {l : List Fld} {k : Nat} {f : Fld} (h : l[k]? = some f) : ((l.take (k + 1)).filter (·.null)).length = ((l.take k).filter (·.null)).length + (if f.null then 1 else 0) := by
 rw [zQQ h, List.filter_append, List.length_append]
 cases hx : f.null <;> simp [hx]
theorem zKE {l : List Fld} {k : Nat} {f : Fld} (h : l[k]? = some f) : ((l.take (k + 1)).filter (·.null)).length = if f.null then ((l.take k).filter (·.null)).length + 1 else ((l.take k).filter (·.null)).length := by
 rw [yQG h]; cases f.null <;> rfl
theorem zYp {w : World} {s : SV} {l : List Fld} (h : zXH w s l) : Calls prog 176 #[.slice s.a s.len s.cap] w fun e w' => e = .returned (.int .i64 (zKI l : Nat)) /\ Pu w w' := by
 refine yX1 _ w _ ?_
 have hlen := h.len
 have hlim := h.lim
 refine zQ8 l.length (fun k t w' => t.2 = (k : Int) /\ t.1 = (((l.take k).filter (·.null)).length : Nat) /\ Pu w w') ⟨rfl, rfl, Pu.refl _⟩ ?_
 rintro k J ⟨t1, t2⟩ w2 hk ⟨ht2, ht1, hp⟩ hJ
 obtain rfl : t2 = (k : Int) := ht2
 obtain rfl : t1 = (((l.take k).filter (·.null)).length : Nat) := ht1
 have hle := List.length_filter_le (·.null) (l.take k)
 have hle2 := List.length_take_le k l
 dsimp only
 refine Br.of (fun d => ?_) (fun d => ?_)
 ·have hk2 : k < l.length := by have := zQn d; omega
  obtain ⟨f, hf⟩ := zXD hk2
  obtain ⟨a, ha, hi, _, _, _, c0, c1, c2, c3⟩ := zJf (h.pu hp) hf
  refine ⟨a, ha, by omega, by omega, _, c0, _, c1, _, c2, _, c3, yY3 rfl s23.symm rfl fun w4 hp4 hs4 hb4 => ⟨_, cl hb4 3, ?_⟩⟩
  have e := zKE hf
  rw [zQe (n := (k : Int) + 1) (by omega) (by omega)]
  refine Br.of (fun d1 => hJ _ _ hk2 ⟨by dsimp only; omega, ?_, hp.trans hp4⟩) (fun d1 => hJ _ _ hk2 ⟨by dsimp only; omega, ?_, hp.trans hp4⟩)
  ·rw [if_pos d1] at e; dsimp only; rw [e, zQe (by omega) (by omega)]; omega
  ·rw [if_neg (by rw [d1]; simp)] at e; dsimp only; rw [e]
 ·have hk2 : k = l.length := by have := zQg d; omega
  subst hk2
  rw [List.take_length] at *
  refine ⟨rfl, by omega, ?_, hp⟩
  rw [zQe (n := ((l.filter (·.null)).length : Int) + 7) (by omega) (by omega), Int.tdiv_eq_ediv_of_nonneg (by omega), zQe (by omega) (by omega)]
  unfold zKI; congr 2
theorem yKy {w : World} {s : SV} {l : List Fld} (h : zXH w s l) : Calls prog 145 #[.slice s.a s.len s.cap] w fun e w' => e = .returned (.int .i64 (zKI l : Nat)) /\ Pu w w' := by
 refine yX4 _ w _ ?_
 have hlen := h.len
 have hlim := h.lim
 refine zQ8 l.length (fun k t w' => t.2 = (k : Int) /\ t.1 = (((l.take k).filter (·.null)).length : Nat) /\ Pu w w') ⟨rfl, rfl, Pu.refl _⟩ ?_
 rintro k J ⟨t1, t2⟩ w2 hk ⟨ht2, ht1, hp⟩ hJ
 obtain rfl : t2 = (k : Int) := ht2
 obtain rfl : t1 = (((l.take k).filter (·.null)).length : Nat) := ht1
 have hle := List.length_filter_le (·.null) (l.take k)
 have hle2 := List.length_take_le k l
 dsimp only
 refine Br.of (fun d => ?_) (fun d => ?_)
 ·have hk2 : k < l.length := by have := zQn d; omega
  obtain ⟨f, hf⟩ := zXD hk2
  obtain ⟨a, ha, hi, _, _, _, c0, c1, c2, c3⟩ := zJf (h.pu hp) hf
  refine ⟨a, ha, by omega, by omega, _, c3, ?_⟩
  have e := zKE hf
  rw [zQe (n := (k : Int) + 1) (by omega) (by omega)]
  refine Br.of (fun d1 => hJ _ _ hk2 ⟨by dsimp only; omega, ?_, hp⟩) (fun d1 => hJ _ _ hk2 ⟨by dsimp only; omega, ?_, hp⟩)
  ·rw [if_pos d1] at e; dsimp only; rw [e, zQe (by omega) (by omega)]; omega
  ·rw [if_neg (by rw [d1]; simp)] at e; dsimp only; rw [e]
 ·have hk2 : k = l.length := by have := zQg d; omega
  subst hk2
  rw [List.take_length] at *
  refine ⟨rfl, by omega, ?_, hp⟩
  rw [zQe (n := ((l.filter (·.null)).length : Int) + 7) (by omega) (by omega), Int.tdiv_eq_ediv_of_nonneg (by omega), zQe (by omega) (by omega)]
  unfold zKI; congr 2
def WOk (l : List Fld) : Prop := ∀ f ∈ l, 0 <= f.width /\ f.width <= 254
theorem zYP {f : Fld} (h : zQr f = true) : 1 <= f.width /\ f.width <= 254 := by
 unfold zQr zKH at h
 simp only [Bool.and_eq_true] at h
 have h := h.2
 split at h
 ·simp at h; omega
 ·split at h
  ·simp at h; omega
  ·split at h
   ·simp at h; omega
   ·split at h
    ·simp at h; omega
    ·split at h
     ·simp at h; omega
     ·simp at h
theorem WOk.of {l : List Fld} (h : l.all zQr = true) : WOk l := fun f hf => by have := zYP (List.all_eq_true.1 h f hf); omega
theorem yQz {l : List Fld} {k : Nat} {f : Fld} (h : l[k]? = some f) : ((l.take (k + 1)).map (·.width)).sum = ((l.take k).map (·.width)).sum + f.width := by
 rw [zQQ h, List.map_append, List.sum_append]; simp
theorem yVp {l : List Fld} (h : WOk l) : 0 <= (l.map (·.width)).sum /\ (l.map (·.width)).sum <= 254 * l.length := by
 induction l with
 | nil => simp
 | cons f l ih =>
  have h1 := h f (by simp)
  have h2 := ih fun g hg => h g (by simp [hg])
  simp only [List.map_cons, List.sum_cons, List.length_cons]; omega
theorem WOk.take {l : List Fld} (h : WOk l) (k : Nat) : WOk (l.take k) := fun f hf => h f (List.mem_of_mem_take hf)
theorem yKG {w : World} {s : SV} {l : List Fld} (h : zXH w s l) (hw : WOk l) : Calls prog 144 #[.slice s.a s.len s.cap] w fun e w' => e = .returned (.int .i64 (wide l)) /\ Pu w w' := by
 refine yXc _ w _ ((zYp h).mono ?_)
 rintro e w1 ⟨rfl, hp1⟩
 have hlen := h.len
 have hlim := h.lim
 have hn := yQv l
 refine ⟨_, rfl, ?_⟩
 rw [zQe (by omega) (by omega)]
 refine zQ8 l.length (fun k t w' => t.2 = (k : Int) /\ t.1 = 1 + ((zKI l : Nat) : Int) + ((l.take k).map (·.width)).sum /\ Pu w w') ⟨rfl, by simp, hp1⟩ ?_
 rintro k J ⟨t1, t2⟩ w2 hk ⟨ht2, ht1, hp⟩ hJ
 obtain rfl : t2 = (k : Int) := ht2
 obtain rfl : t1 = 1 + ((zKI l : Nat) : Int) + ((l.take k).map (·.width)).sum := ht1
 have hs := yVp (hw.take k)
 have hle2 := List.length_take_le k l
 dsimp only
 refine Br.of (fun d => ?_) (fun d => ?_)
 ·have hk2 : k < l.length := by have := zQn d; omega
  obtain ⟨f, hf⟩ := zXD hk2
  have hwf := hw f (List.mem_of_getElem? hf)
  obtain ⟨a, ha, hi, _, _, _, c0, c1, c2, c3⟩ := zJf (h.pu hp) hf
  refine ⟨a, ha, by omega, by omega, _, c0, _, c1, _, c2, _, c3, yY3 rfl s23.symm rfl fun w4 hp4 hs4 hb4 => ⟨_, cl hb4 2, ?_⟩⟩
  rw [zQe (n := (k : Int) + 1) (by omega) (by omega), zQe (by omega) (by omega)]
  refine hJ _ _ hk2 ⟨by dsimp only; omega, ?_, hp.trans hp4⟩
  dsimp only; rw [yQz hf]; omega
 ·have hk2 : k = l.length := by have := zQg d; omega
  subst hk2
  rw [List.take_length]
  exact ⟨rfl, hp⟩
theorem yY1 {w : World} {s : SV} {l : List Fld} (h : zXH w s l) (hw : WOk l) : Calls prog 95 #[.slice s.a s.len s.cap] w fun e w' => e = .returned (.int .i64 (wide l)) /\ Pu w w' := by
 refine yZo _ w _ ((yKy h).mono ?_)
 rintro e w1 ⟨rfl, hp1⟩
 have hlen := h.len
 have hlim := h.lim
 have hn := yQv l
 refine ⟨_, rfl, ?_⟩
 rw [zQe (by omega) (by omega)]
 refine zQ8 l.length (fun k t w' => t.2 = (k : Int) /\ t.1 = 1 + ((zKI l : Nat) : Int) + ((l.take k).map (·.width)).sum /\ Pu w w') ⟨rfl, by simp, hp1⟩ ?_
 rintro k J ⟨t1, t2⟩ w2 hk ⟨ht2, ht1, hp⟩ hJ
 obtain rfl : t2 = (k : Int) := ht2
 obtain rfl : t1 = 1 + ((zKI l : Nat) : Int) + ((l.take k).map (·.width)).sum := ht1
 have hs := yVp (hw.take k)
 have hle2 := List.length_take_le k l
 dsimp only
 refine Br.of (fun d => ?_) (fun d => ?_)
 ·have hk2 : k < l.length := by have := zQn d; omega
  obtain ⟨f, hf⟩ := zXD hk2
  have hwf := hw f (List.mem_of_getElem? hf)
  obtain ⟨a, ha, hi, _, _, _, c0, c1, c2, c3⟩ := zJf (h.pu hp) hf
  refine ⟨a, ha, by omega, by omega, _, c2, ?_⟩
  rw [zQe (n := (k : Int) + 1) (by omega) (by omega), zQe (by omega) (by omega)]
  refine hJ _ _ hk2 ⟨by dsimp only; omega, ?_, hp⟩
  dsimp only; rw [yQz hf]; omega
 ·have hk2 : k = l.length := by have := zQg d; omega
  subst hk2
  rw [List.take_length]
  exact ⟨rfl, hp⟩
def yQ2 (l : List Fld) (g : Nat) (cap : Array Value) (p : Fld -> Bool) (w0 : World) : Prop := zXv prog g = true /\ ∀ f ∈ l, ∀ w, Pu w0 w -> Calls prog g (#[yXP f] ++ cap) w fun e w' => e = .returned (.bool (p f)) /\ Pu w w'
theorem zV7 {p : Fld -> Bool} {l : List Fld} {k : Nat} (h : ∀ f ∈ l.take k, p f = false) {f : Fld} (hf : l[k]? = some f) (hp : p f = true) : l.findIdx? p = some k := by
 have hk : k < l.length := (List.getElem?_eq_some_iff.1 hf).1
 rw [List.findIdx?_eq_some_iff_getElem]
 refine ⟨hk, ?_, fun j hj => ?_⟩
 ·rw [List.getElem?_eq_getElem hk] at hf; rw [Option.some.inj hf]; exact hp
 ·have := h l[j] (by rw [List.mem_take_iff_getElem]; exact ⟨j, by omega, rfl⟩)
  simpa using this
theorem zK7 {w : World} {s : SV} {l : List Fld} (h : zXH w s l) {g : Nat} {cap : Array Value} {p : Fld -> Bool} (hg : yQ2 l g cap p w) : Calls prog 104 #[.slice s.a s.len s.cap, .func (.func g) #[] cap] w
  fun e w' => e = .returned (.int .i64 (match l.findIdx? p with | some k => (k : Int) | none => -1)) /\ Pu w w' := by
 refine yQK _ _ w _ ?_
 have hlen := h.len
 have hlim := h.lim
 refine zQ8 l.length (fun k t w' => t = (k : Int) /\ (∀ f ∈ l.take k, p f = false) /\ Pu w w') ⟨rfl, by simp, Pu.refl _⟩ ?_
 rintro k J t w2 hk ⟨ht, hno, hp⟩ hJ
 obtain rfl : t = (k : Int) := ht
 refine Br.of (fun d => ?_) (fun d => ?_)
 ·have hk2 : k < l.length := by have := zQn d; omega
  obtain ⟨f, hf⟩ := zXD hk2
  obtain ⟨a, ha, hi, _, _, _, c0, c1, c2, c3⟩ := zJf (h.pu hp) hf
  refine ⟨a, ha, by omega, by omega, _, c0, _, c1, _, c2, _, c3, hg.1, ?_⟩
  have e1 : ((#[] : Array Value).toList ++ (([yXP f] : List Value) ++ cap.toList)).toArray = #[yXP f] ++ cap := by
   apply Array.ext'; simp
  rw [e1]
  refine (hg.2 f (List.mem_of_getElem? hf) w2 hp).mono ?_
  rintro e w3 ⟨rfl, hp3⟩
  refine ⟨_, rfl, Br.of (fun d1 => ⟨by rw [zV7 hno hf d1], hp.trans hp3⟩) (fun d1 => ?_)⟩
  rw [zQe (by omega) (by omega)]
  refine hJ _ _ hk2 ⟨by omega, fun f' hf' => ?_, hp.trans hp3⟩
  rw [zQQ hf, List.mem_append, List.mem_singleton] at hf'
  rcases hf' with hf' | rfl
  ·exact hno f' hf'
  ·exact d1
 ·have hk2 : k = l.length := by have := zQg d; omega
  subst hk2
  rw [List.take_length] at hno
  have : l.findIdx? p = none := by rw [List.findIdx?_eq_none_iff]; exact fun x hx => by rw [hno x hx]
  exact ⟨by rw [this], hp⟩
theorem zWc {w : World} {s : SV} {l : List Fld} (h : zXH w s l) {g : Nat} {cap : Array Value} {p : Fld -> Bool} (hg : yQ2 l g cap p w) : Calls prog 142 #[.slice s.a s.len s.cap, .func (.func g) #[] cap] w
  fun e w' => e = .returned (.bool (l.any p)) /\ Pu w w' := by
 refine yQO _ _ w _ ((zK7 h hg).mono ?_)
 rintro e w2 ⟨rfl, hp⟩
 refine ⟨_, rfl, ?_, hp⟩
 cases hx : l.findIdx? p with
 | none =>
  rw [List.findIdx?_eq_none_iff] at hx
  have : l.any p = false := by rw [List.any_eq_false]; exact fun x hx' => by rw [hx x hx']; simp
  rw [this]; rfl
 | some k =>
  rw [List.findIdx?_eq_some_iff_getElem] at hx
  obtain ⟨h1, h2, _⟩ := hx
  have : l.any p = true := List.any_eq_true.2 ⟨_, List.getElem_mem h1, h2⟩
  rw [this]
  dsimp only
  rw [decide_eq_true (by omega)]
theorem yXM (f : Fld) (hs : f.name.size <= 140737488355328) (w : World) : Calls prog 143 #[yXP f] w fun e w' => e = .returned (.bool (!zQr f)) /\ Pu w w' := by
 refine yQS _ _ _ _ w _ (alB fun w1 hp1 hb1 => ⟨_, cl hb1 0, _, cl hb1 1, _, cl hb1 2, _, cl hb1 3, (zVz f hs w1).mono ?_⟩)
 rintro e w2 ⟨rfl, hp2⟩
 exact ⟨_, rfl, rfl, hp1.trans hp2⟩
theorem u88 : prog.underlying 177 = some (.map 9 4) := by kernel_rfl
abbrev strK (s : ByteArray) : Value := .string s
abbrev yYb (b : Bool) : Value := .bool b
theorem keysS : Keys prog 9 strK := yKM (by kernel_rfl)
theorem z4 (w : World) : (zeroValue 4).run prog w = .ok (.bool false) w := Tryz.zeroValue4 w
def zWJ (l : List Fld) : List (ByteArray × Bool) := l.map fun f => (f.name, true)
theorem zVe (l : List Fld) : (zWJ l).map Prod.fst = l.map (·.name) := by simp [zWJ]
noncomputable instance memDec (x : ByteArray) (l : List ByteArray) : Decidable (x ∈ l) := Classical.propDecidable _
theorem yKh (l : List Fld) (x : ByteArray) : (AL.get (zWJ l) x).elim (.bool false) yYb = .bool (decide (x ∈ l.map (·.name))) := by
 by_cases h : x ∈ l.map (·.name)
 ·rw [decide_eq_true h]
  cases hg : AL.get (zWJ l) x with
  | none => rw [AL.get_none, zVe] at hg; exact absurd h hg
  | some v =>
   have := AL.get_mem hg
   simp only [zWJ, List.mem_map] at this
   obtain ⟨f, _, he⟩ := this
   cases he; rfl
 ·rw [decide_eq_false h, (AL.get_none).2 (by rw [zVe]; exact h)]; rfl
theorem zKf : zQT [] = 1 := by unfold zQT; rw [if_pos (.inl rfl)]
theorem zWD {l : List Fld} (h : l.all zQr = false) : zQT l = 1 := by unfold zQT; rw [if_pos (.inr h)]
theorem zWA {l : List Fld} (h0 : l ≠ []) (h : l.all zQr = true) (h2 : ¬ (l.map (·.name)).Nodup) : zQT l = 5 := by unfold zQT; rw [if_neg (by simp [h0, h]), if_pos h2]
theorem zWl {l : List Fld} (h0 : l ≠ []) (h : l.all zQr = true) (h2 : (l.map (·.name)).Nodup) : zQT l = if 16 < l.length ∨ 2000 < wide l then 3 else 0 := by unfold zQT; rw [if_neg (by simp [h0, h]), if_neg (by simp [h2])]
theorem zZn {l : List Fld} {k : Nat} {f : Fld} (h : l[k]? = some f) : (l.take (k + 1)).map (·.name) = (l.take k).map (·.name) ++ [f.name] := by
 rw [zQQ h, List.map_append]; rfl
theorem zJH {l : List Fld} {k : Nat} (h : ¬ ((l.take k).map (·.name)).Nodup) : ¬ (l.map (·.name)).Nodup := fun hn => h (by
 rw [List.map_take]; exact hn.sublist (List.take_sublist _ _))
theorem zWT {w : World} {s : SV} {l : List Fld} (h : zXH w s l) (hl : Lim.ok l) : Calls prog 93 #[.slice s.a s.len s.cap] w fun e w' => e = .returned (.int .i64 (zQT l)) /\ Pu w w' := by
 refine yJL _ w _ ?_
 have hlen := h.len
 have hlim := h.lim
 have nm : ∀ f ∈ l, f.name.size <= 140737488355328 := fun f hf => hl f hf
 refine Br.of (fun d => ?_) (fun d => ?_)
 ·have : l = [] := List.length_eq_zero_iff.1 (by have := zQA d; omega)
  subst this; exact ⟨by rw [zKf], Pu.refl _⟩
 have h0 : l ≠ [] := fun e => by subst e; exact zQj d (by rw [hlen]; rfl)
 have tells : yQ2 l 143 #[] (fun f => !zQr f) w := ⟨by kernel_rfl, fun f hf w2 _ => yXM f (nm f hf) w2⟩
 refine (zWc h tells).mono ?_
 rintro e w1 ⟨rfl, hp1⟩
 have hany : l.any (fun f => !zQr f) = !l.all zQr := by rw [List.all_eq_not_any_not]; simp
 refine ⟨_, rfl, ?_⟩
 rw [hany]
 refine Br.of (fun d1 => ⟨by rw [zWD (by simpa using d1)], hp1⟩) (fun d1 => ?_)
 have hall : l.all zQr = true := by simpa using d1
 refine zX8 fun w2 hw2 => ?_
 have hp2 : Pu w1 w2 := by rw [hw2]; exact Pu.alloc w1 _
 have hm2 : zQ3 w2 strK yYb w1.heap.size ([] : List (ByteArray × Bool)) := by rw [hw2]; exact zQ3.new w1 _ _
 have z1 := hp1.size
 refine zQ8 l.length (fun k t w' => t = (k : Int) /\ zQ3 w' strK yYb w1.heap.size (zWJ (l.take k)) /\ ((l.take k).map (·.name)).Nodup /\ Pu w w') ⟨rfl, hm2, by simp, hp1.trans hp2⟩ ?_
 rintro k J t w3 hk ⟨ht, hm, hnd, hp⟩ hJ
 obtain rfl : t = (k : Int) := ht
 refine Br.of (fun d2 => ?_) (fun d2 => ?_)
 ·have hk2 : k < l.length := by have := zQn d2; omega
  obtain ⟨f, hf⟩ := zXD hk2
  obtain ⟨a, ha, hi, _, _, _, c0, c1, c2, c3⟩ := zJf (h.pu hp) hf
  refine ⟨a, ha, by omega, by omega, _, c0, _, c1, _, c2, _, c3, yY3 rfl s23.symm rfl fun w4 hp4 hs4 hb4 => ⟨_, cl0 hb4, decide (f.name ∈ (l.take k).map (·.name)), w4, ?_, ?_⟩⟩
  ·have := (hm.pu hp4).look keysS u88 (z4 w4) f.name false
   rw [yKh] at this; exact this
  refine Br.of (fun d3 => ⟨?_, hp.trans hp4⟩) (fun d3 => ⟨_, cl0 hb4, ?_⟩)
  ·rw [zWA h0 hall (zJH (k := k + 1) (by rw [zZn hf, zJa]; exact fun h => h.2 (zQn d3)))]
  ·obtain ⟨w5, e5, h5, f5, _⟩ := (hm.pu hp4).upd keysS u88 f.name true
   refine ⟨w5, e5, ?_⟩
   rw [zQe (by omega) (by omega)]
   have hput : AL.put (zWJ (l.take k)) f.name true = zWJ (l.take (k + 1)) := by
    rw [AL.put_new ((AL.get_none).2 (by rw [zVe]; exact zQg d3))]
    simp only [zWJ]
    rw [zQQ hf, List.map_append]; rfl
   rw [hput] at h5
   refine hJ _ _ hk2 ⟨by omega, h5, by rw [zZn hf, zJa]; exact ⟨hnd, zQg d3⟩, (hp.trans hp4).andNew f5 fun i hi => by have hi : i = w1.heap.size := hi; omega⟩
 ·have hk2 : k = l.length := by have := zQg d2; omega
  subst hk2
  rw [List.take_length] at hnd
  have he := zWl h0 hall hnd
  refine Br.of (fun d3 => ⟨by rw [he, if_pos (.inl (by have := zQn d3; omega))], hp⟩) (fun d3 => (yKG (h.pu hp) (WOk.of hall)).mono ?_)
  rintro e w4 ⟨rfl, hp4⟩
  refine ⟨_, rfl, Br.of (fun d4 => ⟨by rw [he, if_pos (.inr (zQn d4))], hp.trans hp4⟩) (fun d4 => ⟨by rw [he, if_neg (by have := zQg d4; have := zQg d3; omega)], hp.trans hp4⟩)⟩
theorem zWf {w : World} {s : SV} {l : List Fld} (h : zXH w s l) : Calls prog 42 #[.slice s.a s.len s.cap] w fun e w' => e = .returned (.int .i64 (zQT l)) /\ Pu w w' := by
 refine yJg _ w _ ?_
 have hlen := h.len
 have hlim := h.lim
 refine Br.of (fun d => ?_) (fun d => ?_)
 ·have : l = [] := List.length_eq_zero_iff.1 (by have := zQA d; omega)
  subst this; exact ⟨by rw [zKf], Pu.refl _⟩
 have h0 : l ≠ [] := fun e => by subst e; exact zQj d (by rw [hlen]; rfl)
 refine zQ8 l.length (fun k t w' => t = (k : Int) /\ (l.take k).all zQr = true /\ Pu w w') ⟨rfl, rfl, Pu.refl _⟩ ?_
 rintro k J t w2 hk ⟨ht, hal, hp⟩ hJ
 obtain rfl : t = (k : Int) := ht
 refine Br.of (fun d1 => ?_) (fun d1 => ?_)
 ·have hk2 : k < l.length := by have := zQn d1; omega
  obtain ⟨f, hf⟩ := zXD hk2
  obtain ⟨a, ha, hi, _, _, _, c0, c1, c2, c3⟩ := zJf (h.pu hp) hf
  refine ⟨a, ha, by omega, by omega, _, c0, _, c1, _, c2, _, c3, (yXK f w2).mono ?_⟩
  rintro e w3 ⟨rfl, hp3⟩
  refine ⟨_, rfl, Br.of (fun d2 => ⟨?_, hp.trans hp3⟩) (fun d2 => ?_)⟩
  ·rw [zWD (by rw [List.all_eq_false]; exact ⟨f, List.mem_of_getElem? hf, by simpa using d2⟩)]
  ·rw [zQe (by omega) (by omega)]
   exact hJ _ _ hk2 ⟨by omega, by rw [zZ1 _ hf, hal, show zQr f = true by simpa using d2]; rfl, hp.trans hp3⟩
 have hk2 : k = l.length := by have := zQg d1; omega
 subst hk2
 rw [List.take_length] at hal
 clear hJ J d1
 refine zQ8 l.length (fun k t w' => t = (k : Int) /\ ((l.take k).map (·.name)).Nodup /\ Pu w w') ⟨rfl, by simp, hp⟩ ?_
 rintro k J t w3 hk ⟨ht, hnd, hp⟩ hJ
 obtain rfl : t = (k : Int) := ht
 refine Br.of (fun d1 => ?_) (fun d1 => ?_)
 ·have hk2 : k < l.length := by have := zQn d1; omega
  obtain ⟨f, hf⟩ := zXD hk2
  refine zQ8 k (fun j t w' => t = (j : Int) /\ f.name ∉ (l.take j).map (·.name) /\ Pu w w') ⟨rfl, by simp, hp⟩ ?_
  rintro j J2 t w4 hj ⟨ht, hno, hp4⟩ hJ2
  obtain rfl : t = (j : Int) := ht
  refine Br.of (fun d2 => ?_) (fun d2 => ?_)
  ·have hj2 : j < k := by have := zQn d2; omega
   obtain ⟨g, hg⟩ := zXD (show j < l.length by omega)
   refine zQl fun w5 hp5 _ => ?_
   obtain ⟨a, ha, hi, _, _, c, c0, c1, c2, c3⟩ := zJf (h.pu (hp4.trans hp5)) hf
   obtain ⟨a', ha', hi', _, _, c', c0', c1', c2', c3'⟩ := zJf (h.pu (hp4.trans hp5)) hg
   refine ⟨a, ha, by omega, by omega, _, c, a', ha', by omega, by omega, _, c', ?_⟩
   rw [zZh]
   refine Br.of (fun d3 => ⟨?_, hp4.trans hp5⟩) (fun d3 => ?_)
   ·rw [zWA h0 hal (zJH (k := k + 1) (by
     rw [zZn hf, zJa]
     refine fun h => h.2 ?_
     rw [zQn d3]
     exact List.mem_map.2 ⟨g, by rw [List.mem_take_iff_getElem]; exact ⟨j, by omega, by rw [List.getElem?_eq_getElem (by omega)] at hg; exact Option.some.inj hg⟩, rfl⟩))]
   ·rw [zQe (by omega) (by omega)]
    refine hJ2 _ _ hj2 ⟨by omega, ?_, hp4.trans hp5⟩
    rw [zZn hg, List.mem_append, List.mem_singleton]
    exact fun h => h.elim hno (zQg d3)
  ·have hj2 : j = k := by have := zQg d2; omega
   subst hj2
   show J (IntKind.i64.wrap ((j : Int) + 1)) w4
   rw [zQe (by omega) (by omega)]
   exact hJ _ _ hk2 ⟨by omega, by rw [zZn hf, zJa]; exact ⟨hnd, hno⟩, hp4⟩
 ·have hk2 : k = l.length := by have := zQg d1; omega
  subst hk2
  rw [List.take_length] at hnd
  have he := zWl h0 hal hnd
  refine Br.of (fun d3 => ⟨by rw [he, if_pos (.inl (by have := zQn d3; omega))], hp⟩) (fun d3 => (yY1 (h.pu hp) (WOk.of hal)).mono ?_)
  rintro e w4 ⟨rfl, hp4⟩
  refine ⟨_, rfl, Br.of (fun d4 => ⟨by rw [he, if_pos (.inr (zQn d4))], hp.trans hp4⟩) (fun d4 => ⟨by rw [he, if_neg (by have := zQg d4; have := zQg d3; omega)], hp.trans hp4⟩)⟩
end Go.Proofs.YtcihcbfcgjepfaaGreatDoor
/- Table: which tables are right. No condition. -/
namespace Go.Proofs.YtcihcbfcgjepfaaGreatDoor
open Go.Sh Go.RowKit Tryz
theorem yK1 : zWO prog 28 [some .i64, some .i64, none] = true := by kernel_rfl
theorem yJu : prog.eqGuardType prog.depth 28 = false := by kernel_rfl
theorem zYX {a b : Val} (h : zXO a = zXO b) : a = b := by
 obtain ⟨a1, a2, a3⟩ := a; obtain ⟨b1, b2, b3⟩ := b
 simp [zXO] at h; simp [h]
theorem eqVal (x y : Operand) (a b : Val) (w : World) : (eqS .eql 28 x y (zKq a) (zKq b)).run prog w = .ok (.bool (decide (a = b))) w := by
 refine eqS_row (ks := [some .i64, some .i64, none]) (xs := zXO a) (ys := zXO b) yK1 yJu rfl rfl ?_ w
 rw [decide_eq_true_iff]
 exact ⟨fun h => by rw [h], zYX⟩
theorem yKQ {l : List UInt8} {w : Nat} (h : zXU (l.take w) = l) : l.length <= w /\ zXU l = l := by
 have h1 := zYG (l.take w)
 rw [h] at h1
 have h2 := List.length_take_le w l
 have h3 : l.length <= w := by omega
 rw [List.take_of_length_le h3] at h
 exact ⟨h3, h⟩
theorem fitted_holds {f : Fld} {p : Int} {v : Val} (hf : zQr f = true) (hv : zXb v = 0) (hk : v.kind ≠ 0) : (decide ((zXR f p v).2 = 0) && decide ((zXR f p v).1 = v)) = zQK f p v := by
 have hv0 : ¬ zXb v ≠ 0 := by omega
 obtain ⟨hvs, hvn, hv4⟩ := zKz hv
 unfold zXR
 rw [if_neg hk]
 by_cases h1 : v.kind ≠ (zXY f).kind
 ·rw [if_pos h1]
  have : zQK f p v = false := by
   unfold zQK; rw [if_neg hv0, if_neg hk]
   by_cases h5 : f.kind = 5
   ·have : v.kind ≠ 2 := by unfold zXY at h1; rw [if_pos h5] at h1; exact h1
    rw [if_pos h5, decide_eq_false this]; rfl
   ·have : v.kind ≠ f.kind := by unfold zXY at h1; rw [if_neg h5] at h1; exact h1
    rw [if_neg h5, if_pos this]
  rw [this]; simp
 rw [if_neg h1]
 by_cases h4 : f.kind = 4
 ·rw [if_pos h4]
  have hkv : v.kind = 4 := by
    have : v.kind = (zXY f).kind := by simpa using h1
    rw [this]; unfold zXY; rw [if_neg (by omega)]; exact h4
  have hn0 : v.n = 0 := by rw [hkv] at hvn; simpa [okN] using hvn
  have hfit : zQK f p v = (decide ((v.s.size : Int) <= f.width) && decide (zXU v.s.data.toList = v.s.data.toList) && zX3 v.s.data.toList p) := by
   unfold zQK; rw [if_neg hv0, if_neg hk, if_neg (by omega), if_neg (by rw [hkv, h4]; simp), if_neg (by omega), if_pos h4]
  obtain ⟨wl, wh⟩ := zVj hf h4
  have key : (zXU (v.s.data.toList.take f.width.toNat) = v.s.data.toList) ↔ ((v.s.size : Int) <= f.width /\ zXU v.s.data.toList = v.s.data.toList) := by
   constructor
   ·intro h; have h2 := yKQ h; rw [zZu] at h2; exact ⟨by omega, h2.2⟩
   ·rintro ⟨h2, h3⟩; rw [List.take_of_length_le (by rw [zZu]; omega)]; exact h3
  have eqv : (⟨4, 0, bs (zXU (v.s.data.toList.take f.width.toNat))⟩ : Val) = v ↔ zXU (v.s.data.toList.take f.width.toNat) = v.s.data.toList := by
   rw [← zVJ]
   obtain ⟨k, n, s⟩ := v
   simp only at hkv hn0
   subst hkv hn0
   simp
  have key2 : (decide ((v.s.size : Int) <= f.width) && decide (zXU v.s.data.toList = v.s.data.toList)) = decide (zXU (v.s.data.toList.take f.width.toNat) = v.s.data.toList) := by rw [← Bool.decide_and]; exact zZ7 key.symm
  rw [hfit, key2]
  by_cases hb : zXU (v.s.data.toList.take f.width.toNat) = v.s.data.toList
  ·rw [decide_eq_true hb, hb]
   cases ht : zX3 v.s.data.toList p
   ·simp
   ·rw [if_pos rfl]
    have h9 := eqv.2 hb
    rw [hb] at h9
    simp [h9]
  ·rw [decide_eq_false hb]
   cases ht : zX3 (zXU (v.s.data.toList.take f.width.toNat)) p
   ·simp
   ·rw [if_pos rfl]
    have h9 : ¬ (⟨4, 0, bs (zXU (v.s.data.toList.take f.width.toNat))⟩ : Val) = v := fun h => hb (eqv.1 h)
    simp [h9]
 ·rw [if_neg h4]
  cases hfit : zQK f p v
  ·simp
  ·simp
theorem yYK (f : Fld) (p : Int) (v : Val) (hs : f.name.size <= 140737488355328) (hf : zQr f = true) (hpg : zQX p = true) (w : World) : Calls prog 94 #[yXP f, .int .i64 p, zKq v] w fun e w' => e = .returned (.bool (zQK f p v)) /\ Pu w w' := by
 refine yJE _ _ _ _ _ _ _ _ w _ ?_
 refine alB fun w1 hp1 hb1 => alB fun w2 hp2 hb2 => ?_
 have hp02 := hp1.trans hp2
 have b1 : ∀ {wz}, Pu w2 wz -> wz.heap[w.heap.size]? = some (.cells #[.string f.name, .int .i64 f.kind, .int .i64 f.width, .bool f.null] 38) := fun h => h.blk (hp2.blk hb1)
 have b2 : ∀ {wz}, Pu w2 wz -> wz.heap[w1.heap.size]? = some (.cells #[.int .i64 v.kind, .int .i64 v.n, .string v.s] 28) := fun h => h.blk hb2
 have q1 := b1 (Pu.refl w2)
 have q2 := b2 (Pu.refl w2)
 have out : ∀ {wz : World} {b : Bool}, Pu w wz -> zQK f p v = b -> (Ending.returned (Value.bool b) = Ending.returned (Value.bool (zQK f p v)) /\ Pu w wz) := fun h1 h2 => ⟨by rw [h2], h1⟩
 have bad : zXb v ≠ 0 -> zQK f p v = false := fun h => by unfold zQK; rw [if_pos h]
 refine ⟨_, cl0 q2, Br.of (fun d => ⟨_, cl q1 3, ?_⟩) (fun d => ⟨_, cl q2 0, _, cl q2 1, _, cl q2 2, (yZG v w2).mono ?_⟩)⟩
 ·have d := zQA d
  have key : (f.null && decide (v = noV)) = zQK f p v := by
   by_cases h : zXb v ≠ 0
   ·rw [bad h]
    have : ¬ v = noV := fun e => h (by rw [e]; rfl)
    rw [decide_eq_false this]; simp
   ·have h : zXb v = 0 := by simpa using h
    obtain ⟨_, h2, h3⟩ := zKz h
    have hn : v.n = 0 := by rw [d] at h2; simpa [okN] using h2
    have hz : v.s.size = 0 := h3.resolve_left (by omega)
    have : v = noV := by
     obtain ⟨k, n, s⟩ := v
     simp only at d hn hz
     subst d hn
     have : s = ⟨#[]⟩ := zXA (by
       have : s.data.toList.length = 0 := by rw [zZu]; exact hz
       rw [List.length_eq_zero_iff] at this; rw [this])
     subst this; rfl
    rw [decide_eq_true this]
    unfold zQK; rw [if_neg (by omega), if_pos d]; simp
  refine Br.of (fun d1 => ⟨_, cl q2 0, _, cl q2 1, _, cl q2 2, _, w2, eqVal _ _ v noV w2, out hp02 ?_⟩) (fun d1 => out hp02 ?_)
  ·rw [← key, d1]; rfl
  ·rw [← key, d1]; rfl
 rintro e w3 ⟨rfl, hp3⟩
 have hp03 := hp02.trans hp3
 refine ⟨_, rfl, Br.of (fun d1 => out hp03 (bad (zQ5 d1))) (fun d1 => ⟨_, cl (b1 hp3) 0, _, cl (b1 hp3) 1, _, cl (b1 hp3) 2, _, cl (b1 hp3) 3, _, cl (b2 hp3) 0, _, cl (b2 hp3) 1, _, cl (b2 hp3) 2, (fit_c f p v hs w3).mono ?_⟩)⟩
 have hv := zQv d1
 have hF := zJk (f := f) (p := p) (v := v) (by rw [hf, hpg]; rfl) hv
 have key := fitted_holds (f := f) (p := p) hf hv (zQj d)
 rintro e w4 ⟨rfl, hp4⟩
 rw [hF]
 refine ⟨_, _, _, _, rfl, yY3 rfl s25.symm rfl fun w5 hp5 hs5 hb5 => ?_⟩
 have hp35 := (hp3.trans hp4).trans hp5
 have hp05 := hp02.trans hp35
 refine Br.of (fun d2 => ⟨_, cl hb5 0, _, cl hb5 1, _, cl hb5 2, _, cl (b2 hp35) 0, _, cl (b2 hp35) 1, _, cl (b2 hp35) 2, _, w5, eqVal _ _ (zXR f p v).1 v w5, out hp05 ?_⟩) (fun d2 => out hp05 ?_)
 ·rw [← key, decide_eq_true (zQA d2)]; rfl
 ·rw [← key, decide_eq_false (zQj d2)]; rfl
theorem yWV {l : List Fld} {vs : List Val} {i : Nat} {f : Fld} {v : Val} (h : l[i]? = some f) (h2 : vs[i]? = some v) : (l.zip vs)[i]? = some (f, v) := by
 rw [List.getElem?_zip_eq_some]; exact ⟨h, h2⟩
def zJ0 (l : List Fld) (p : Int) (vs : List Val) : Bool := (l.zip vs).all (fun x => zQK x.1 p x.2)
theorem zJM {l : List Fld} {p : Int} {r : Rec} (h : r.v.length ≠ l.length) : zQx l p r = 10 := by unfold zQx; rw [if_pos h]
theorem zZU {l : List Fld} {p : Int} {r : Rec} (h : r.v.length = l.length) : zQx l p r = if zJ0 l p r.v then 0 else 1 := by unfold zQx; rw [if_neg (by simp [h])]; rfl
theorem zYm {w : World} {s t : SV} {l : List Fld} {r : Rec} (p : Int) (h : zXH w s l) (hr : zXH w t r.v) : Calls prog 43 #[.slice s.a s.len s.cap, .int .i64 p, .agg #[.bool r.gone, .slice t.a t.len t.cap]] w fun e w' => e = .returned (.int .i64 (zQx l p r)) /\ Pu w w' := by
 refine yJ7 _ _ _ _ w _ ?_
 refine alB fun w1 hp1 hb1 => ⟨t, cl hb1 1, ?_⟩
 have h1 := h.len
 have h2 := hr.len
 have h3 := h.lim
 refine Br.of (fun d => ⟨by rw [zJM (by have := zQ5 d; omega)], hp1⟩) (fun d => ?_)
 have hl : r.v.length = l.length := by have := zQv d; omega
 refine zQ8 l.length (fun k u w' => u = (k : Int) /\ ((l.zip r.v).take k).all (fun x => zQK x.1 p x.2) = true /\ Pu w1 w') ⟨rfl, rfl, Pu.refl _⟩ ?_
 rintro k J u w2 hk ⟨hu, hal, hp2⟩ hJ
 obtain rfl : u = (k : Int) := hu
 refine Br.of (fun d1 => ?_) (fun d1 => ?_)
 ·have hk2 : k < l.length := by have := zQn d1; omega
  obtain ⟨f, hf⟩ := zXD hk2
  obtain ⟨v, hv⟩ := zXD (show k < r.v.length by omega)
  refine zQl fun w3 hp3 _ => ?_
  have hp13 := hp2.trans hp3
  obtain ⟨a, ha, hi, _, _, c, c0, c1, c2, c3⟩ := zJf ((h.pu hp1).pu hp13) hf
  obtain ⟨b, hb, hbi, _, _, e0, e1, e2⟩ := yWp ((hr.pu hp1).pu hp13) hv
  refine ⟨a, ha, by omega, by omega, _, c0, _, c1, _, c2, _, c3, t, cl (hp13.blk hb1) 1, b, hb, by omega, by omega, _, e0, _, e1, _, e2, (yYN f p v w3).mono ?_⟩
  rintro e w4 ⟨rfl, hp4⟩
  have hz := yWV hf hv
  refine ⟨_, rfl, Br.of (fun d2 => ⟨?_, hp1.trans (hp13.trans hp4)⟩) (fun d2 => ?_)⟩
  ·have : zJ0 l p r.v = false := by unfold zJ0; rw [List.all_eq_false]; exact ⟨_, List.mem_of_getElem? hz, by simpa using d2⟩
   rw [zZU hl, this]; rfl
  ·rw [zQe (by omega) (by omega)]
   exact hJ _ _ hk2 ⟨by omega, by rw [zZ1 _ hz, hal, show zQK f p v = true by simpa using d2]; rfl, hp13.trans hp4⟩
 ·have hk2 : k = l.length := by have := zQg d1; omega
  have : zJ0 l p r.v = true := by unfold zJ0; rw [← hal, List.take_of_length_le (by rw [List.length_zip]; omega)]
  exact ⟨by rw [zZU hl, this]; rfl, hp1.trans hp2⟩
theorem zZy {l : List Fld} {p : Int} : ∀ {rs : List Rec} {k : Nat} {r : Rec}, (∀ x ∈ rs.take k, zQx l p x = 0) -> rs[k]? = some r -> zQx l p r ≠ 0 -> zX6 l p rs = zQx l p r
 | [], k, r, _, h, _ => by simp at h
 | x :: rs, 0, r, _, h, h2 => by simp at h; subst h; unfold zX6; rw [if_pos h2]
 | x :: rs, k + 1, r, h0, h, h2 => by
  unfold zX6
  rw [if_neg (by rw [h0 x (by simp)]; simp)]
  exact zZy (k := k) (fun y hy => h0 y (by simp [hy])) (by simpa using h) h2
theorem zZ3 {l : List Fld} {p : Int} : ∀ {rs : List Rec}, (∀ x ∈ rs, zQx l p x = 0) -> zX6 l p rs = 0
 | [], _ => rfl
 | x :: rs, h => by unfold zX6; rw [if_neg (by rw [h x (by simp)]; simp)]; exact zZ3 fun y hy => h y (by simp [hy])
theorem zKA {t : Tbl} (h : zQX t.page = false) : zX0 t = 1 := by unfold zX0; rw [h]; rfl
theorem zJB {t : Tbl} (h : zQX t.page = true) (h2 : zQT t.fields ≠ 0) : zX0 t = zQT t.fields := by unfold zX0; rw [h, if_pos rfl, if_pos h2]
theorem zKX {t : Tbl} (h : zQX t.page = true) (h2 : zQT t.fields = 0) (h3 : 300 < t.recs.length) : zX0 t = 3 := by unfold zX0; rw [h, if_pos rfl, if_neg (by omega), if_pos h3]
theorem zKY {t : Tbl} (h : zQX t.page = true) (h2 : zQT t.fields = 0) (h3 : ¬ 300 < t.recs.length) : zX0 t = zX6 t.fields t.page t.recs := by unfold zX0; rw [h, if_pos rfl, if_neg (by omega), if_neg h3]
theorem yZS {l : List Fld} (h : zQT l = 0) : l ≠ [] /\ l.all zQr = true /\ (l.map (·.name)).Nodup /\ l.length <= 16 /\ wide l <= 2000 := by
 unfold zQT at h
 split at h
 ·omega
 ·rename_i h1
  split at h
  ·omega
  ·rename_i h2
   split at h
   ·omega
   ·rename_i h3
    simp only [not_or] at h1 h3
    exact ⟨h1.1, by simpa using h1.2, by simpa using h2, by omega, by omega⟩
abbrev yKq (t : Tbl) (f r : SV) : Value := .agg #[.int .i64 t.page, .slice f.a f.len f.cap, .slice r.a r.len r.cap]
theorem zY2 {w : World} {t : Tbl} {f r : SV} (h : zKS w t f r) : Calls prog 12 #[yKq t f r] w fun e w' => e = .returned (.int .i64 (zX0 t)) /\ Pu w w' := by
 refine yZ5 _ _ _ w _ ?_
 refine alB fun w1 hp1 hb1 => ⟨_, cl0 hb1, (yZW t.page w1).mono ?_⟩
 rintro e w2 ⟨rfl, hp2⟩
 have h1 := h.recs.len
 have h3 := h.recs.lim
 refine ⟨_, rfl, Br.of (fun d => ⟨by rw [zKA (by simpa using d)], hp1.trans hp2⟩) (fun d => ⟨_, cl (hp2.blk hb1) 1, (zWf (h.fields.pu (hp1.trans hp2))).mono ?_⟩)⟩
 have hpg : zQX t.page = true := by simpa using d
 rintro e w3 ⟨rfl, hp3⟩
 have hp13 := hp2.trans hp3
 refine ⟨_, rfl, Br.of (fun d1 => ⟨by rw [zJB hpg (zQ5 d1)], hp1.trans hp13⟩) (fun d1 => ⟨_, cl (hp13.blk hb1) 2, Br.of (fun d2 => ⟨by rw [zKX hpg (zQv d1) (by have := zQn d2; omega)], hp1.trans hp13⟩) (fun d2 => ?_)⟩)⟩
 have hvf := zQv d1
 have e0 := zKY hpg hvf (by have := zQg d2; omega)
 refine zQ8 t.recs.length (fun k u w' => u = (k : Int) /\ (∀ x ∈ t.recs.take k, zQx t.fields t.page x = 0) /\ Pu w1 w') ⟨rfl, by simp, hp13⟩ ?_
 rintro k J u w4 hk ⟨hu, hal, hp4⟩ hJ
 obtain rfl : u = (k : Int) := hu
 refine ⟨_, cl (hp4.blk hb1) 2, Br.of (fun d3 => zQl fun w5 hp5 _ => ?_) (fun d3 => ?_)⟩
 ·have hk2 : k < t.recs.length := by have := zQn d3; omega
  obtain ⟨x, hx⟩ := zXD hk2
  have hp15 := hp4.trans hp5
  obtain ⟨a, q, ha, hi, hq, c0, c1⟩ := yWq ((h.recs.pu hp1).pu hp15) hx
  refine ⟨_, cl (hp15.blk hb1) 1, _, cl0 (hp15.blk hb1), _, cl (hp15.blk hb1) 2, a, ha, by omega, by omega, _, c0, _, c1, (zYm t.page ((h.fields.pu hp1).pu hp15) hq).mono ?_⟩
  rintro e w6 ⟨rfl, hp6⟩
  refine ⟨_, rfl, Br.of (fun d4 => ⟨by rw [e0, zZy hal hx (zQ5 d4)], hp1.trans (hp15.trans hp6)⟩) (fun d4 => ?_)⟩
  rw [zQe (by omega) (by omega)]
  refine hJ _ _ hk2 ⟨by omega, fun y hy => ?_, hp15.trans hp6⟩
  rw [zQQ hx, List.mem_append, List.mem_singleton] at hy
  rcases hy with hy | rfl
  ·exact hal y hy
  ·exact zQv d4
 ·have hk2 : k = t.recs.length := by have := zQg d3; omega
  subst hk2
  rw [List.take_length] at hal
  exact ⟨by rw [e0, zZ3 hal], hp1.trans hp4⟩
theorem yQW {w : World} {t : Tbl} {f r : SV} (h : zKS w t f r) (hl : Lim.ok t.fields) : Calls prog 38 #[yKq t f r] w fun e w' => e = .returned (.int .i64 (zX0 t)) /\ Pu w w' := by
 refine yZ8 _ _ _ w _ ?_
 refine alB fun w1 hp1 hb1 => ⟨_, cl0 hb1, (yQe t.page w1).mono ?_⟩
 rintro e w2 ⟨rfl, hp2⟩
 have h1 := h.recs.len
 have h3 := h.recs.lim
 have h1f := h.fields.len
 have h3f := h.fields.lim
 refine ⟨_, rfl, Br.of (fun d => ⟨by rw [zKA (by simpa using d)], hp1.trans hp2⟩) (fun d => ⟨_, cl (hp2.blk hb1) 1, (zWT (h.fields.pu (hp1.trans hp2)) hl).mono ?_⟩)⟩
 have hpg : zQX t.page = true := by simpa using d
 rintro e w3 ⟨rfl, hp3⟩
 have hp13 := hp2.trans hp3
 refine ⟨_, rfl, Br.of (fun d1 => ⟨by rw [zJB hpg (zQ5 d1)], hp1.trans hp13⟩) (fun d1 => ⟨_, cl (hp13.blk hb1) 2, Br.of (fun d2 => ⟨by rw [zKX hpg (zQv d1) (by have := zQn d2; omega)], hp1.trans hp13⟩) (fun d2 => ⟨_, cl (hp13.blk hb1) 2, ?_⟩)⟩)⟩
 have hvf := zQv d1
 obtain ⟨_, hall, _, _, _⟩ := yZS hvf
 have e0 := zKY hpg hvf (by have := zQg d2; omega)
 refine zQ8 t.recs.length (fun k u w' => u = (k : Int) /\ (∀ x ∈ t.recs.take k, zQx t.fields t.page x = 0) /\ Pu w1 w') ⟨rfl, by simp, hp13⟩ ?_
 rintro k J u w4 hk ⟨hu, hal, hp4⟩ hJ
 obtain rfl : u = (k : Int) := hu
 refine Br.of (fun d3 => ?_) (fun d3 => ?_)
 ·have hk2 : k < t.recs.length := by have := zQn d3; omega
  obtain ⟨x, hx⟩ := zXD hk2
  obtain ⟨a, q, ha, hi, hq, c0, c1⟩ := yWq ((h.recs.pu hp1).pu hp4) hx
  have next : ∀ {w6 : World}, Pu w4 w6 -> zQx t.fields t.page x = 0 -> yYm (fun e w' => e = .returned (.int .i64 (zX0 t)) /\ Pu w w') J (some (⟨w.heap.size, 0, none⟩ : Addr)) r ((r.len : Nat) : Int) (k : Int) [] w6 := fun {w6} hp6 h0 => by
   show J (IntKind.i64.wrap ((k : Int) + 1)) w6
   rw [zQe (by omega) (by omega)]
   refine hJ _ _ hk2 ⟨by omega, fun y hy => ?_, hp4.trans hp6⟩
   rw [zQQ hx, List.mem_append, List.mem_singleton] at hy
   rcases hy with hy | rfl
   ·exact hal y hy
   ·exact h0
  have hql := hq.len
  refine ⟨a, ha, by omega, by omega, _, c0, _, c1, yY3 rfl (by kernel_rfl) rfl fun w5 hp5 hs5 hb5 => ⟨_, cl hb5 1, _, cl ((hp4.trans hp5).blk hb1) 1, Br.of (fun d4 => ?_) (fun d4 => ⟨_, cl ((hp4.trans hp5).blk hb1) 1, ?_⟩)⟩⟩
  ·have : zQx t.fields t.page x = 10 := zJM (by have := zQ5 d4; omega)
   exact ⟨by rw [e0, zZy hal hx (by rw [this]; omega), this], hp1.trans (hp4.trans hp5)⟩
  have hlen : x.v.length = t.fields.length := by have := zQv d4; omega
  have hp15 := hp4.trans hp5
  refine zQ8 t.fields.length (fun j u w' => u = (j : Int) /\ ((t.fields.zip x.v).take j).all (fun y => zQK y.1 t.page y.2) = true /\ Pu w5 w') ⟨rfl, rfl, Pu.refl _⟩ ?_
  rintro j J2 u w6 hj ⟨hu, haz, hp6⟩ hJ2
  obtain rfl : u = (j : Int) := hu
  have hp16 := hp15.trans hp6
  refine Br.of (fun d5 => ?_) (fun d5 => ?_)
  ·have hj2 : j < t.fields.length := by have := zQn d5; omega
   obtain ⟨g, hg⟩ := zXD hj2
   obtain ⟨v, hv⟩ := zXD (show j < x.v.length by omega)
   obtain ⟨b, hb, hbi, _, _, c', k0, k1, k2, k3⟩ := zJf ((h.fields.pu hp1).pu hp16) hg
   refine ⟨b, hb, by omega, by omega, _, k0, _, k1, _, k2, _, k3, yY3 rfl s23.symm rfl fun w7 hp7 hs7 hb7 => zQl fun w8 hp8 _ => ?_⟩
   have hp68 := hp7.trans hp8
   have hp18 := hp16.trans hp68
   have hb8 := hp8.blk hb7
   obtain ⟨m, hm, hmi, _, _, v0, v1, v2⟩ := yWp (hq.pu ((hp5.trans hp6).trans hp68)) hv
   refine ⟨_, cl hb8 0, _, cl hb8 1, _, cl hb8 2, _, cl hb8 3, _, cl0 (hp18.blk hb1), q, cl ((hp6.trans hp68).blk hb5) 1, m, hm, by omega, by omega, _, v0, _, v1, _, v2, (yYK g t.page v (hl g (List.mem_of_getElem? hg)) (List.all_eq_true.1 hall g (List.mem_of_getElem? hg)) hpg w8).mono ?_⟩
   rintro e w9 ⟨rfl, hp9⟩
   have hz := yWV hg hv
   refine ⟨_, rfl, Br.of (fun d6 => ?_) (fun d6 => ?_)⟩
   ·have : zJ0 t.fields t.page x.v = false := by unfold zJ0; rw [List.all_eq_false]; exact ⟨_, List.mem_of_getElem? hz, by simpa using d6⟩
    have h1 : zQx t.fields t.page x = 1 := by rw [zZU hlen, this]; rfl
    exact ⟨by rw [e0, zZy hal hx (by rw [h1]; omega), h1], hp1.trans (hp18.trans hp9)⟩
   ·rw [zQe (by omega) (by omega)]
    exact hJ2 _ _ hj2 ⟨by omega, by rw [zZ1 _ hz, haz, show zQK g t.page v = true by simpa using d6]; rfl, (hp6.trans hp68).trans hp9⟩
  ·have hj2 : j = t.fields.length := by have := zQg d5; omega
   have : zJ0 t.fields t.page x.v = true := by unfold zJ0; rw [← haz, List.take_of_length_le (by rw [List.length_zip]; omega)]
   exact next (hp5.trans hp6) (by rw [zZU hlen, this]; rfl)
 ·have hk2 : k = t.recs.length := by have := zQg d3; omega
  subst hk2
  rw [List.take_length] at hal
  exact ⟨by rw [e0, zZ3 hal], hp1.trans hp4⟩
end Go.Proofs.YtcihcbfcgjepfaaGreatDoor
/- Table: lengths and offsets; how large a table is; the law on which tables there are. No condition. -/
namespace Go.Proofs.YtcihcbfcgjepfaaGreatDoor
open Go.Sh Go.RowKit Tryz
theorem yX3 {w : World} {s : SV} {l : List Val} (h : zXH w s l) : Calls prog 91 #[.slice s.a s.len s.cap] w fun e w' => ∃ n : Int, e = .returned (.int .i64 n) /\ Pu w w' := by
 refine yJV _ w _ ?_
 have hlen := h.len
 have hlim := h.lim
 refine zQ8 l.length (fun k t w' => t.2 = (k : Int) /\ Pu w w') ⟨rfl, Pu.refl _⟩ ?_
 rintro k J ⟨t1, t2⟩ w2 hk ⟨ht, hp⟩ hJ
 obtain rfl : t2 = (k : Int) := ht
 dsimp only
 refine Br.of (fun d => ?_) (fun d => ⟨_, rfl, hp⟩)
 have hk2 : k < l.length := by have := zQn d; omega
 obtain ⟨v, hv⟩ := zXD hk2
 obtain ⟨a, ha, hi, _, _, c0, c1, c2⟩ := yWp (h.pu hp) hv
 refine ⟨a, ha, by omega, by omega, _, c2, ?_⟩
 rw [zQe (n := (k : Int) + 1) (by omega) (by omega)]
 exact hJ _ _ hk2 ⟨by dsimp only; omega, hp⟩
theorem yKX {w : World} {t : Tbl} {f r : SV} (h : zKS w t f r) : Calls prog 36 #[yKq t f r] w fun e w' => ∃ n : Int, e = .returned (.int .i64 n) /\ Pu w w' := by
 refine yZM _ _ _ w _ (alB fun w1 hp1 hb1 => ⟨_, cl hb1 1, ?_⟩)
 have hfl := h.fields.len
 have hfm := h.fields.lim
 have hrl := h.recs.len
 have hrm := h.recs.lim
 refine zQ8 t.fields.length (fun k u w' => u.2 = (k : Int) /\ Pu w1 w') ⟨rfl, Pu.refl _⟩ ?_
 rintro k J ⟨u1, u2⟩ w2 hk ⟨hu, hp⟩ hJ
 obtain rfl : u2 = (k : Int) := hu
 dsimp only
 refine ⟨_, cl (hp.blk hb1) 1, Br.of (fun d => ?_) (fun d => ?_)⟩
 ·have hk2 : k < t.fields.length := by have := zQn d; omega
  obtain ⟨x, hx⟩ := zXD hk2
  obtain ⟨a, ha, hi, _, _, c, _⟩ := zJf (h.fields.pu (hp1.trans hp)) hx
  refine ⟨_, cl (hp.blk hb1) 1, a, ha, by omega, by omega, _, c, ?_⟩
  rw [zQe (n := (k : Int) + 1) (by omega) (by omega)]
  exact hJ _ _ hk2 ⟨by dsimp only; omega, hp⟩
 clear hJ J
 refine zQ8 t.recs.length (fun k u w' => u.2 = (k : Int) /\ Pu w1 w') ⟨rfl, hp⟩ ?_
 rintro k J ⟨u1, u2⟩ w2 hk ⟨hu, hp⟩ hJ
 obtain rfl : u2 = (k : Int) := hu
 dsimp only
 refine ⟨_, cl (hp.blk hb1) 2, Br.of (fun d => ?_) (fun d => ⟨_, rfl, hp1.trans hp⟩)⟩
 have hk2 : k < t.recs.length := by have := zQn d; omega
 obtain ⟨x, hx⟩ := zXD hk2
 obtain ⟨a, q, ha, hi, hq, c0, c1⟩ := yWq (h.recs.pu (hp1.trans hp)) hx
 refine ⟨_, cl (hp.blk hb1) 2, a, ha, by omega, by omega, _, c1, (yX3 hq).mono ?_⟩
 rintro e w3 ⟨n, rfl, hp3⟩
 refine ⟨n, rfl, ?_⟩
 rw [zQe (n := (k : Int) + 1) (by omega) (by omega)]
 exact hJ _ _ hk2 ⟨by dsimp only; omega, hp.trans hp3⟩
theorem u55 : prog.underlying 43 = some (.slice 3) := by kernel_rfl
theorem info3 : (prog.info? 3).map (fun i => (i.zero, i.size, i.bytes)) = some (some (.int .i64 0), 1, 8) := by kernel_rfl
def zJb (w0 w : World) (s : SV) (l : List Int) : Prop := zQh w 3 1 s (l.map intV) /\ ∀ b ∈ zQa s, w0.heap.size <= b
theorem zJb.len {w0 w : World} {s : SV} {l : List Int} (h : zJb w0 w s l) : s.len = l.length := by have := h.1.1; simp at this; omega
theorem zJb.pu {w0 w w' : World} {s : SV} {l : List Int} (h : zJb w0 w s l) (hp : Pu w w') : zJb w0 w' s l := ⟨h.1.pu hp, h.2⟩
theorem zJb.nil (w0 w : World) : zJb w0 w ⟨none, 0, 0⟩ [] := ⟨zQh.nil w 3 1, by simp [zQa]⟩
theorem zJb.low {w0 w1 w : World} {s : SV} {l : List Int} (h : zJb w1 w s l) (hz : w0.heap.size <= w1.heap.size) : zJb w0 w s l := ⟨h.1, fun b hb => Nat.le_trans hz (h.2 b hb)⟩
theorem zJb.push {w0 w : World} {s : SV} {l : List Int} (h : zJb w0 w s l) (hz : w0.heap.size <= w.heap.size) {r : Nat} {n : Int} (hr : w.heap[r]? = some (.cells #[.int .i64 n] 3)) (hb : l.length <= 1000000) :
  ∃ (s' : SV) (w' : World), (Builtin.append_ #[43, 43] 43 #[.slice s.a s.len s.cap, .slice (some ⟨r, 0, none⟩) 1 1]).run prog w = .ok (.slice s'.a s'.len s'.cap) w' /\ zJb w0 w' s' (l ++ [n]) /\ Fr (· ∈ zQa s) w w' := by
 have h1 := h.len
 obtain ⟨s', w', hra, hrow, hf, hblk, _⟩ := yWr (P := prog) (ty := 43) u55 info3 rfl h.1 (a := ⟨r, 0, none⟩) (u := .int .i64 n) (by rw [zQs hr]; rfl) rfl (by omega)
 refine ⟨s', w', hra, ⟨by simpa using hrow, fun b hb => ?_⟩, hf⟩
 rcases hblk b hb with h2 | h2
 ·exact h.2 b h2
 ·omega
end Go.Proofs.YtcihcbfcgjepfaaGreatDoor
/- Table: the law on what a value becomes in a field. No condition. -/
namespace Go.Proofs.YtcihcbfcgjepfaaGreatDoor
open Go.Sh Go.RowKit Tryz
theorem zJg {α : Type} (p : α -> Bool) : ∀ l : List α, (l.dropWhile p).dropWhile p = l.dropWhile p
 | [] => rfl
 | a :: l => by
  by_cases h : p a = true
  ·rw [List.dropWhile_cons, if_pos h]; exact zJg p l
  ·rw [List.dropWhile_cons, if_neg h, List.dropWhile_cons, if_neg h]
theorem yZh (l : List UInt8) : zXU (zXU l) = zXU l := by
 unfold zXU; rw [List.reverse_reverse, zJg]
theorem zYy (a b : Val) (w : World) : Calls prog 19 #[zKq a, zKq b] w fun e w' => e = .returned (.bool (decide (a = b))) /\ Pu w w' := by
 refine yZe _ _ _ _ _ _ w _ ?_
 refine alB fun w1 hp1 hb1 => alB fun w2 hp2 hb2 => ?_
 have hp := hp1.trans hp2
 have q1 := hp2.blk hb1
 refine ⟨_, cl0 q1, _, cl0 hb2, Br.of (fun d => ⟨_, cl q1 1, _, cl hb2 1, Br.of (fun d1 => ⟨_, cl q1 2, _, cl hb2 2, ?_, hp⟩) (fun d1 => ⟨?_, hp⟩)⟩) (fun d => ⟨?_, hp⟩)⟩
 ·rw [zZh]
  congr 2
  have e1 : a.kind = b.kind := zQA d
  have e2 : a.n = b.n := zQA d1
  refine zZ7 ⟨fun e3 => ?_, fun e => by rw [e]⟩
  obtain ⟨a1, a2, a3⟩ := a; obtain ⟨b1, b2, b3⟩ := b
  simp only at e1 e2 e3
  subst e1 e2 e3; rfl
 ·rw [decide_eq_false (fun e => zQj d1 (by rw [e]))]
 ·rw [decide_eq_false (fun e => zQj d (by rw [e]))]
end Go.Proofs.YtcihcbfcgjepfaaGreatDoor
/- Table: records of empty values, places of names; the law on them. No condition. -/
namespace Go.Proofs.YtcihcbfcgjepfaaGreatDoor
open Go.Sh Go.RowKit Tryz
theorem u44 : prog.underlying 75 = some (.slice 28) := by kernel_rfl
theorem info25 : (prog.info? 28).map (fun i => (i.zero, i.size, i.bytes)) = some (some (.agg #[.int .i64 0, .int .i64 0, .string ⟨#[]⟩]), 3, 32) := by kernel_rfl
theorem s46 : zXc prog 77 = 2 := by kernel_rfl
theorem zQL (v : Val) : (zXO v).length = 3 := rfl
def zJQ (w0 w : World) (s : SV) (l : List Val) : Prop := zQh w 28 3 s (l.flatMap zXO) /\ ∀ b ∈ zQa s, w0.heap.size <= b
theorem zJQ.len {w0 w : World} {s : SV} {l : List Val} (h : zJQ w0 w s l) : s.len = l.length := h.1.len zQL (by decide)
theorem zJQ.pu {w0 w w' : World} {s : SV} {l : List Val} (h : zJQ w0 w s l) (hp : Pu w w') : zJQ w0 w' s l := ⟨h.1.pu hp, h.2⟩
theorem zJQ.fr {B : Nat -> Prop} {w0 w w' : World} {s : SV} {l : List Val} (h : zJQ w0 w s l) (hf : Fr B w w') (hn : ∀ k ∈ zQa s, ¬ B k) : zJQ w0 w' s l := ⟨h.1.fr hf hn, h.2⟩
theorem zJQ.nil (w0 w : World) : zJQ w0 w ⟨none, 0, 0⟩ [] := ⟨zQh.nil w 28 3, by simp [zQa]⟩
theorem zJQ.low {w0 w1 w : World} {s : SV} {l : List Val} (h : zJQ w1 w s l) (hz : w0.heap.size <= w1.heap.size) : zJQ w0 w s l := ⟨h.1, fun b hb => Nat.le_trans hz (h.2 b hb)⟩
theorem zJQ.push {w0 w : World} {s : SV} {l : List Val} (h : zJQ w0 w s l) (hz : w0.heap.size <= w.heap.size) {r : Nat} {v : Val} {c : Array Value} (hr : w.heap[r]? = some (.cells c 28)) (hc : c = #[.int .i64 v.kind, .int .i64 v.n, .string v.s]) (hb : l.length <= 1000000) :
  ∃ (s' : SV) (w' : World), (Builtin.append_ #[75, 75] 75 #[.slice s.a s.len s.cap, .slice (some ⟨r, 0, none⟩) 1 1]).run prog w = .ok (.slice s'.a s'.len s'.cap) w' /\ zJQ w0 w' s' (l ++ [v]) /\ Fr (· ∈ zQa s) w w' := by
 subst hc
 have h1 := h.len
 obtain ⟨s', w', hra, hrow, hf, hblk, _⟩ := zQV (P := prog) (ty := 75) u44 info25 rfl (by decide) h.1 (A := some ⟨r, 0, none⟩) (m := 1) (c := 1) (news := zXO v) rfl (fun j u hu => ⟨_, rfl, by rw [cl hr]; simpa using hu⟩) (fun u hu => by simp [zXO] at hu; rcases hu with rfl | rfl | rfl <;> rfl) (by omega)
 refine ⟨s', w', hra, ⟨by simpa using hrow, fun b hb => ?_⟩, hf⟩
 rcases hblk b hb with h2 | h2
 ·exact h.2 b h2
 ·omega
structure RdV (w : World) (s : SV) (l : List Val) : Prop where
 len : s.len = l.length
 lim : l.length <= 140737488355328
 get : ∀ i v, l[i]? = some v -> ∃ a, s.a = some a /\ w.cell? ((a.add (i * 3)).add 0) = some (.int .i64 v.kind) /\ w.cell? ((a.add (i * 3)).add 1) = some (.int .i64 v.n) /\ w.cell? ((a.add (i * 3)).add 2) = some (.string v.s)
theorem RdV.pu {w w' : World} {s : SV} {l : List Val} (h : RdV w s l) (hp : Pu w w') : RdV w' s l := ⟨h.len, h.lim, fun i v hv => by
 obtain ⟨a, h1, h2, h3, h4⟩ := h.get i v hv
 exact ⟨a, h1, hp.cell h2, hp.cell h3, hp.cell h4⟩⟩
theorem RdV.of {w : World} {s : SV} {l : List Val} (h : zXH w s l) : RdV w s l := ⟨h.len, by have := h.lim; have := h.len; omega, fun i v hv => by
 obtain ⟨a, h1, _, _, _, h2, h3, h4⟩ := yWp h hv
 exact ⟨a, h1, h2, h3, h4⟩⟩
theorem zJQ.rd {w0 w : World} {s : SV} {l : List Val} (h : zJQ w0 w s l) (hb : l.length <= 140737488355328) : RdV w s l := ⟨h.len, hb, fun i v hv => by
 obtain ⟨a, h1, _, h2⟩ := h.1.elem zQL hv (o := 0) rfl
 obtain ⟨a', h1', _, h3⟩ := h.1.elem zQL hv (o := 1) rfl
 obtain ⟨a'', h1'', _, h4⟩ := h.1.elem zQL hv (o := 2) rfl
 rw [h1] at h1' h1''; cases h1'; cases h1''
 exact ⟨a, h1, h2, h3, h4⟩⟩
theorem zKa {α : Type} {a b : List α} {k : Nat} (h : a.take k = b.take k) {x y : α} (hx : a[k]? = some x) (hy : b[k]? = some y) (e : x = y) : a.take (k + 1) = b.take (k + 1) := by
 rw [zQQ hx, zQQ hy, h, e]
theorem zVD {w : World} {s t : SV} {a b : List Val} (ha : RdV w s a) (hb : RdV w t b) : Calls prog 117 #[.slice s.a s.len s.cap, .slice t.a t.len t.cap] w fun e w' => e = .returned (.bool (decide (a = b))) /\ Pu w w' := by
 refine yQP _ _ w _ ?_
 have hla := ha.len
 have hlb := hb.len
 have hlim := ha.lim
 refine Br.of (fun d => ⟨by rw [decide_eq_false (fun e => zQ5 d (by rw [hla, hlb, e]))], Pu.refl _⟩) (fun d => ?_)
 have hab : a.length = b.length := by have := zQv d; omega
 refine zQ8 a.length (fun k t w' => t = (k : Int) /\ a.take k = b.take k /\ Pu w w') ⟨rfl, by simp, Pu.refl _⟩ ?_
 rintro k J t w2 hk ⟨ht, he, hp⟩ hJ
 obtain rfl : t = (k : Int) := ht
 refine Br.of (fun d1 => zQl fun w3 hp3 _ => ?_) (fun d1 => ?_)
 ·have hk2 : k < a.length := by have := zQn d1; omega
  obtain ⟨x, hx⟩ := zXD hk2
  obtain ⟨y, hy⟩ := zXD (show k < b.length by omega)
  obtain ⟨p, hpa, c0, c1, c2⟩ := ((ha.pu hp).pu hp3).get k x hx
  obtain ⟨q, hqa, e0, e1, e2⟩ := ((hb.pu hp).pu hp3).get k y hy
  refine ⟨p, hpa, by omega, by omega, _, c0, _, c1, _, c2, q, hqa, by omega, by omega, _, e0, _, e1, _, e2, (zYy x y w3).mono ?_⟩
  rintro e w4 ⟨rfl, hp4⟩
  refine ⟨_, rfl, Br.of (fun d2 => ⟨?_, (hp.trans hp3).trans hp4⟩) (fun d2 => ?_)⟩
  ·rw [decide_eq_false]
   intro e
   subst e
   rw [hx] at hy
   cases hy
   simp at d2
  ·rw [zQe (by omega) (by omega)]
   exact hJ _ _ hk2 ⟨by omega, zKa he hx hy (by simpa using d2), (hp.trans hp3).trans hp4⟩
 ·have hk2 : k = a.length := by have := zQg d1; omega
  subst hk2
  rw [List.take_length, hab, List.take_length] at he
  exact ⟨by rw [decide_eq_true he], hp⟩
theorem zVv {w : World} {s t : SV} {x y : Bool} {a b : List Val} (ha : RdV w s a) (hb : RdV w t b) : Calls prog 60 #[.agg #[.bool x, .slice s.a s.len s.cap], .agg #[.bool y, .slice t.a t.len t.cap]] w fun e w' => e = .returned (.bool (decide (x = y) && decide (a = b))) /\ Pu w w' := by
 refine yJT _ _ _ _ w _ (alB fun w1 hp1 hb1 => alB fun w2 hp2 hb2 => ?_)
 have hp := hp1.trans hp2
 have q1 := hp2.blk hb1
 refine ⟨_, cl0 q1, _, cl0 hb2, Br.of (fun d => ⟨_, cl q1 1, _, cl hb2 1, (zVD (ha.pu hp) (hb.pu hp)).mono ?_⟩) (fun d => ⟨?_, hp⟩)⟩
 ·rintro e w3 ⟨rfl, hp3⟩
  exact ⟨_, rfl, by rw [decide_eq_true (p := x = y) (by simpa using d)]; rfl, hp.trans hp3⟩
 ·rw [decide_eq_false (p := x = y) (by simpa using d)]; rfl
theorem yV0 (n : Int) (w : World) : Calls prog 37 #[.int .i64 n] w fun e w' => e = .returned (zKq ⟨2, n, ⟨#[]⟩⟩) /\ Pu w w' := by
 refine yJ0 _ w _ (yY3 rfl s25.symm rfl fun w1 hp1 _ hb1 => ?_)
 exact ⟨_, cl hb1 0, _, cl hb1 1, _, cl hb1 2, rfl, hp1⟩
def zVn (l : List Fld) (s : ByteArray) : Option Nat := l.findIdx? fun f => decide (f.name = s)
def idxK (l : List Fld) (s : ByteArray) : Int := ((zVn l s).getD 0 : Nat)
theorem yZE {w : World} {s : SV} {l : List Fld} (h : zXH w s l) (nm : ByteArray) : Calls prog 51 #[.slice s.a s.len s.cap, .string nm] w fun e w' => e = .returned (.tuple #[.int .i64 (idxK l nm), .bool (zVn l nm).isSome]) /\ Pu w w' := by
 refine yJq _ _ w _ (alB fun w1 hp1 hb1 => ?_)
 have tells : yQ2 l 105 #[.pointer (some ⟨w.heap.size, 0, none⟩)] (fun f => decide (f.name = nm)) w1 := ⟨by kernel_rfl, fun f hf w2 hp2 => by
  refine yXv _ _ _ _ _ w2 _ (alB fun w3 hp3 hb3 => ⟨_, cl0 hb3, _, cl0 ((hp2.trans hp3).blk hb1), ?_, hp3⟩)
  rw [zZh]⟩
 refine (zK7 (h.pu hp1) tells).mono ?_
 rintro e w2 ⟨rfl, hp2⟩
 refine ⟨_, rfl, _, w2, yYp _ _ _ _ _ _, ?_, hp1.trans hp2⟩
 unfold idxK zVn
 cases l.findIdx? fun f => decide (f.name = nm) with
 | none => rfl
 | some k =>
  dsimp only
  rw [Int.max_eq_left (by omega), decide_eq_true (by omega)]; rfl
end Go.Proofs.YtcihcbfcgjepfaaGreatDoor
/- Desks: data, and what each call does with them, in plain words. No condition. -/
namespace Go.Proofs.YtcihcbfcgjepfaaGreatDoor
open Go.Sh Go.RowKit Tryz
structure Usr where
 mode : Int
 at_ : Int
 ch : List (Int × (Rec × Rec))
 ap : List Rec
structure Dsk where
 page : Int
 flds : List Fld
 recs : List Rec
 us : Nat -> Usr
 lk : Int -> Option Int
def Usr.new : Usr := ⟨0, 0, [], []⟩
def Dsk.new (t : Tbl) : Dsk := ⟨t.page, t.fields, t.recs, fun _ => Usr.new, fun _ => none⟩
def Dsk.tbl (σ : Dsk) : Tbl := ⟨σ.page, σ.flds, σ.recs⟩
def Dsk.setU (σ : Dsk) (u : Nat) (x : Usr) : Dsk := { σ with us := fun v => if v = u then x else σ.us v }
def Usr.emp (x : Usr) : Bool := decide (x.ch.length + x.ap.length = 0)
def Usr.rows (x : Usr) : Bool := decide (x.mode = 1) || decide (x.mode = 2)
def isU (u : Int) : Bool := decide (0 <= u) && decide (u < 4)
def zZO (u m : Int) (σ : Dsk) : Int := if ¬ isU u = true then 1 else if m < 0 ∨ m > 4 then 1 else if (σ.us u.toNat).emp = false then 9 else 0
def zJd (u m : Int) (σ : Dsk) : Dsk := if zZO u m σ = 0 then σ.setU u.toNat { σ.us u.toNat with mode := m } else σ
def zWk (σ : Dsk) (u : Nat) (k : Int) : Option Rec :=
 if k < 0 then (σ.us u).ap[(-k - 1).toNat]? else if k < 1 ∨ k > σ.recs.length then none else match AL.get (σ.us u).ch k with
  | some c => some c.2
  | none => σ.recs[(k - 1).toNat]?
def zKc (a b c : Val) : Bool := !decide (a = b) && (!decide (c = a) && !decide (c = b))
def zVA (a b c : Bool) : Bool := !decide (a = b) && (!decide (c = a) && !decide (c = b))
def zZ6 : List Val -> List Val -> List Val -> Bool
 | a :: xs, b :: bs, c :: cs => zKc a b c || zZ6 xs bs cs
 | _, _, _ => false
def zV5 (c : Rec × Rec) (r : Rec) : Bool := zVA c.1.gone c.2.gone r.gone || zZ6 c.1.v c.2.v r.v
theorem zZA (a b c : Bool) : zVA a b c = false := by cases a <;> cases b <;> cases c <;> rfl
def zJJ (σ : Dsk) (k : Int) : Rec := σ.recs.getD (k - 1).toNat default
def zWi (σ : Dsk) (u : Nat) : List Nat := (List.range σ.recs.length).filter fun i => (AL.get (σ.us u).ch ((i : Int) + 1)).isSome
def zJA (σ : Dsk) (u : Nat) : List Nat := (List.range σ.recs.length).filter fun i => match AL.get (σ.us u).ch ((i : Int) + 1) with
 | some c => zV5 c (zJJ σ ((i : Int) + 1))
 | none => false
def zKs : List Val -> List Val -> List Val -> List Val
 | a :: xs, b :: bs, c :: cs => (if a = b then c else b) :: zKs xs bs cs
 | _, _, cs => cs
theorem zVg : ∀ a b c : List Val, (zKs a b c).length = c.length
 | [], _, c => rfl
 | _ :: _, [], c => rfl
 | _ :: _, _ :: _, [] => rfl
 | a :: xs, b :: bs, c :: cs => by simp [zKs, zVg xs bs cs]
def zZl (c : Rec × Rec) (r : Rec) : Rec := ⟨if c.1.gone = c.2.gone then r.gone else c.2.gone, zKs c.1.v c.2.v r.v⟩
def zXf (ch : List (Int × (Rec × Rec))) (l : List Rec) : List Rec := l.mapIdx fun i r => match AL.get ch ((i : Int) + 1) with
 | some c => zZl c r
 | none => r
theorem zXd (ch : List (Int × (Rec × Rec))) (l : List Rec) : (zXf ch l).length = l.length := by simp [zXf]
def zY9 (σ : Dsk) (u : Nat) : Bool := (σ.us u).ch.any fun c => match σ.lk c.1 with
 | some v => !decide (v = (u : Int))
 | none => false
def zXG (u : Nat) (σ : Dsk) : Dsk := { σ.setU u { σ.us u with ch := [], ap := [] } with lk := fun k => if σ.lk k = some (u : Int) then none else σ.lk k }
def zXN (u : Nat) (force : Bool) (σ : Dsk) : Int := if force = false /\ zJA σ u ≠ [] then 13 else if zY9 σ u = true then 12 else 0
def zJ3 (u : Nat) (σ : Dsk) : List Int := (List.range (σ.us u).ap.length).map fun (i : Nat) => ((σ.recs.length : Int) + i) + 1
def zXr (u : Nat) (σ : Dsk) : Dsk :=
 let x := σ.us u
 zXG u ({ σ with recs := zXf x.ch σ.recs ++ x.ap }.setU u { x with at_ := if x.at_ < 0 then (σ.recs.length : Int) - x.at_ else x.at_ })
def zZq (u : Nat) (force : Bool) (σ : Dsk) : Dsk := if zXN u force σ = 0 then zXr u σ else σ
def zXy (u : Nat) (σ : Dsk) : Int := if (σ.us u).rows = false ∨ (σ.us u).emp = true then 0 else zXN u false σ
def zXi (u : Nat) (σ : Dsk) : Dsk := if (σ.us u).rows = false ∨ (σ.us u).emp = true then σ else zZq u false σ
def storeE (u : Int) (force : Bool) (σ : Dsk) : Int := if isU u = true then zXN u.toNat force σ else 1
def zKN (u : Int) (force : Bool) (σ : Dsk) : List Int := if storeE u force σ = 0 then zJ3 u.toNat σ else []
def zQY (u : Int) (force : Bool) (σ : Dsk) : Dsk := if isU u = true then zZq u.toNat force σ else σ
def goC (u k : Int) (σ : Dsk) : Int := if ¬ isU u = true then 1 else if zWk σ u.toNat k = none then 4 else if k = (σ.us u.toNat).at_ then 0 else zXy u.toNat σ
def goS (u k : Int) (σ : Dsk) : Dsk := if goC u k σ ≠ 0 then σ else
 let σ' := if k = (σ.us u.toNat).at_ then σ else zXi u.toNat σ
 σ'.setU u.toNat { σ'.us u.toNat with at_ := k }
def allN (σ : Dsk) : Nat := σ.recs.length + ((σ.us 0).ap.length + (σ.us 1).ap.length + (σ.us 2).ap.length + (σ.us 3).ap.length)
def zQR (u : Nat) (σ : Dsk) : Int := let x := σ.us u
 if x.mode = 2 ∨ x.mode = 4 ∨ x.at_ < 0 then 0 else match σ.lk x.at_ with
  | some v => if v = (u : Int) then 0 else 12
  | none => 0
def zX4 (u : Nat) (σ : Dsk) : Dsk := let x := σ.us u
 if x.mode = 2 ∨ x.mode = 4 ∨ x.at_ < 0 ∨ x.mode = 0 then σ else { σ with lk := fun k => if k = x.at_ then some (u : Int) else σ.lk k }
def zXq (u : Nat) (f : Rec -> Rec) (σ : Dsk) : Dsk := let x := σ.us u
 if x.at_ < 0 then σ.setU u { x with ap := x.ap.modify (-x.at_ - 1).toNat f }
 else if x.mode = 0 then { σ with recs := σ.recs.modify (x.at_ - 1).toNat f }
 else let c := (AL.get x.ch x.at_).getD (zJJ σ x.at_, zJJ σ x.at_)
  (zX4 u σ).setU u { x with ch := AL.put x.ch x.at_ (c.1, f c.2) }
def setVal (i : Nat) (v : Val) (r : Rec) : Rec := { r with v := r.v.set i v }
def zZf (g : Bool) (r : Rec) : Rec := { r with gone := g }
def zYc (u : Int) (field : ByteArray) (v : Val) (σ : Dsk) : Int := if ¬ isU u = true then 1 else if (σ.us u.toNat).at_ = 0 then 9 else match zVn σ.flds field with
 | none => 4
 | some i => if (zJu (σ.flds.getD i default) σ.page v).2 ≠ 0 then (zJu (σ.flds.getD i default) σ.page v).2 else zQR u.toNat σ
def yXS (u : Int) (field : ByteArray) (v : Val) (σ : Dsk) : Dsk := if zYc u field v σ = 0 then match zVn σ.flds field with
 | none => σ
 | some i => zXq u.toNat (setVal i (zJu (σ.flds.getD i default) σ.page v).1) σ
 else σ
def zJo (u : Int) (σ : Dsk) : Int := if ¬ isU u = true then 1 else if (σ.us u.toNat).at_ = 0 then 9 else zQR u.toNat σ
def zKZ (u : Int) (g : Bool) (σ : Dsk) : Dsk := if zJo u σ = 0 then zXq u.toNat (zZf g) σ else σ
def zJ7 (σ : Dsk) (r : Option Rec) (field : ByteArray) : Val × Int := match r, zVn σ.flds field with
 | some r, some i => (r.v.getD i noV, 0)
 | _, _ => (noV, 4)
def yKs (k : Int) (field : ByteArray) (σ : Dsk) : Val × Int := if k < 1 ∨ k > σ.recs.length then (noV, 4) else zJ7 σ (some (zJJ σ k)) field
def uC (u : Int) : Int := if isU u = true then 0 else 1
def zJt (u : Nat) (σ : Dsk) : Dsk := zXG u (σ.setU u { σ.us u with at_ := if (σ.us u).at_ < 0 then 0 else (σ.us u).at_ })
def zYw (u : Int) (σ : Dsk) : Nat := if isU u = true then (σ.us u.toNat).ch.length + (σ.us u.toNat).ap.length else 0
def zZe (u : Int) (σ : Dsk) : Dsk := if isU u = true then zJt u.toNat σ else σ
end Go.Proofs.YtcihcbfcgjepfaaGreatDoor
/- Desks: what holds of a desk throughout, in plain words. No condition but those stated. -/
namespace Go.Proofs.YtcihcbfcgjepfaaGreatDoor
open Go.Sh Go.RowKit Tryz
structure Inv (σ : Dsk) : Prop where
 pg : zQX σ.page = true
 vf : zQT σ.flds = 0
 gr : ∀ r ∈ σ.recs, zQx σ.flds σ.page r = 0
 ga : ∀ u, u < 4 -> ∀ r ∈ (σ.us u).ap, zQx σ.flds σ.page r = 0
 gc : ∀ u, u < 4 -> ∀ c ∈ (σ.us u).ch, (zQx σ.flds σ.page c.2.1 = 0 /\ zQx σ.flds σ.page c.2.2 = 0) /\ 1 <= c.1 /\ c.1 <= σ.recs.length
 cn : ∀ u, u < 4 -> ((σ.us u).ch.map Prod.fst).Nodup
 at_ : ∀ u, u < 4 -> (σ.us u).at_ <= σ.recs.length /\ -(σ.us u).at_ <= (σ.us u).ap.length
 rw_ : ∀ u, u < 4 -> (σ.us u).rows = true -> (σ.us u).ap ≠ [] -> (σ.us u).ap.length = 1 /\ (σ.us u).at_ = -1
 nn : allN σ <= 300
 lr : ∀ k v, σ.lk k = some v -> 1 <= k /\ k <= σ.recs.length /\ 0 <= v /\ v < 4
theorem zQO {l : List Fld} (h : zQT l = 0) : l ≠ [] /\ l.all zQr = true /\ l.length <= 16 := by
 unfold zQT at h
 split at h
 ·cases h
 ·next h1 =>
  split at h
  ·cases h
  ·split at h
   ·cases h
   ·next h2 h3 => exact ⟨fun e => h1 (.inl e), by simpa using fun e => h1 (.inr e), by omega⟩
theorem zWu {f : Fld} (h : zQr f = true) : zWE f.kind /\ zWE f.width /\ f.name.size <= 10 := by
 unfold zQr zXE zKH at h
 simp only [Bool.and_eq_true, decide_eq_true_eq] at h
 obtain ⟨⟨⟨⟨_, h2⟩, _⟩, _⟩, h3⟩ := h
 refine ⟨?_, ?_, h2⟩ <;> unfold zWE <;> (repeat' split at h3) <;> (try simp only [Bool.and_eq_true, decide_eq_true_eq] at h3) <;> first | omega | cases h3
theorem zQz {l : List Fld} {p : Int} {r : Rec} (h : zQx l p r = 0) : r.v.length = l.length := by
 by_cases e : r.v.length = l.length
 ·exact e
 ·rw [zJM e] at h; cases h
theorem Inv.f16 {σ : Dsk} (h : Inv σ) : σ.flds.length <= 16 := (zQO h.vf).2.2
theorem Inv.fB {σ : Dsk} (h : Inv σ) {f : Fld} (hf : f ∈ σ.flds) : zQr f = true := List.all_eq_true.1 (zQO h.vf).2.1 f hf
theorem Inv.r300 {σ : Dsk} (h : Inv σ) : σ.recs.length <= 300 := Nat.le_trans (Nat.le_add_right _ _) h.nn
theorem Inv.a300 {σ : Dsk} (h : Inv σ) {u : Nat} (hu : u < 4) : (σ.us u).ap.length <= 300 := by
 have := h.nn
 unfold allN at this
 rcases (by omega : u = 0 ∨ u = 1 ∨ u = 2 ∨ u = 3) with rfl | rfl | rfl | rfl <;> omega
end Go.Proofs.YtcihcbfcgjepfaaGreatDoor
/- Desks: right records stay right. No condition but those stated. -/
namespace Go.Proofs.YtcihcbfcgjepfaaGreatDoor
open Go.Sh Go.RowKit Tryz
theorem zZs {l : List Fld} {p : Int} {r : Rec} : zQx l p r = 0 ↔ r.v.length = l.length /\ ∀ (i : Nat) (f : Fld) (v : Val), l[i]? = some f -> r.v[i]? = some v -> zQK f p v = true := by
 constructor
 ·intro h
  refine ⟨zQz h, fun i f v hf hv => ?_⟩
  unfold zQx at h
  rw [if_neg (by simp [zQz h])] at h
  split at h
  ·next ha =>
   have := List.all_eq_true.1 ha (f, v) (List.mem_of_getElem? (i := i) (by rw [List.getElem?_zip_eq_some]; exact ⟨hf, hv⟩))
   exact this
  ·cases h
 ·rintro ⟨h1, h2⟩
  unfold zQx
  rw [if_neg (by simp [h1]), if_pos]
  refine List.all_eq_true.2 fun x hx => ?_
  obtain ⟨i, hi⟩ := List.getElem?_of_mem hx
  obtain ⟨a, b⟩ := List.getElem?_zip_eq_some.1 hi
  exact h2 i x.1 x.2 a b
theorem yKF {f : Fld} {p : Int} {v : Val} (h : (zJu f p v).2 = 0) : zQK f p (zJu f p v).1 = true := by
 cases hB : zQr f && zQX p
 ·rw [zJY hB] at h; simp at h
 by_cases hv : zXb v ≠ 0
 ·rw [zKi hB hv] at h; exact absurd h hv
 have hv : zXb v = 0 := by simpa using hv
 rw [zJk hB hv] at h ⊢
 have hfB : zQr f = true := by simp at hB; exact hB.1
 by_cases hk : v.kind = 0
 ·unfold zXR at h ⊢
  rw [if_pos hk] at h ⊢
  by_cases hn : f.null = true
  ·rw [if_pos hn]
   unfold zQK
   rw [if_neg (by simp [hv]), if_pos hk]; exact hn
  ·rw [if_neg hn] at h; simp at h
 by_cases hk2 : v.kind ≠ (zXY f).kind
 ·unfold zXR at h; rw [if_neg hk, if_pos hk2] at h; simp at h
 by_cases h4 : f.kind = 4
 ·obtain ⟨wl, wh⟩ := zVj hfB h4
  have e1 : zXR f p v = if zX3 (zXU (v.s.data.toList.take f.width.toNat)) p then (⟨4, 0, bs (zXU (v.s.data.toList.take f.width.toNat))⟩, 0) else (noV, 10) := by
   unfold zXR; rw [if_neg hk, if_neg hk2, if_pos h4]
  cases ht : zX3 (zXU (v.s.data.toList.take f.width.toNat)) p
  ·rw [e1, ht] at h; simp at h
  rw [e1, ht, if_pos rfl]
  have hbl := zYG (v.s.data.toList.take f.width.toNat)
  have htl := List.length_take_le f.width.toNat v.s.data.toList
  have hb2 := yZh (v.s.data.toList.take f.width.toNat)
  generalize zXU (v.s.data.toList.take f.width.toNat) = B at *
  have hvB : zXb ⟨4, 0, bs B⟩ = 0 := by
   rw [zXQ, if_neg (by dsimp only; rw [zXu]; omega)]; rfl
  unfold zQK
  rw [if_neg (by simp [hvB]), if_neg (show ¬ (4 : Int) = 0 by decide), if_neg (by omega), if_neg (by simp [h4]), if_neg (by omega), if_pos h4]
  rw [zJp, hb2, ht, zXu, decide_eq_true rfl, decide_eq_true (show ((B.length : Nat) : Int) <= f.width by omega)]; rfl
 ·unfold zXR at h ⊢
  rw [if_neg hk, if_neg hk2, if_neg h4] at h ⊢
  cases hf : zQK f p v
  ·rw [hf] at h; simp at h
  ·simp [hf]
theorem yXJ {l : List Fld} {p : Int} {r : Rec} (h : zQx l p r = 0) (g : Bool) : zQx l p (zZf g r) = 0 := h
theorem yZD {l : List Fld} {p : Int} {r : Rec} (h : zQx l p r = 0) {i : Nat} {v : Val} (hv : ∀ f, l[i]? = some f -> zQK f p v = true) : zQx l p (setVal i v r) = 0 := by
 obtain ⟨h1, h2⟩ := zZs.1 h
 refine zZs.2 ⟨by simp [setVal, h1], fun j f x hf hx => ?_⟩
 replace hx : (r.v.set i v)[j]? = some x := hx
 rw [List.getElem?_set] at hx
 split at hx
 ·next e =>
  subst e
  split at hx
  ·cases hx; exact hv f hf
  ·cases hx
 ·exact h2 j f x hf hx
theorem yJN : ∀ {a b c : List Val} {i : Nat} {z : Val}, (zKs a b c)[i]? = some z -> c[i]? = some z ∨ b[i]? = some z
 | [], b, c, i, z, h => by cases b <;> cases c <;> exact .inl h
 | x :: a, [], c, i, z, h => by cases c <;> exact .inl h
 | x :: a, y :: b, [], i, z, h => .inl h
 | x :: a, y :: b, w :: c, 0, z, h => by
  simp only [zKs, List.getElem?_cons_zero, Option.some.injEq] at h ⊢
  by_cases e : x = y
  ·rw [if_pos e] at h; exact .inl h
  ·rw [if_neg e] at h; exact .inr h
 | x :: a, y :: b, w :: c, i + 1, z, h => by
  simp only [zKs, List.getElem?_cons_succ] at h ⊢
  exact yJN h
theorem zYK {l : List Fld} {p : Int} {c : Rec × Rec} {r : Rec} (h2 : zQx l p c.2 = 0) (h : zQx l p r = 0) : zQx l p (zZl c r) = 0 := by
 obtain ⟨a1, a2⟩ := zZs.1 h
 obtain ⟨b1, b2⟩ := zZs.1 h2
 refine zZs.2 ⟨by show (zKs c.1.v c.2.v r.v).length = _; rw [zVg, a1], fun i f v hf hv => ?_⟩
 rcases yJN hv with hv | hv
 ·exact a2 i f v hf hv
 ·exact b2 i f v hf hv
end Go.Proofs.YtcihcbfcgjepfaaGreatDoor
/- Desks: what holds of a desk holds behind each call. No condition but those stated. -/
namespace Go.Proofs.YtcihcbfcgjepfaaGreatDoor
open Go.Sh Go.RowKit Tryz
variable {σ : Dsk} {u : Nat}
def Dsk.put (σ : Dsk) (u : Nat) (recs : List Rec) (x : Usr) (lk : Int -> Option Int) : Dsk := ({ σ with recs := recs, lk := lk } : Dsk).setU u x
theorem Inv.chg (h : Inv σ) (hu : u < 4) {recs : List Rec} {x : Usr} {lk : Int -> Option Int} (hr : ∀ r ∈ recs, zQx σ.flds σ.page r = 0) (hlen : σ.recs.length <= recs.length) (ha : ∀ r ∈ x.ap, zQx σ.flds σ.page r = 0)
  (hc : ∀ c ∈ x.ch, (zQx σ.flds σ.page c.2.1 = 0 /\ zQx σ.flds σ.page c.2.2 = 0) /\ 1 <= c.1 /\ c.1 <= recs.length) (hn : (x.ch.map Prod.fst).Nodup) (hat : x.at_ <= recs.length /\ -x.at_ <= x.ap.length)
  (hrw : x.rows = true -> x.ap ≠ [] -> x.ap.length = 1 /\ x.at_ = -1) (hN : recs.length + x.ap.length <= σ.recs.length + (σ.us u).ap.length ∨ (allN σ < 300 /\ recs.length + x.ap.length <= σ.recs.length + (σ.us u).ap.length + 1))
  (hl : ∀ k v, lk k = some v -> 1 <= k /\ k <= recs.length /\ 0 <= v /\ v < 4) : Inv (σ.put u recs x lk) := by
 have us : ∀ v, (σ.put u recs x lk).us v = if v = u then x else σ.us v := fun v => rfl
 refine ⟨h.pg, h.vf, hr, fun v hv r hr' => ?_, fun v hv c hc' => ?_, fun v hv => ?_, fun v hv => ?_, fun v hv h1 h2 => ?_, ?_, hl⟩
 ·rw [us] at hr'
  by_cases e : v = u
  ·rw [if_pos e] at hr'; exact ha r hr'
  ·rw [if_neg e] at hr'; exact h.ga v hv r hr'
 ·rw [us] at hc'
  by_cases e : v = u
  ·rw [if_pos e] at hc'; exact hc c hc'
  ·rw [if_neg e] at hc'
   have h1 := h.gc v hv c hc'
   exact ⟨h1.1, h1.2.1, by show c.1 <= (recs.length : Int); omega⟩
 ·rw [us]
  by_cases e : v = u
  ·rw [if_pos e]; exact hn
  ·rw [if_neg e]; exact h.cn v hv
 ·rw [us]
  by_cases e : v = u
  ·rw [if_pos e]; exact hat
  ·rw [if_neg e]
   have h1 := h.at_ v hv
   exact ⟨by show (σ.us v).at_ <= (recs.length : Int); omega, h1.2⟩
 ·rw [us] at h1 h2 ⊢
  by_cases e : v = u
  ·rw [if_pos e] at h1 h2 ⊢; exact hrw h1 h2
  ·rw [if_neg e] at h1 h2 ⊢; exact h.rw_ v hv h1 h2
 ·have h1 := h.nn
  unfold allN at h1 hN ⊢
  simp only [us]
  have eR : (σ.put u recs x lk).recs = recs := rfl
  rw [eR]
  rcases (by omega : u = 0 ∨ u = 1 ∨ u = 2 ∨ u = 3) with rfl | rfl | rfl | rfl <;> simp <;> omega
theorem zK2 (x : Usr) : σ.setU u x = σ.put u σ.recs x σ.lk := rfl
theorem Inv.mode (h : Inv σ) (v m : Int) : Inv (zJd v m σ) := by
 unfold zJd
 split
 ·next hc =>
  unfold zZO at hc
  split at hc
  ·cases hc
  ·next hv =>
   split at hc
   ·cases hc
   ·split at hc
    ·cases hc
    ·next he =>
     have hv : isU v = true := by simpa using hv
     have hu : v.toNat < 4 := by simp [isU] at hv; omega
     have he : (σ.us v.toNat).emp = true := by simpa using he
     have hap : (σ.us v.toNat).ap = [] := by
      simp [Usr.emp] at he; exact he.2
     rw [zK2]
     refine h.chg hu h.gr (Nat.le_refl _) (h.ga _ hu) (h.gc _ hu) (h.cn _ hu) (h.at_ _ hu) (fun _ e => absurd hap e) (.inl (Nat.le_refl _)) h.lr
 ·exact h
theorem zK4 (h : Inv σ) (hu : u < 4) : ∀ r ∈ zXf (σ.us u).ch σ.recs, zQx σ.flds σ.page r = 0 := fun r hr => by
 obtain ⟨i, hi⟩ := List.getElem?_of_mem hr
 unfold zXf at hi
 rw [List.getElem?_mapIdx] at hi
 obtain ⟨r0, h0, e⟩ := Option.map_eq_some_iff.1 hi
 have g0 := h.gr r0 (List.mem_of_getElem? h0)
 cases hg : AL.get (σ.us u).ch ((i : Int) + 1) with
 | none => rw [hg] at e; rw [← e]; exact g0
 | some c =>
  rw [hg] at e
  rw [← e]
  exact zYK (h.gc u hu _ (AL.get_mem hg)).1.2 g0
theorem Inv.stored (h : Inv σ) (hu : u < 4) : Inv (zXr u σ) := by
 have hat := h.at_ u hu
 have e : zXr u σ = σ.put u (zXf (σ.us u).ch σ.recs ++ (σ.us u).ap) { σ.us u with at_ := if (σ.us u).at_ < 0 then (σ.recs.length : Int) - (σ.us u).at_ else (σ.us u).at_, ch := [], ap := [] } fun k => if σ.lk k = some (u : Int) then none else σ.lk k := by
  simp only [zXr, zXG, Dsk.put, Dsk.setU, Dsk.mk.injEq, true_and, and_true]
  funext v
  by_cases e : v = u
  ·simp [e]
  ·simp [e]
 rw [e]
 refine h.chg hu (fun r hr => ?_) (by rw [List.length_append, zXd]; omega) (by simp) (by simp) (by simp) ⟨?_, ?_⟩ (by simp) (.inl (by rw [List.length_append, zXd]; simp)) fun k v hk => ?_
 ·rcases List.mem_append.1 hr with hr | hr
  ·exact zK4 h hu r hr
  ·exact h.ga u hu r hr
 ·rw [List.length_append, zXd]
  show (if (σ.us u).at_ < 0 then (σ.recs.length : Int) - (σ.us u).at_ else (σ.us u).at_) <= _
  split <;> omega
 ·show -(if (σ.us u).at_ < 0 then (σ.recs.length : Int) - (σ.us u).at_ else (σ.us u).at_) <= 0
  split <;> omega
 ·rw [List.length_append, zXd]
  split at hk
  ·cases hk
  ·have := h.lr k v hk; omega
theorem Inv.store (h : Inv σ) (hu : u < 4) (f : Bool) : Inv (zZq u f σ) := by
 unfold zZq; split
 ·exact h.stored hu
 ·exact h
theorem Inv.storeE (h : Inv σ) (v : Int) (f : Bool) : Inv (zQY v f σ) := by
 unfold zQY; split
 ·next hv => exact h.store (by simp [isU] at hv; omega) f
 ·exact h
theorem Inv.leave (h : Inv σ) (hu : u < 4) : Inv (zXi u σ) := by
 unfold zXi; split
 ·exact h
 ·exact h.store hu false
theorem yJ6 (u : Nat) (σ : Dsk) : ((zXr u σ).us u).ap = [] /\ ((zXr u σ).us u).ch = [] := by simp [zXr, zXG, Dsk.setU]
theorem yJK (h : zXy u σ = 0) (hr : (σ.us u).rows = true) : ((zXi u σ).us u).emp = true := by
 unfold zXy at h
 unfold zXi
 split
 ·next he =>
  rcases he with he | he
  ·rw [hr] at he; cases he
  ·exact he
 ·next he =>
  rw [if_neg he] at h
  rw [zZq, if_pos h]
  obtain ⟨a, b⟩ := yJ6 u σ
  simp [Usr.emp, a, b]
theorem yKg (u : Nat) (σ : Dsk) : σ.recs.length <= (zXi u σ).recs.length := by
 unfold zXi zZq
 split
 ·exact Nat.le_refl _
 ·split
  ·show _ <= (zXf (σ.us u).ch σ.recs ++ (σ.us u).ap).length
   rw [List.length_append, zXd]; omega
  ·exact Nat.le_refl _
theorem yX6 (h : zXy u σ ≠ 0) : zXi u σ = σ := by
 unfold zXy at h
 unfold zXi
 split
 ·rfl
 ·next he =>
  rw [if_neg he] at h
  rw [zZq, if_neg h]
theorem emp_ap {x : Usr} (h : x.emp = true) : x.ap = [] := by simp [Usr.emp] at h; exact h.2
theorem Inv.go (h : Inv σ) (v k : Int) : Inv (goS v k σ) := by
 unfold goS
 split
 ·exact h
 ·next hc =>
  have hc : goC v k σ = 0 := by simpa using hc
  unfold goC at hc
  split at hc
  ·cases hc
  ·next hv =>
   have hv : isU v = true := by simpa using hv
   have hu : v.toNat < 4 := by simp [isU] at hv; omega
   split at hc
   ·cases hc
   ·next hs =>
    generalize v.toNat = u at *
    have hin : (k < 0 -> -k <= (σ.us u).ap.length) /\ k <= σ.recs.length := by
     unfold zWk at hs
     by_cases hk : k < 0
     ·rw [if_pos hk] at hs
      refine ⟨fun _ => ?_, by omega⟩
      by_cases e : (-k - 1).toNat < (σ.us u).ap.length
      ·omega
      ·rw [List.getElem?_eq_none (by omega)] at hs; exact absurd rfl hs
     ·rw [if_neg hk] at hs
      refine ⟨fun e => absurd e hk, ?_⟩
      by_cases e : k < 1 ∨ k > σ.recs.length
      ·rw [if_pos e] at hs; exact absurd rfl hs
      ·omega
    simp only
    by_cases e : k = (σ.us u).at_
    ·rw [if_pos e]
     rw [zK2]
     refine h.chg hu h.gr (Nat.le_refl _) (h.ga _ hu) (h.gc _ hu) (h.cn _ hu) ?_ (fun h1 h2 => ?_) (.inl (Nat.le_refl _)) h.lr
     ·have := h.at_ u hu
      rw [← e] at this; exact this
     ·have := h.rw_ u hu h1 h2
      exact ⟨this.1, by show k = -1; rw [e]; exact this.2⟩
    ·rw [if_neg e] at hc ⊢
     have h' := h.leave hu
     rw [zK2]
     have hlen := yKg u σ
     by_cases hr : (σ.us u).rows = true
     ·have he := emp_ap (yJK hc hr)
      have hk : ¬ k < 0 := fun hk => by
       have h1 := hin.1 hk
       have hne : (σ.us u).ap ≠ [] := fun e => by rw [e] at h1; simp at h1; omega
       have h2 := h.rw_ u hu hr hne
       omega
      refine h'.chg hu h'.gr (Nat.le_refl _) (h'.ga _ hu) (h'.gc _ hu) (h'.cn _ hu) ⟨?_, ?_⟩ (fun _ e => absurd he e) (.inl (Nat.le_refl _)) h'.lr
      ·show k <= _; omega
      ·show -k <= _; omega
     ·have hr : (σ.us u).rows = false := by simpa using hr
      have hl : zXi u σ = σ := by rw [zXi, if_pos (.inl hr)]
      rw [hl] at h' ⊢
      refine h'.chg hu h'.gr (Nat.le_refl _) (h'.ga _ hu) (h'.gc _ hu) (h'.cn _ hu) ⟨?_, ?_⟩ (fun h1 _ => ?_) (.inl (Nat.le_refl _)) h'.lr
      ·show k <= _; exact hin.2
      ·show -k <= _
       by_cases hk : k < 0
       ·exact hin.1 hk
       ·omega
      ·have : (σ.us u).rows = true := h1
       rw [hr] at this; cases this
end Go.Proofs.YtcihcbfcgjepfaaGreatDoor
/- Desks: what holds of a desk holds behind Set, Mark, Revert, Fall. No condition but those stated. -/
namespace Go.Proofs.YtcihcbfcgjepfaaGreatDoor
open Go.Sh Go.RowKit Tryz
variable {σ : Dsk} {u : Nat}
theorem yZn {κ ν : Type} [DecidableEq κ] : ∀ {l : List (κ × ν)} {k : κ} {v : ν} {p : κ × ν}, p ∈ AL.put l k v -> p ∈ l ∨ p = (k, v)
 | [], k, v, p, h => by simp [AL.put] at h; exact .inr h
 | (a, b) :: l, k, v, p, h => by
  simp only [AL.put] at h
  by_cases e : a = k
  ·rw [if_pos e] at h
   rcases List.mem_cons.1 h with h | h
   ·right; rw [h, e]
   ·exact .inl (List.mem_cons_of_mem _ h)
  ·rw [if_neg e] at h
   rcases List.mem_cons.1 h with h | h
   ·left; rw [h]; exact List.mem_cons_self ..
   ·rcases yZn h with h | h
    ·exact .inl (List.mem_cons_of_mem _ h)
    ·exact .inr h
theorem zJX {α : Type} {f : α -> α} : ∀ {l : List α} {i : Nat} {x : α}, x ∈ l.modify i f -> x ∈ l ∨ ∃ y ∈ l, x = f y
 | [], i, x, h => by simp at h
 | y :: l, 0, x, h => by
  rw [List.modify_zero_cons] at h
  rcases List.mem_cons.1 h with h | h
  ·exact .inr ⟨y, List.mem_cons_self .., h⟩
  ·exact .inl (List.mem_cons_of_mem _ h)
 | y :: l, i + 1, x, h => by
  rw [List.modify_succ_cons] at h
  rcases List.mem_cons.1 h with h | h
  ·left; rw [h]; exact List.mem_cons_self ..
  ·rcases zJX h with h | ⟨z, hz, h⟩
   ·exact .inl (List.mem_cons_of_mem _ h)
   ·exact .inr ⟨z, List.mem_cons_of_mem _ hz, h⟩
theorem yXj (recs : List Rec) (lk : Int -> Option Int) : σ.put u recs (σ.us u) lk = { σ with recs := recs, lk := lk } := by
 simp only [Dsk.put, Dsk.setU, Dsk.mk.injEq, true_and, and_true]
 funext v
 by_cases e : v = u
 ·rw [if_pos e, e]
 ·rw [if_neg e]
theorem yXD (h : Inv σ) {k : Int} (h1 : 1 <= k) (h2 : k <= σ.recs.length) : zQx σ.flds σ.page (zJJ σ k) = 0 := by
 obtain ⟨r, hr⟩ := zXD (l := σ.recs) (k := (k - 1).toNat) (by omega)
 have : zJJ σ k = r := by unfold zJJ; rw [List.getD_eq_getElem?_getD, hr]; rfl
 rw [this]; exact h.gr r (List.mem_of_getElem? hr)
theorem Inv.alter (h : Inv σ) (hu : u < 4) (h0 : (σ.us u).at_ ≠ 0) {f : Rec -> Rec} (hf : ∀ r, zQx σ.flds σ.page r = 0 -> zQx σ.flds σ.page (f r) = 0) : Inv (zXq u f σ) := by
 have hat := h.at_ u hu
 simp only [zXq]
 by_cases c1 : (σ.us u).at_ < 0
 ·rw [if_pos c1, zK2]
  refine h.chg hu h.gr (Nat.le_refl _) (fun r hr => ?_) (h.gc u hu) (h.cn u hu) ⟨hat.1, by simpa using hat.2⟩ (fun h1 h2 => ?_) (.inl (by simp)) h.lr
  ·rcases zJX hr with hr | ⟨y, hy, rfl⟩
   ·exact h.ga u hu r hr
   ·exact hf y (h.ga u hu y hy)
  ·have hne : (σ.us u).ap ≠ [] := fun e => h2 (by simp [e])
   have := h.rw_ u hu h1 hne
   exact ⟨by simpa using this.1, this.2⟩
 rw [if_neg c1]
 by_cases c2 : (σ.us u).mode = 0
 ·rw [if_pos c2]
  have e := yXj (σ := σ) (u := u) (σ.recs.modify ((σ.us u).at_ - 1).toNat f) σ.lk
  rw [show ({ σ with recs := σ.recs.modify ((σ.us u).at_ - 1).toNat f } : Dsk) = { σ with recs := σ.recs.modify ((σ.us u).at_ - 1).toNat f, lk := σ.lk } from rfl, ← e]
  refine h.chg hu (fun r hr => ?_) (by simp) (h.ga u hu) (by simpa using h.gc u hu) (h.cn u hu) (by simpa using hat) (h.rw_ u hu) (.inl (by simp)) (by simpa using h.lr)
  rcases zJX hr with hr | ⟨y, hy, rfl⟩
  ·exact h.gr r hr
  ·exact hf y (h.gr y hy)
 ·rw [if_neg c2]
  have hk1 : 1 <= (σ.us u).at_ := by omega
  have hL : ∃ lk', zX4 u σ = { σ with lk := lk' } /\ ∀ k v, lk' k = some v -> 1 <= k /\ k <= σ.recs.length /\ 0 <= v /\ v < 4 := by
   simp only [zX4]
   split
   ·exact ⟨σ.lk, rfl, h.lr⟩
   ·refine ⟨_, rfl, fun k v hk => ?_⟩
    split at hk
    ·next e => cases hk; omega
    ·exact h.lr k v hk
  obtain ⟨lk', eL, hl⟩ := hL
  rw [eL]
  have e : ({ σ with lk := lk' } : Dsk).setU u { σ.us u with ch := AL.put (σ.us u).ch (σ.us u).at_ (((AL.get (σ.us u).ch (σ.us u).at_).getD (zJJ σ (σ.us u).at_, zJJ σ (σ.us u).at_)).1, f ((AL.get (σ.us u).ch (σ.us u).at_).getD (zJJ σ (σ.us u).at_, zJJ σ (σ.us u).at_)).2) }
   = σ.put u σ.recs { σ.us u with ch := AL.put (σ.us u).ch (σ.us u).at_ (((AL.get (σ.us u).ch (σ.us u).at_).getD (zJJ σ (σ.us u).at_, zJJ σ (σ.us u).at_)).1, f ((AL.get (σ.us u).ch (σ.us u).at_).getD (zJJ σ (σ.us u).at_, zJJ σ (σ.us u).at_)).2) } lk' := rfl
  rw [e]
  have hg : zQx σ.flds σ.page ((AL.get (σ.us u).ch (σ.us u).at_).getD (zJJ σ (σ.us u).at_, zJJ σ (σ.us u).at_)).1 = 0 /\ zQx σ.flds σ.page ((AL.get (σ.us u).ch (σ.us u).at_).getD (zJJ σ (σ.us u).at_, zJJ σ (σ.us u).at_)).2 = 0 := by
   have hr := yXD h hk1 hat.1
   cases hg : AL.get (σ.us u).ch (σ.us u).at_ with
   | none => exact ⟨hr, hr⟩
   | some c => exact (h.gc u hu _ (AL.get_mem hg)).1
  refine h.chg hu h.gr (Nat.le_refl _) (h.ga u hu) (fun c hc => ?_) (AL.nodup_put (h.cn u hu) _ _) hat (h.rw_ u hu) (.inl (Nat.le_refl _)) hl
  rcases yZn hc with hc | rfl
  ·exact h.gc u hu c hc
  ·exact ⟨⟨hg.1, hf _ hg.2⟩, hk1, hat.1⟩
theorem Inv.set (h : Inv σ) (v : Int) (field : ByteArray) (x : Val) : Inv (yXS v field x σ) := by
 unfold yXS
 split
 ·next hc =>
  unfold zYc at hc
  split at hc
  ·cases hc
  ·next hv =>
   have hv : isU v = true := by simpa using hv
   have hu : v.toNat < 4 := by simp [isU] at hv; omega
   split at hc
   ·cases hc
   ·next h0 =>
    cases hi : zVn σ.flds field with
    | none => exact h
    | some i =>
     rw [hi] at hc
     simp only at hc ⊢
     split at hc
     ·next hne => exact absurd hc hne
     ·next he =>
      have he : (zJu (σ.flds.getD i default) σ.page x).2 = 0 := by simpa using he
      refine h.alter hu h0 fun r hr => yZD hr fun f hf => ?_
      rw [List.getD_eq_getElem?_getD, hf]
      rw [List.getD_eq_getElem?_getD, hf] at he
      exact yKF he
 ·exact h
theorem Inv.mark (h : Inv σ) (v : Int) (g : Bool) : Inv (zKZ v g σ) := by
 unfold zKZ
 split
 ·next hc =>
  unfold zJo at hc
  split at hc
  ·cases hc
  ·next hv =>
   have hv : isU v = true := by simpa using hv
   have hu : v.toNat < 4 := by simp [isU] at hv; omega
   split at hc
   ·cases hc
   ·next h0 => exact h.alter hu h0 fun r hr => yXJ hr g
 ·exact h
theorem Inv.revU (h : Inv σ) (hu : u < 4) : Inv (zJt u σ) := by
 have hat := h.at_ u hu
 have e : zJt u σ = σ.put u σ.recs { σ.us u with at_ := if (σ.us u).at_ < 0 then 0 else (σ.us u).at_, ch := [], ap := [] } fun k => if σ.lk k = some (u : Int) then none else σ.lk k := by
  simp only [zJt, zXG, Dsk.put, Dsk.setU, Dsk.mk.injEq, true_and, and_true]
  funext v
  by_cases e : v = u
  ·simp [e]
  ·simp [e]
 rw [e]
 refine h.chg hu h.gr (Nat.le_refl _) (by simp) (by simp) (by simp) ⟨?_, ?_⟩ (by simp) (.inl (by simp)) fun k v hk => ?_
 ·show (if (σ.us u).at_ < 0 then 0 else (σ.us u).at_) <= _; split <;> omega
 ·show -(if (σ.us u).at_ < 0 then 0 else (σ.us u).at_) <= 0; split <;> omega
 ·split at hk
  ·cases hk
  ·exact h.lr k v hk
theorem Inv.revert (h : Inv σ) (v : Int) : Inv (zZe v σ) := by
 unfold zZe; split
 ·next hv => exact h.revU (by simp [isU] at hv; omega)
 ·exact h
end Go.Proofs.YtcihcbfcgjepfaaGreatDoor
/- Desks: two users who change different fields of a record: both changes are kept. In plain words. No condition but those stated. -/
namespace Go.Proofs.YtcihcbfcgjepfaaGreatDoor
open Go.Sh Go.RowKit Tryz
def tw (t : Tbl) (recs : List Rec) (x0 x1 : Usr) : Dsk := ⟨t.page, t.fields, recs, fun u => if u = 0 then x0 else if u = 1 then x1 else Usr.new, fun _ => none⟩
variable {t : Tbl} {recs : List Rec} {x0 x1 y : Usr}
def k2 (t : Tbl) (k : Int) (c0 c1 : List (Int × (Rec × Rec))) (recs : List Rec) : Dsk := tw t recs ⟨2, k, c0, []⟩ ⟨4, k, c1, []⟩
def c2 (k : Int) (r : Rec) (i : Nat) (x : Val × Int) : List (Int × (Rec × Rec)) := if x.2 = 0 then [(k, (r, setVal i x.1 r))] else []
theorem zVt : ∀ {a b c : List Val}, (∀ (m : Nat) (x y z : Val), a[m]? = some x -> b[m]? = some y -> c[m]? = some z -> x = y ∨ z = x) -> zZ6 a b c = false
 | [], b, c, _ => by cases b <;> cases c <;> rfl
 | x :: a, [], c, _ => by cases c <;> rfl
 | x :: a, y :: b, [], _ => rfl
 | x :: a, y :: b, z :: c, h => by
  simp only [zZ6, Bool.or_eq_false_iff]
  refine ⟨?_, zVt fun m p q r h1 h2 h3 => h (m + 1) p q r (by simpa using h1) (by simpa using h2) (by simpa using h3)⟩
  rcases h 0 x y z rfl rfl rfl with e | e
  ·simp [zKc, e]
  ·simp [zKc, e]
def r2 (r0 : Rec) (i : Nat) (x : Val × Int) (r : Rec) : Rec := if x.2 = 0 then zZl (r0, setVal i x.1 r0) r else r
end Go.Proofs.YtcihcbfcgjepfaaGreatDoor
