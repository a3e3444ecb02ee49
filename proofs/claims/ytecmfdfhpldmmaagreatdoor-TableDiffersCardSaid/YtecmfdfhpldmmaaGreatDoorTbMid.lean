import Derived.Test.YtecmfdfhpldmmaaGreatDoorTbFit
import Derived.Test.YtecmfdfhpldmmaaGreatDoorTbFfields
import Derived.Test.YtecmfdfhpldmmaaGreatDoorTbFidx
import Derived.Test.YtecmfdfhpldmmaaGreatDoorTbFtab
import Derived.Test.YtecmfdfhpldmmaaGreatDoorShSixteen
/- Table: rows of fields: which are right, and how wide they are. No condition. -/
set_option maxRecDepth 100000
set_option linter.unusedVariables false
set_option linter.unusedSimpArgs false
namespace Go.Proofs.YtecmfdfhpldmmaaGreatDoor
open Go.Sh Go.RowKit

theorem nodup_snoc {α : Type} [DecidableEq α] {l : List α} {x : α} : (l ++ [x]).Nodup ↔ l.Nodup ∧ x ∉ l := by
  rw [List.nodup_append]
  constructor
  · rintro ⟨h1, _, h3⟩; exact ⟨h1, fun hx => h3 x hx x (by simp) rfl⟩
  · rintro ⟨h1, h2⟩; exact ⟨h1, by simp, fun a ha b hb e => by simp at hb; subst hb; subst e; exact h2 ha⟩
theorem nulls_le (l : List Fld) : (nulls l : Int) ≤ l.length + 1 := by
  unfold nulls
  have := List.length_filter_le (·.null) l
  omega
theorem nullN_take {l : List Fld} {k : Nat} {f : Fld} (h : l[k]? = some f) : ((l.take (k + 1)).filter (·.null)).length = ((l.take k).filter (·.null)).length + (if f.null then 1 else 0) := by
  rw [take_at h, List.filter_append, List.length_append]
  cases hx : f.null <;> simp [hx]
theorem nullN_take' {l : List Fld} {k : Nat} {f : Fld} (h : l[k]? = some f) : ((l.take (k + 1)).filter (·.null)).length = if f.null then ((l.take k).filter (·.null)).length + 1 else ((l.take k).filter (·.null)).length := by
  rw [nullN_take h]; cases f.null <;> rfl
theorem nullBytes_c {w : World} {s : SV} {l : List Fld} (h : RdSl w s l) : Calls Tryz.prog 71 #[.slice s.a s.len s.cap] w fun e w' => e = .returned (.int .i64 (nulls l : Nat)) ∧ Pu w w' := by
  refine F71_calls _ w _ ?_
  have hlen := h.len
  have hlim := h.lim
  refine loopUp l.length (fun k t w' => t.2 = (k : Int) ∧ t.1 = (((l.take k).filter (·.null)).length : Nat) ∧ Pu w w') ⟨rfl, rfl, Pu.refl _⟩ ?_
  rintro k J ⟨t1, t2⟩ w2 hk ⟨ht2, ht1, hp⟩ hJ
  obtain rfl : t2 = (k : Int) := ht2
  obtain rfl : t1 = (((l.take k).filter (·.null)).length : Nat) := ht1
  have hle := List.length_filter_le (·.null) (l.take k)
  have hle2 := List.length_take_le k l
  dsimp only
  refine Br.of (fun d => ?_) (fun d => ?_)
  · have hk2 : k < l.length := by have := dtrue d; omega
    obtain ⟨f, hf⟩ := at_k hk2
    obtain ⟨a, ha, hi, _, _, _, c0, c1, c2, c3⟩ := fldAt (h.pu hp) hf
    refine ⟨a, ha, by omega, by omega, _, c0, _, c1, _, c2, _, c3, boxA rfl s23.symm rfl fun w4 hp4 hs4 hb4 => ⟨_, cl hb4 3, ?_⟩⟩
    have e := nullN_take' hf
    rw [wrap_in (n := (k : Int) + 1) (by omega) (by omega)]
    refine Br.of (fun d1 => hJ _ _ hk2 ⟨by dsimp only; omega, ?_, hp.trans hp4⟩) (fun d1 => hJ _ _ hk2 ⟨by dsimp only; omega, ?_, hp.trans hp4⟩)
    · rw [if_pos d1] at e; dsimp only; rw [e, wrap_in (by omega) (by omega)]; omega
    · rw [if_neg (by rw [d1]; simp)] at e; dsimp only; rw [e]
  · have hk2 : k = l.length := by have := dfalse d; omega
    subst hk2
    rw [List.take_length] at *
    refine ⟨rfl, by omega, ?_, hp⟩
    rw [wrap_in (n := ((l.filter (·.null)).length : Int) + 7) (by omega) (by omega), Int.tdiv_eq_ediv_of_nonneg (by omega), wrap_in (by omega) (by omega)]
    unfold nulls; congr 2
theorem rNulls_c {w : World} {s : SV} {l : List Fld} (h : RdSl w s l) : Calls Tryz.prog 72 #[.slice s.a s.len s.cap] w fun e w' => e = .returned (.int .i64 (nulls l : Nat)) ∧ Pu w w' := by
  refine F72_calls _ w _ ?_
  have hlen := h.len
  have hlim := h.lim
  refine loopUp l.length (fun k t w' => t.2 = (k : Int) ∧ t.1 = (((l.take k).filter (·.null)).length : Nat) ∧ Pu w w') ⟨rfl, rfl, Pu.refl _⟩ ?_
  rintro k J ⟨t1, t2⟩ w2 hk ⟨ht2, ht1, hp⟩ hJ
  obtain rfl : t2 = (k : Int) := ht2
  obtain rfl : t1 = (((l.take k).filter (·.null)).length : Nat) := ht1
  have hle := List.length_filter_le (·.null) (l.take k)
  have hle2 := List.length_take_le k l
  dsimp only
  refine Br.of (fun d => ?_) (fun d => ?_)
  · have hk2 : k < l.length := by have := dtrue d; omega
    obtain ⟨f, hf⟩ := at_k hk2
    obtain ⟨a, ha, hi, _, _, _, c0, c1, c2, c3⟩ := fldAt (h.pu hp) hf
    refine ⟨a, ha, by omega, by omega, _, c3, ?_⟩
    have e := nullN_take' hf
    rw [wrap_in (n := (k : Int) + 1) (by omega) (by omega)]
    refine Br.of (fun d1 => hJ _ _ hk2 ⟨by dsimp only; omega, ?_, hp⟩) (fun d1 => hJ _ _ hk2 ⟨by dsimp only; omega, ?_, hp⟩)
    · rw [if_pos d1] at e; dsimp only; rw [e, wrap_in (by omega) (by omega)]; omega
    · rw [if_neg (by rw [d1]; simp)] at e; dsimp only; rw [e]
  · have hk2 : k = l.length := by have := dfalse d; omega
    subst hk2
    rw [List.take_length] at *
    refine ⟨rfl, by omega, ?_, hp⟩
    rw [wrap_in (n := ((l.filter (·.null)).length : Int) + 7) (by omega) (by omega), Int.tdiv_eq_ediv_of_nonneg (by omega), wrap_in (by omega) (by omega)]
    unfold nulls; congr 2
def WOk (l : List Fld) : Prop := ∀ f ∈ l, 0 ≤ f.width ∧ f.width ≤ 254
theorem field_width {f : Fld} (h : fieldB f = true) : 1 ≤ f.width ∧ f.width ≤ 254 := by
  unfold fieldB kindW at h
  simp only [Bool.and_eq_true] at h
  have h := h.2
  split at h
  · simp at h; omega
  · split at h
    · simp at h; omega
    · split at h
      · simp at h; omega
      · split at h
        · simp at h; omega
        · split at h
          · simp at h; omega
          · simp at h
theorem WOk.of {l : List Fld} (h : l.all fieldB = true) : WOk l := fun f hf => by have := field_width (List.all_eq_true.1 h f hf); omega
theorem sum_take {l : List Fld} {k : Nat} {f : Fld} (h : l[k]? = some f) : ((l.take (k + 1)).map (·.width)).sum = ((l.take k).map (·.width)).sum + f.width := by
  rw [take_at h, List.map_append, List.sum_append]; simp
theorem sum_le {l : List Fld} (h : WOk l) : 0 ≤ (l.map (·.width)).sum ∧ (l.map (·.width)).sum ≤ 254 * l.length := by
  induction l with
  | nil => simp
  | cons f l ih =>
    have h1 := h f (by simp)
    have h2 := ih fun g hg => h g (by simp [hg])
    simp only [List.map_cons, List.sum_cons, List.length_cons]; omega
theorem WOk.take {l : List Fld} (h : WOk l) (k : Nat) : WOk (l.take k) := fun f hf => h f (List.mem_of_mem_take hf)
theorem length_c {w : World} {s : SV} {l : List Fld} (h : RdSl w s l) (hw : WOk l) : Calls Tryz.prog 69 #[.slice s.a s.len s.cap] w fun e w' => e = .returned (.int .i64 (wide l)) ∧ Pu w w' := by
  refine F69_calls _ w _ ((nullBytes_c h).mono ?_)
  rintro e w1 ⟨rfl, hp1⟩
  have hlen := h.len
  have hlim := h.lim
  have hn := nulls_le l
  refine ⟨_, rfl, ?_⟩
  rw [wrap_in (by omega) (by omega)]
  refine loopUp l.length (fun k t w' => t.2 = (k : Int) ∧ t.1 = 1 + ((nulls l : Nat) : Int) + ((l.take k).map (·.width)).sum ∧ Pu w w') ⟨rfl, by simp, hp1⟩ ?_
  rintro k J ⟨t1, t2⟩ w2 hk ⟨ht2, ht1, hp⟩ hJ
  obtain rfl : t2 = (k : Int) := ht2
  obtain rfl : t1 = 1 + ((nulls l : Nat) : Int) + ((l.take k).map (·.width)).sum := ht1
  have hs := sum_le (hw.take k)
  have hle2 := List.length_take_le k l
  dsimp only
  refine Br.of (fun d => ?_) (fun d => ?_)
  · have hk2 : k < l.length := by have := dtrue d; omega
    obtain ⟨f, hf⟩ := at_k hk2
    have hwf := hw f (List.mem_of_getElem? hf)
    obtain ⟨a, ha, hi, _, _, _, c0, c1, c2, c3⟩ := fldAt (h.pu hp) hf
    refine ⟨a, ha, by omega, by omega, _, c0, _, c1, _, c2, _, c3, boxA rfl s23.symm rfl fun w4 hp4 hs4 hb4 => ⟨_, cl hb4 2, ?_⟩⟩
    rw [wrap_in (n := (k : Int) + 1) (by omega) (by omega), wrap_in (by omega) (by omega)]
    refine hJ _ _ hk2 ⟨by dsimp only; omega, ?_, hp.trans hp4⟩
    dsimp only; rw [sum_take hf]; omega
  · have hk2 : k = l.length := by have := dfalse d; omega
    subst hk2
    rw [List.take_length]
    exact ⟨rfl, hp⟩
theorem rWide_c {w : World} {s : SV} {l : List Fld} (h : RdSl w s l) (hw : WOk l) : Calls Tryz.prog 70 #[.slice s.a s.len s.cap] w fun e w' => e = .returned (.int .i64 (wide l)) ∧ Pu w w' := by
  refine F70_calls _ w _ ((rNulls_c h).mono ?_)
  rintro e w1 ⟨rfl, hp1⟩
  have hlen := h.len
  have hlim := h.lim
  have hn := nulls_le l
  refine ⟨_, rfl, ?_⟩
  rw [wrap_in (by omega) (by omega)]
  refine loopUp l.length (fun k t w' => t.2 = (k : Int) ∧ t.1 = 1 + ((nulls l : Nat) : Int) + ((l.take k).map (·.width)).sum ∧ Pu w w') ⟨rfl, by simp, hp1⟩ ?_
  rintro k J ⟨t1, t2⟩ w2 hk ⟨ht2, ht1, hp⟩ hJ
  obtain rfl : t2 = (k : Int) := ht2
  obtain rfl : t1 = 1 + ((nulls l : Nat) : Int) + ((l.take k).map (·.width)).sum := ht1
  have hs := sum_le (hw.take k)
  have hle2 := List.length_take_le k l
  dsimp only
  refine Br.of (fun d => ?_) (fun d => ?_)
  · have hk2 : k < l.length := by have := dtrue d; omega
    obtain ⟨f, hf⟩ := at_k hk2
    have hwf := hw f (List.mem_of_getElem? hf)
    obtain ⟨a, ha, hi, _, _, _, c0, c1, c2, c3⟩ := fldAt (h.pu hp) hf
    refine ⟨a, ha, by omega, by omega, _, c2, ?_⟩
    rw [wrap_in (n := (k : Int) + 1) (by omega) (by omega), wrap_in (by omega) (by omega)]
    refine hJ _ _ hk2 ⟨by dsimp only; omega, ?_, hp⟩
    dsimp only; rw [sum_take hf]; omega
  · have hk2 : k = l.length := by have := dfalse d; omega
    subst hk2
    rw [List.take_length]
    exact ⟨rfl, hp⟩

/-! ### The first place where something holds -/
def idxF (p : Fld → Bool) (l : List Fld) : Option Nat := l.findIdx? p
/-- A closure that tells whether something holds of a field. -/
def TellsF (l : List Fld) (g : Nat) (cap : Array Value) (p : Fld → Bool) (w0 : World) : Prop := hasBody Tryz.prog g = true ∧ ∀ f ∈ l, ∀ w, Pu w0 w → Calls Tryz.prog g (#[fldA f] ++ cap) w fun e w' => e = .returned (.bool (p f)) ∧ Pu w w'
theorem findIdx_take {p : Fld → Bool} {l : List Fld} {k : Nat} (h : ∀ f ∈ l.take k, p f = false) {f : Fld} (hf : l[k]? = some f) (hp : p f = true) : l.findIdx? p = some k := by
  have hk : k < l.length := (List.getElem?_eq_some_iff.1 hf).1
  rw [List.findIdx?_eq_some_iff_getElem]
  refine ⟨hk, ?_, fun j hj => ?_⟩
  · rw [List.getElem?_eq_getElem hk] at hf; rw [Option.some.inj hf]; exact hp
  · have := h l[j] (by rw [List.mem_take_iff_getElem]; exact ⟨j, by omega, rfl⟩)
    simpa using this
theorem indexFunc_c {w : World} {s : SV} {l : List Fld} (h : RdSl w s l) {g : Nat} {cap : Array Value} {p : Fld → Bool} (hg : TellsF l g cap p w) : Calls Tryz.prog 66 #[.slice s.a s.len s.cap, .func (.func g) #[] cap] w
    fun e w' => e = .returned (.int .i64 (match l.findIdx? p with | some k => (k : Int) | none => -1)) ∧ Pu w w' := by
  refine F66_calls _ _ w _ ?_
  have hlen := h.len
  have hlim := h.lim
  refine loopUp l.length (fun k t w' => t = (k : Int) ∧ (∀ f ∈ l.take k, p f = false) ∧ Pu w w') ⟨rfl, by simp, Pu.refl _⟩ ?_
  rintro k J t w2 hk ⟨ht, hno, hp⟩ hJ
  obtain rfl : t = (k : Int) := ht
  refine Br.of (fun d => ?_) (fun d => ?_)
  · have hk2 : k < l.length := by have := dtrue d; omega
    obtain ⟨f, hf⟩ := at_k hk2
    obtain ⟨a, ha, hi, _, _, _, c0, c1, c2, c3⟩ := fldAt (h.pu hp) hf
    refine ⟨a, ha, by omega, by omega, _, c0, _, c1, _, c2, _, c3, hg.1, ?_⟩
    have e1 : ((#[] : Array Value).toList ++ (([fldA f] : List Value) ++ cap.toList)).toArray = #[fldA f] ++ cap := by
      apply Array.ext'; simp
    rw [e1]
    refine (hg.2 f (List.mem_of_getElem? hf) w2 hp).mono ?_
    rintro e w3 ⟨rfl, hp3⟩
    refine ⟨_, rfl, Br.of (fun d1 => ⟨by rw [findIdx_take hno hf d1], hp.trans hp3⟩) (fun d1 => ?_)⟩
    rw [wrap_in (by omega) (by omega)]
    refine hJ _ _ hk2 ⟨by omega, fun f' hf' => ?_, hp.trans hp3⟩
    rw [take_at hf, List.mem_append, List.mem_singleton] at hf'
    rcases hf' with hf' | rfl
    · exact hno f' hf'
    · exact d1
  · have hk2 : k = l.length := by have := dfalse d; omega
    subst hk2
    rw [List.take_length] at hno
    have : l.findIdx? p = none := by rw [List.findIdx?_eq_none_iff]; exact fun x hx => by rw [hno x hx]
    exact ⟨by rw [this], hp⟩
theorem containsFunc_c {w : World} {s : SV} {l : List Fld} (h : RdSl w s l) {g : Nat} {cap : Array Value} {p : Fld → Bool} (hg : TellsF l g cap p w) : Calls Tryz.prog 75 #[.slice s.a s.len s.cap, .func (.func g) #[] cap] w
    fun e w' => e = .returned (.bool (l.any p)) ∧ Pu w w' := by
  refine F75_calls _ _ w _ ((indexFunc_c h hg).mono ?_)
  rintro e w2 ⟨rfl, hp⟩
  refine ⟨_, rfl, ?_, hp⟩
  cases hx : l.findIdx? p with
  | none =>
    rw [List.findIdx?_eq_none_iff] at hx
    have : l.any p = false := by rw [List.any_eq_false]; exact fun x hx' => by rw [hx x hx']; simp
    rw [this]; rfl
  | some k =>
    rw [List.findIdx?_eq_some_iff_getElem] at hx
    obtain ⟨h1, h2, _⟩ := hx
    have : l.any p = true := List.any_eq_true.2 ⟨_, List.getElem_mem h1, h2⟩
    rw [this]
    dsimp only
    rw [decide_eq_true (by omega)]
theorem notField_c (f : Fld) (hs : f.name.size ≤ 140737488355328) (w : World) : Calls Tryz.prog 76 #[fldA f] w fun e w' => e = .returned (.bool (!fieldB f)) ∧ Pu w w' := by
  refine F76_calls _ _ _ _ w _ (alB fun w1 hp1 hb1 => ⟨_, cl hb1 0, _, cl hb1 1, _, cl hb1 2, _, cl hb1 3, (isField_c f hs w1).mono ?_⟩)
  rintro e w2 ⟨rfl, hp2⟩
  exact ⟨_, rfl, rfl, hp1.trans hp2⟩

/-! ### Right rows of fields -/
theorem u88 : Tryz.prog.underlying 88 = some (.map 9 4) := by kernel_rfl
abbrev strK (s : ByteArray) : Value := .string s
abbrev boolK (b : Bool) : Value := .bool b
theorem keysS : Keys Tryz.prog 9 strK := keys_str (by kernel_rfl)
theorem z4 (w : World) : (zeroValue 4).run Tryz.prog w = .ok (.bool false) w := Tryz.zeroValue4 w
def seenL (l : List Fld) : List (ByteArray × Bool) := l.map fun f => (f.name, true)
theorem seen_fst (l : List Fld) : (seenL l).map Prod.fst = l.map (·.name) := by simp [seenL]
noncomputable instance memDec (x : ByteArray) (l : List ByteArray) : Decidable (x ∈ l) := Classical.propDecidable _
theorem seen_look (l : List Fld) (x : ByteArray) : (AL.get (seenL l) x).elim (.bool false) boolK = .bool (decide (x ∈ l.map (·.name))) := by
  by_cases h : x ∈ l.map (·.name)
  · rw [decide_eq_true h]
    cases hg : AL.get (seenL l) x with
    | none => rw [AL.get_none, seen_fst] at hg; exact absurd h hg
    | some v =>
      have := AL.get_mem hg
      simp only [seenL, List.mem_map] at this
      obtain ⟨f, _, he⟩ := this
      cases he; rfl
  · rw [decide_eq_false h, (AL.get_none).2 (by rw [seen_fst]; exact h)]; rfl
theorem validF_empty : validF [] = 1 := by unfold validF; rw [if_pos (.inl rfl)]
theorem validF_bad {l : List Fld} (h : l.all fieldB = false) : validF l = 1 := by unfold validF; rw [if_pos (.inr h)]
theorem validF_dup {l : List Fld} (h0 : l ≠ []) (h : l.all fieldB = true) (h2 : ¬ (l.map (·.name)).Nodup) : validF l = 5 := by unfold validF; rw [if_neg (by simp [h0, h]), if_pos h2]
theorem validF_end {l : List Fld} (h0 : l ≠ []) (h : l.all fieldB = true) (h2 : (l.map (·.name)).Nodup) : validF l = if 16 < l.length ∨ 2000 < wide l then 3 else 0 := by unfold validF; rw [if_neg (by simp [h0, h]), if_neg (by simp [h2])]
theorem names_take {l : List Fld} {k : Nat} {f : Fld} (h : l[k]? = some f) : (l.take (k + 1)).map (·.name) = (l.take k).map (·.name) ++ [f.name] := by
  rw [take_at h, List.map_append]; rfl
theorem nodup_of_take {l : List Fld} {k : Nat} (h : ¬ ((l.take k).map (·.name)).Nodup) : ¬ (l.map (·.name)).Nodup := fun hn => h (by
  rw [List.map_take]; exact hn.sublist (List.take_sublist _ _))
theorem validFields_c {w : World} {s : SV} {l : List Fld} (h : RdSl w s l) (hl : Lim.ok l) : Calls Tryz.prog 36 #[.slice s.a s.len s.cap] w fun e w' => e = .returned (.int .i64 (validF l)) ∧ Pu w w' := by
  refine F36_calls _ w _ ?_
  have hlen := h.len
  have hlim := h.lim
  have nm : ∀ f ∈ l, f.name.size ≤ 140737488355328 := fun f hf => hl f hf
  refine Br.of (fun d => ?_) (fun d => ?_)
  · have : l = [] := List.length_eq_zero_iff.1 (by have := btrue d; omega)
    subst this; exact ⟨by rw [validF_empty], Pu.refl _⟩
  have h0 : l ≠ [] := fun e => by subst e; exact bfalse d (by rw [hlen]; rfl)
  have tells : TellsF l 76 #[] (fun f => !fieldB f) w := ⟨by kernel_rfl, fun f hf w2 _ => notField_c f (nm f hf) w2⟩
  refine (containsFunc_c h tells).mono ?_
  rintro e w1 ⟨rfl, hp1⟩
  have hany : l.any (fun f => !fieldB f) = !l.all fieldB := by rw [List.all_eq_not_any_not]; simp
  refine ⟨_, rfl, ?_⟩
  rw [hany]
  refine Br.of (fun d1 => ⟨by rw [validF_bad (by simpa using d1)], hp1⟩) (fun d1 => ?_)
  have hall : l.all fieldB = true := by simpa using d1
  refine alE_intro fun w2 hw2 => ?_
  have hp2 : Pu w1 w2 := by rw [hw2]; exact Pu.alloc w1 _
  have hm2 : MapAt w2 strK boolK w1.heap.size ([] : List (ByteArray × Bool)) := by rw [hw2]; exact MapAt.new w1 _ _
  have z1 := hp1.size
  refine loopUp l.length (fun k t w' => t = (k : Int) ∧ MapAt w' strK boolK w1.heap.size (seenL (l.take k)) ∧ ((l.take k).map (·.name)).Nodup ∧ Pu w w') ⟨rfl, hm2, by simp, hp1.trans hp2⟩ ?_
  rintro k J t w3 hk ⟨ht, hm, hnd, hp⟩ hJ
  obtain rfl : t = (k : Int) := ht
  refine Br.of (fun d2 => ?_) (fun d2 => ?_)
  · have hk2 : k < l.length := by have := dtrue d2; omega
    obtain ⟨f, hf⟩ := at_k hk2
    obtain ⟨a, ha, hi, _, _, _, c0, c1, c2, c3⟩ := fldAt (h.pu hp) hf
    refine ⟨a, ha, by omega, by omega, _, c0, _, c1, _, c2, _, c3, boxA rfl s23.symm rfl fun w4 hp4 hs4 hb4 => ⟨_, cl0 hb4, decide (f.name ∈ (l.take k).map (·.name)), w4, ?_, ?_⟩⟩
    · have := (hm.pu hp4).look keysS u88 (z4 w4) f.name false
      rw [seen_look] at this; exact this
    refine Br.of (fun d3 => ⟨?_, hp.trans hp4⟩) (fun d3 => ⟨_, cl0 hb4, ?_⟩)
    · rw [validF_dup h0 hall (nodup_of_take (k := k + 1) (by rw [names_take hf, nodup_snoc]; exact fun h => h.2 (dtrue d3)))]
    · obtain ⟨w5, e5, h5, f5, _⟩ := (hm.pu hp4).upd keysS u88 f.name true
      refine ⟨w5, e5, ?_⟩
      rw [wrap_in (by omega) (by omega)]
      have hput : AL.put (seenL (l.take k)) f.name true = seenL (l.take (k + 1)) := by
        rw [AL.put_new ((AL.get_none).2 (by rw [seen_fst]; exact dfalse d3))]
        simp only [seenL]
        rw [take_at hf, List.map_append]; rfl
      rw [hput] at h5
      refine hJ _ _ hk2 ⟨by omega, h5, by rw [names_take hf, nodup_snoc]; exact ⟨hnd, dfalse d3⟩, (hp.trans hp4).andNew f5 fun i hi => by have hi : i = w1.heap.size := hi; omega⟩
  · have hk2 : k = l.length := by have := dfalse d2; omega
    subst hk2
    rw [List.take_length] at hnd
    have he := validF_end h0 hall hnd
    refine Br.of (fun d3 => ⟨by rw [he, if_pos (.inl (by have := dtrue d3; omega))], hp⟩) (fun d3 => (length_c (h.pu hp) (WOk.of hall)).mono ?_)
    rintro e w4 ⟨rfl, hp4⟩
    refine ⟨_, rfl, Br.of (fun d4 => ⟨by rw [he, if_pos (.inr (dtrue d4))], hp.trans hp4⟩) (fun d4 => ⟨by rw [he, if_neg (by have := dfalse d4; have := dfalse d3; omega)], hp.trans hp4⟩)⟩
theorem rValidFields_c {w : World} {s : SV} {l : List Fld} (h : RdSl w s l) : Calls Tryz.prog 37 #[.slice s.a s.len s.cap] w fun e w' => e = .returned (.int .i64 (validF l)) ∧ Pu w w' := by
  refine F37_calls _ w _ ?_
  have hlen := h.len
  have hlim := h.lim
  refine Br.of (fun d => ?_) (fun d => ?_)
  · have : l = [] := List.length_eq_zero_iff.1 (by have := btrue d; omega)
    subst this; exact ⟨by rw [validF_empty], Pu.refl _⟩
  have h0 : l ≠ [] := fun e => by subst e; exact bfalse d (by rw [hlen]; rfl)
  refine loopUp l.length (fun k t w' => t = (k : Int) ∧ (l.take k).all fieldB = true ∧ Pu w w') ⟨rfl, rfl, Pu.refl _⟩ ?_
  rintro k J t w2 hk ⟨ht, hal, hp⟩ hJ
  obtain rfl : t = (k : Int) := ht
  refine Br.of (fun d1 => ?_) (fun d1 => ?_)
  · have hk2 : k < l.length := by have := dtrue d1; omega
    obtain ⟨f, hf⟩ := at_k hk2
    obtain ⟨a, ha, hi, _, _, _, c0, c1, c2, c3⟩ := fldAt (h.pu hp) hf
    refine ⟨a, ha, by omega, by omega, _, c0, _, c1, _, c2, _, c3, (rIsField_c f w2).mono ?_⟩
    rintro e w3 ⟨rfl, hp3⟩
    refine ⟨_, rfl, Br.of (fun d2 => ⟨?_, hp.trans hp3⟩) (fun d2 => ?_)⟩
    · rw [validF_bad (by rw [List.all_eq_false]; exact ⟨f, List.mem_of_getElem? hf, by simpa using d2⟩)]
    · rw [wrap_in (by omega) (by omega)]
      exact hJ _ _ hk2 ⟨by omega, by rw [all_take _ hf, hal, show fieldB f = true by simpa using d2]; rfl, hp.trans hp3⟩
  have hk2 : k = l.length := by have := dfalse d1; omega
  subst hk2
  rw [List.take_length] at hal
  clear hJ J d1
  refine loopUp l.length (fun k t w' => t = (k : Int) ∧ ((l.take k).map (·.name)).Nodup ∧ Pu w w') ⟨rfl, by simp, hp⟩ ?_
  rintro k J t w3 hk ⟨ht, hnd, hp⟩ hJ
  obtain rfl : t = (k : Int) := ht
  refine Br.of (fun d1 => ?_) (fun d1 => ?_)
  · have hk2 : k < l.length := by have := dtrue d1; omega
    obtain ⟨f, hf⟩ := at_k hk2
    refine loopUp k (fun j t w' => t = (j : Int) ∧ f.name ∉ (l.take j).map (·.name) ∧ Pu w w') ⟨rfl, by simp, hp⟩ ?_
    rintro j J2 t w4 hj ⟨ht, hno, hp4⟩ hJ2
    obtain rfl : t = (j : Int) := ht
    refine Br.of (fun d2 => ?_) (fun d2 => ?_)
    · have hj2 : j < k := by have := dtrue d2; omega
      obtain ⟨g, hg⟩ := at_k (show j < l.length by omega)
      refine dwE_intro fun w5 hp5 _ => ?_
      obtain ⟨a, ha, hi, _, _, c, c0, c1, c2, c3⟩ := fldAt (h.pu (hp4.trans hp5)) hf
      obtain ⟨a', ha', hi', _, _, c', c0', c1', c2', c3'⟩ := fldAt (h.pu (hp4.trans hp5)) hg
      refine ⟨a, ha, by omega, by omega, _, c, a', ha', by omega, by omega, _, c', ?_⟩
      rw [toList_beq]
      refine Br.of (fun d3 => ⟨?_, hp4.trans hp5⟩) (fun d3 => ?_)
      · rw [validF_dup h0 hal (nodup_of_take (k := k + 1) (by
          rw [names_take hf, nodup_snoc]
          refine fun h => h.2 ?_
          rw [dtrue d3]
          exact List.mem_map.2 ⟨g, by rw [List.mem_take_iff_getElem]; exact ⟨j, by omega, by rw [List.getElem?_eq_getElem (by omega)] at hg; exact Option.some.inj hg⟩, rfl⟩))]
      · rw [wrap_in (by omega) (by omega)]
        refine hJ2 _ _ hj2 ⟨by omega, ?_, hp4.trans hp5⟩
        rw [names_take hg, List.mem_append, List.mem_singleton]
        exact fun h => h.elim hno (dfalse d3)
    · have hj2 : j = k := by have := dfalse d2; omega
      subst hj2
      show J (IntKind.i64.wrap ((j : Int) + 1)) w4
      rw [wrap_in (by omega) (by omega)]
      exact hJ _ _ hk2 ⟨by omega, by rw [names_take hf, nodup_snoc]; exact ⟨hnd, hno⟩, hp4⟩
  · have hk2 : k = l.length := by have := dfalse d1; omega
    subst hk2
    rw [List.take_length] at hnd
    have he := validF_end h0 hal hnd
    refine Br.of (fun d3 => ⟨by rw [he, if_pos (.inl (by have := dtrue d3; omega))], hp⟩) (fun d3 => (rWide_c (h.pu hp) (WOk.of hal)).mono ?_)
    rintro e w4 ⟨rfl, hp4⟩
    refine ⟨_, rfl, Br.of (fun d4 => ⟨by rw [he, if_pos (.inr (dtrue d4))], hp.trans hp4⟩) (fun d4 => ⟨by rw [he, if_neg (by have := dfalse d4; have := dfalse d3; omega)], hp.trans hp4⟩)⟩
end Go.Proofs.YtecmfdfhpldmmaaGreatDoor

/- Table: which tables are right. No condition. -/
set_option maxRecDepth 100000
set_option linter.unusedVariables false
set_option linter.unusedSimpArgs false
namespace Go.Proofs.YtecmfdfhpldmmaaGreatDoor
open Go.Sh Go.RowKit

theorem struct25 : structB Tryz.prog 25 [some .i64, some .i64, none] = true := by kernel_rfl
theorem guard25 : Tryz.prog.eqGuardType Tryz.prog.depth 25 = false := by kernel_rfl
theorem valV_inj {a b : Val} (h : valV a = valV b) : a = b := by
  obtain ⟨a1, a2, a3⟩ := a; obtain ⟨b1, b2, b3⟩ := b
  simp [valV] at h; simp [h]
theorem eqVal (x y : Operand) (a b : Val) (w : World) : (eqS .eql 25 x y (valA a) (valA b)).run Tryz.prog w = .ok (.bool (decide (a = b))) w := by
  refine eqS_row (ks := [some .i64, some .i64, none]) (xs := valV a) (ys := valV b) struct25 guard25 rfl rfl ?_ w
  rw [decide_eq_true_iff]
  exact ⟨fun h => by rw [h], valV_inj⟩
theorem bare_fix {l : List UInt8} {w : Nat} (h : bare (l.take w) = l) : l.length ≤ w ∧ bare l = l := by
  have h1 := bare_le (l.take w)
  rw [h] at h1
  have h2 := List.length_take_le w l
  have h3 : l.length ≤ w := by omega
  rw [List.take_of_length_le h3] at h
  exact ⟨h3, h⟩
theorem fitted_holds {f : Fld} {p : Int} {v : Val} (hf : fieldB f = true) (hv : validV v = 0) (hk : v.kind ≠ 0) : (decide ((fitted f p v).2 = 0) && decide ((fitted f p v).1 = v)) = fitsV f p v := by
  have hv0 : ¬ validV v ≠ 0 := by omega
  obtain ⟨hvs, hvn, hv4⟩ := valid_ok hv
  unfold fitted
  rw [if_neg hk]
  by_cases h1 : v.kind ≠ (emptyV f).kind
  · rw [if_pos h1]
    have : fitsV f p v = false := by
      unfold fitsV; rw [if_neg hv0, if_neg hk]
      by_cases h5 : f.kind = 5
      · have : v.kind ≠ 2 := by unfold emptyV at h1; rw [if_pos h5] at h1; exact h1
        rw [if_pos h5, decide_eq_false this]; rfl
      · have : v.kind ≠ f.kind := by unfold emptyV at h1; rw [if_neg h5] at h1; exact h1
        rw [if_neg h5, if_pos this]
    rw [this]; simp
  rw [if_neg h1]
  by_cases h4 : f.kind = 4
  · rw [if_pos h4]
    have hkv : v.kind = 4 := by have : v.kind = (emptyV f).kind := by simpa using h1
                                rw [this]; unfold emptyV; rw [if_neg (by omega)]; exact h4
    have hn0 : v.n = 0 := by rw [hkv] at hvn; simpa [okN] using hvn
    have hfit : fitsV f p v = (decide ((v.s.size : Int) ≤ f.width) && decide (bare v.s.data.toList = v.s.data.toList) && textB v.s.data.toList p) := by
      unfold fitsV; rw [if_neg hv0, if_neg hk, if_neg (by omega), if_neg (by rw [hkv, h4]; simp), if_neg (by omega), if_pos h4]
    obtain ⟨wl, wh⟩ := fld_text hf h4
    have key : (bare (v.s.data.toList.take f.width.toNat) = v.s.data.toList) ↔ ((v.s.size : Int) ≤ f.width ∧ bare v.s.data.toList = v.s.data.toList) := by
      constructor
      · intro h; have h2 := bare_fix h; rw [size_list] at h2; exact ⟨by omega, h2.2⟩
      · rintro ⟨h2, h3⟩; rw [List.take_of_length_le (by rw [size_list]; omega)]; exact h3
    have eqv : (⟨4, 0, bs (bare (v.s.data.toList.take f.width.toNat))⟩ : Val) = v ↔ bare (v.s.data.toList.take f.width.toNat) = v.s.data.toList := by
      rw [← bs_eq_iff]
      obtain ⟨k, n, s⟩ := v
      simp only at hkv hn0
      subst hkv hn0
      simp
    have key2 : (decide ((v.s.size : Int) ≤ f.width) && decide (bare v.s.data.toList = v.s.data.toList)) = decide (bare (v.s.data.toList.take f.width.toNat) = v.s.data.toList) := by rw [← Bool.decide_and]; exact dec_eq key.symm
    rw [hfit, key2]
    by_cases hb : bare (v.s.data.toList.take f.width.toNat) = v.s.data.toList
    · rw [decide_eq_true hb, hb]
      cases ht : textB v.s.data.toList p
      · simp
      · rw [if_pos rfl]
        have h9 := eqv.2 hb
        rw [hb] at h9
        simp [h9]
    · rw [decide_eq_false hb]
      cases ht : textB (bare (v.s.data.toList.take f.width.toNat)) p
      · simp
      · rw [if_pos rfl]
        have h9 : ¬ (⟨4, 0, bs (bare (v.s.data.toList.take f.width.toNat))⟩ : Val) = v := fun h => hb (eqv.1 h)
        simp [h9]
  · rw [if_neg h4]
    cases hfit : fitsV f p v
    · simp
    · simp
theorem holds_c (f : Fld) (p : Int) (v : Val) (hs : f.name.size ≤ 140737488355328) (hf : fieldB f = true) (hpg : pageB p = true) (w : World) : Calls Tryz.prog 73 #[fldA f, .int .i64 p, valA v] w fun e w' => e = .returned (.bool (fitsV f p v)) ∧ Pu w w' := by
  refine F73_calls _ _ _ _ _ _ _ _ w _ ?_
  refine alB fun w1 hp1 hb1 => alB fun w2 hp2 hb2 => ?_
  have hp02 := hp1.trans hp2
  have b1 : ∀ {wz}, Pu w2 wz → wz.heap[w.heap.size]? = some (.cells #[.string f.name, .int .i64 f.kind, .int .i64 f.width, .bool f.null] 23) := fun h => h.blk (hp2.blk hb1)
  have b2 : ∀ {wz}, Pu w2 wz → wz.heap[w1.heap.size]? = some (.cells #[.int .i64 v.kind, .int .i64 v.n, .string v.s] 25) := fun h => h.blk hb2
  have q1 := b1 (Pu.refl w2)
  have q2 := b2 (Pu.refl w2)
  have out : ∀ {wz : World} {b : Bool}, Pu w wz → fitsV f p v = b → (Ending.returned (Value.bool b) = Ending.returned (Value.bool (fitsV f p v)) ∧ Pu w wz) := fun h1 h2 => ⟨by rw [h2], h1⟩
  have bad : validV v ≠ 0 → fitsV f p v = false := fun h => by unfold fitsV; rw [if_pos h]
  refine ⟨_, cl0 q2, Br.of (fun d => ⟨_, cl q1 3, ?_⟩) (fun d => ⟨_, cl q2 0, _, cl q2 1, _, cl q2 2, (valid_c v w2).mono ?_⟩)⟩
  · have d := btrue d
    have key : (f.null && decide (v = noV)) = fitsV f p v := by
      by_cases h : validV v ≠ 0
      · rw [bad h]
        have : ¬ v = noV := fun e => h (by rw [e]; rfl)
        rw [decide_eq_false this]; simp
      · have h : validV v = 0 := by simpa using h
        obtain ⟨_, h2, h3⟩ := valid_ok h
        have hn : v.n = 0 := by rw [d] at h2; simpa [okN] using h2
        have hz : v.s.size = 0 := h3.resolve_left (by omega)
        have : v = noV := by
          obtain ⟨k, n, s⟩ := v
          simp only at d hn hz
          subst d hn
          have : s = ⟨#[]⟩ := bytes_ext (by have : s.data.toList.length = 0 := by rw [size_list]; exact hz
                                            rw [List.length_eq_zero_iff] at this; rw [this])
          subst this; rfl
        rw [decide_eq_true this]
        unfold fitsV; rw [if_neg (by omega), if_pos d]; simp
    refine Br.of (fun d1 => ⟨_, cl q2 0, _, cl q2 1, _, cl q2 2, _, w2, eqVal _ _ v noV w2, out hp02 ?_⟩) (fun d1 => out hp02 ?_)
    · rw [← key, d1]; rfl
    · rw [← key, d1]; rfl
  rintro e w3 ⟨rfl, hp3⟩
  have hp03 := hp02.trans hp3
  refine ⟨_, rfl, Br.of (fun d1 => out hp03 (bad (bntrue d1))) (fun d1 => ⟨_, cl (b1 hp3) 0, _, cl (b1 hp3) 1, _, cl (b1 hp3) 2, _, cl (b1 hp3) 3, _, cl (b2 hp3) 0, _, cl (b2 hp3) 1, _, cl (b2 hp3) 2, (fit_c f p v hs w3).mono ?_⟩)⟩
  have hv := bnfalse d1
  have hF := fitS_fitted (f := f) (p := p) (v := v) (by rw [hf, hpg]; rfl) hv
  have key := fitted_holds (f := f) (p := p) hf hv (bfalse d)
  rintro e w4 ⟨rfl, hp4⟩
  rw [hF]
  refine ⟨_, _, _, _, rfl, boxA rfl s25.symm rfl fun w5 hp5 hs5 hb5 => ?_⟩
  have hp35 := (hp3.trans hp4).trans hp5
  have hp05 := hp02.trans hp35
  refine Br.of (fun d2 => ⟨_, cl hb5 0, _, cl hb5 1, _, cl hb5 2, _, cl (b2 hp35) 0, _, cl (b2 hp35) 1, _, cl (b2 hp35) 2, _, w5, eqVal _ _ (fitted f p v).1 v w5, out hp05 ?_⟩) (fun d2 => out hp05 ?_)
  · rw [← key, decide_eq_true (btrue d2)]; rfl
  · rw [← key, decide_eq_false (bfalse d2)]; rfl

/-! ### Records -/
theorem zip_at {l : List Fld} {vs : List Val} {i : Nat} {f : Fld} {v : Val} (h : l[i]? = some f) (h2 : vs[i]? = some v) : (l.zip vs)[i]? = some (f, v) := by
  rw [List.getElem?_zip_eq_some]; exact ⟨h, h2⟩
def fitAll (l : List Fld) (p : Int) (vs : List Val) : Bool := (l.zip vs).all (fun x => fitsV x.1 p x.2)
theorem validR_len {l : List Fld} {p : Int} {r : Rec} (h : r.v.length ≠ l.length) : validR l p r = 10 := by unfold validR; rw [if_pos h]
theorem validR_fit {l : List Fld} {p : Int} {r : Rec} (h : r.v.length = l.length) : validR l p r = if fitAll l p r.v then 0 else 1 := by unfold validR; rw [if_neg (by simp [h])]; rfl
theorem rValidRec_c {w : World} {s t : SV} {l : List Fld} {r : Rec} (p : Int) (h : RdSl w s l) (hr : RdSl w t r.v) : Calls Tryz.prog 74 #[.slice s.a s.len s.cap, .int .i64 p, .agg #[.bool r.gone, .slice t.a t.len t.cap]] w fun e w' => e = .returned (.int .i64 (validR l p r)) ∧ Pu w w' := by
  refine F74_calls _ _ _ _ w _ ?_
  refine alB fun w1 hp1 hb1 => ⟨t, cl hb1 1, ?_⟩
  have h1 := h.len
  have h2 := hr.len
  have h3 := h.lim
  refine Br.of (fun d => ⟨by rw [validR_len (by have := bntrue d; omega)], hp1⟩) (fun d => ?_)
  have hl : r.v.length = l.length := by have := bnfalse d; omega
  refine loopUp l.length (fun k u w' => u = (k : Int) ∧ ((l.zip r.v).take k).all (fun x => fitsV x.1 p x.2) = true ∧ Pu w1 w') ⟨rfl, rfl, Pu.refl _⟩ ?_
  rintro k J u w2 hk ⟨hu, hal, hp2⟩ hJ
  obtain rfl : u = (k : Int) := hu
  refine Br.of (fun d1 => ?_) (fun d1 => ?_)
  · have hk2 : k < l.length := by have := dtrue d1; omega
    obtain ⟨f, hf⟩ := at_k hk2
    obtain ⟨v, hv⟩ := at_k (show k < r.v.length by omega)
    refine dwE_intro fun w3 hp3 _ => ?_
    have hp13 := hp2.trans hp3
    obtain ⟨a, ha, hi, _, _, c, c0, c1, c2, c3⟩ := fldAt ((h.pu hp1).pu hp13) hf
    obtain ⟨b, hb, hbi, _, _, e0, e1, e2⟩ := valAt ((hr.pu hp1).pu hp13) hv
    refine ⟨a, ha, by omega, by omega, _, c0, _, c1, _, c2, _, c3, t, cl (hp13.blk hb1) 1, b, hb, by omega, by omega, _, e0, _, e1, _, e2, (rFits_c f p v w3).mono ?_⟩
    rintro e w4 ⟨rfl, hp4⟩
    have hz := zip_at hf hv
    refine ⟨_, rfl, Br.of (fun d2 => ⟨?_, hp1.trans (hp13.trans hp4)⟩) (fun d2 => ?_)⟩
    · have : fitAll l p r.v = false := by unfold fitAll; rw [List.all_eq_false]; exact ⟨_, List.mem_of_getElem? hz, by simpa using d2⟩
      rw [validR_fit hl, this]; rfl
    · rw [wrap_in (by omega) (by omega)]
      exact hJ _ _ hk2 ⟨by omega, by rw [all_take _ hz, hal, show fitsV f p v = true by simpa using d2]; rfl, hp13.trans hp4⟩
  · have hk2 : k = l.length := by have := dfalse d1; omega
    have : fitAll l p r.v = true := by unfold fitAll; rw [← hal, List.take_of_length_le (by rw [List.length_zip]; omega)]
    exact ⟨by rw [validR_fit hl, this]; rfl, hp1.trans hp2⟩
theorem firstBad_at {l : List Fld} {p : Int} : ∀ {rs : List Rec} {k : Nat} {r : Rec}, (∀ x ∈ rs.take k, validR l p x = 0) → rs[k]? = some r → validR l p r ≠ 0 → firstBad l p rs = validR l p r
  | [], k, r, _, h, _ => by simp at h
  | x :: rs, 0, r, _, h, h2 => by simp at h; subst h; unfold firstBad; rw [if_pos h2]
  | x :: rs, k + 1, r, h0, h, h2 => by
    unfold firstBad
    rw [if_neg (by rw [h0 x (by simp)]; simp)]
    exact firstBad_at (k := k) (fun y hy => h0 y (by simp [hy])) (by simpa using h) h2
theorem firstBad_none {l : List Fld} {p : Int} : ∀ {rs : List Rec}, (∀ x ∈ rs, validR l p x = 0) → firstBad l p rs = 0
  | [], _ => rfl
  | x :: rs, h => by unfold firstBad; rw [if_neg (by rw [h x (by simp)]; simp)]; exact firstBad_none fun y hy => h y (by simp [hy])
theorem validT_page {t : Tbl} (h : pageB t.page = false) : validT t = 1 := by unfold validT; rw [h]; rfl
theorem validT_fields {t : Tbl} (h : pageB t.page = true) (h2 : validF t.fields ≠ 0) : validT t = validF t.fields := by unfold validT; rw [h, if_pos rfl, if_pos h2]
theorem validT_many {t : Tbl} (h : pageB t.page = true) (h2 : validF t.fields = 0) (h3 : 300 < t.recs.length) : validT t = 3 := by unfold validT; rw [h, if_pos rfl, if_neg (by omega), if_pos h3]
theorem validT_recs {t : Tbl} (h : pageB t.page = true) (h2 : validF t.fields = 0) (h3 : ¬ 300 < t.recs.length) : validT t = firstBad t.fields t.page t.recs := by unfold validT; rw [h, if_pos rfl, if_neg (by omega), if_neg h3]
theorem validF_ok {l : List Fld} (h : validF l = 0) : l ≠ [] ∧ l.all fieldB = true ∧ (l.map (·.name)).Nodup ∧ l.length ≤ 16 ∧ wide l ≤ 2000 := by
  unfold validF at h
  split at h
  · omega
  · rename_i h1
    split at h
    · omega
    · rename_i h2
      split at h
      · omega
      · rename_i h3
        simp only [not_or] at h1 h3
        exact ⟨h1.1, by simpa using h1.2, by simpa using h2, by omega, by omega⟩
abbrev tblA (t : Tbl) (f r : SV) : Value := .agg #[.int .i64 t.page, .slice f.a f.len f.cap, .slice r.a r.len r.cap]
theorem rValidTbl_c {w : World} {t : Tbl} {f r : SV} (h : RdTbl w t f r) : Calls Tryz.prog 35 #[tblA t f r] w fun e w' => e = .returned (.int .i64 (validT t)) ∧ Pu w w' := by
  refine F35_calls _ _ _ w _ ?_
  refine alB fun w1 hp1 hb1 => ⟨_, cl0 hb1, (rIsPage_c t.page w1).mono ?_⟩
  rintro e w2 ⟨rfl, hp2⟩
  have h1 := h.recs.len
  have h3 := h.recs.lim
  refine ⟨_, rfl, Br.of (fun d => ⟨by rw [validT_page (by simpa using d)], hp1.trans hp2⟩) (fun d => ⟨_, cl (hp2.blk hb1) 1, (rValidFields_c (h.fields.pu (hp1.trans hp2))).mono ?_⟩)⟩
  have hpg : pageB t.page = true := by simpa using d
  rintro e w3 ⟨rfl, hp3⟩
  have hp13 := hp2.trans hp3
  refine ⟨_, rfl, Br.of (fun d1 => ⟨by rw [validT_fields hpg (bntrue d1)], hp1.trans hp13⟩) (fun d1 => ⟨_, cl (hp13.blk hb1) 2, Br.of (fun d2 => ⟨by rw [validT_many hpg (bnfalse d1) (by have := dtrue d2; omega)], hp1.trans hp13⟩) (fun d2 => ?_)⟩)⟩
  have hvf := bnfalse d1
  have e0 := validT_recs hpg hvf (by have := dfalse d2; omega)
  refine loopUp t.recs.length (fun k u w' => u = (k : Int) ∧ (∀ x ∈ t.recs.take k, validR t.fields t.page x = 0) ∧ Pu w1 w') ⟨rfl, by simp, hp13⟩ ?_
  rintro k J u w4 hk ⟨hu, hal, hp4⟩ hJ
  obtain rfl : u = (k : Int) := hu
  refine ⟨_, cl (hp4.blk hb1) 2, Br.of (fun d3 => dwE_intro fun w5 hp5 _ => ?_) (fun d3 => ?_)⟩
  · have hk2 : k < t.recs.length := by have := dtrue d3; omega
    obtain ⟨x, hx⟩ := at_k hk2
    have hp15 := hp4.trans hp5
    obtain ⟨a, q, ha, hi, hq, c0, c1⟩ := recAt ((h.recs.pu hp1).pu hp15) hx
    refine ⟨_, cl (hp15.blk hb1) 1, _, cl0 (hp15.blk hb1), _, cl (hp15.blk hb1) 2, a, ha, by omega, by omega, _, c0, _, c1, (rValidRec_c t.page ((h.fields.pu hp1).pu hp15) hq).mono ?_⟩
    rintro e w6 ⟨rfl, hp6⟩
    refine ⟨_, rfl, Br.of (fun d4 => ⟨by rw [e0, firstBad_at hal hx (bntrue d4)], hp1.trans (hp15.trans hp6)⟩) (fun d4 => ?_)⟩
    rw [wrap_in (by omega) (by omega)]
    refine hJ _ _ hk2 ⟨by omega, fun y hy => ?_, hp15.trans hp6⟩
    rw [take_at hx, List.mem_append, List.mem_singleton] at hy
    rcases hy with hy | rfl
    · exact hal y hy
    · exact bnfalse d4
  · have hk2 : k = t.recs.length := by have := dfalse d3; omega
    subst hk2
    rw [List.take_length] at hal
    exact ⟨by rw [e0, firstBad_none hal], hp1.trans hp4⟩
theorem validTbl_c {w : World} {t : Tbl} {f r : SV} (h : RdTbl w t f r) (hl : Lim.ok t.fields) : Calls Tryz.prog 34 #[tblA t f r] w fun e w' => e = .returned (.int .i64 (validT t)) ∧ Pu w w' := by
  refine F34_calls _ _ _ w _ ?_
  refine alB fun w1 hp1 hb1 => ⟨_, cl0 hb1, (isPage_c t.page w1).mono ?_⟩
  rintro e w2 ⟨rfl, hp2⟩
  have h1 := h.recs.len
  have h3 := h.recs.lim
  have h1f := h.fields.len
  have h3f := h.fields.lim
  refine ⟨_, rfl, Br.of (fun d => ⟨by rw [validT_page (by simpa using d)], hp1.trans hp2⟩) (fun d => ⟨_, cl (hp2.blk hb1) 1, (validFields_c (h.fields.pu (hp1.trans hp2)) hl).mono ?_⟩)⟩
  have hpg : pageB t.page = true := by simpa using d
  rintro e w3 ⟨rfl, hp3⟩
  have hp13 := hp2.trans hp3
  refine ⟨_, rfl, Br.of (fun d1 => ⟨by rw [validT_fields hpg (bntrue d1)], hp1.trans hp13⟩) (fun d1 => ⟨_, cl (hp13.blk hb1) 2, Br.of (fun d2 => ⟨by rw [validT_many hpg (bnfalse d1) (by have := dtrue d2; omega)], hp1.trans hp13⟩) (fun d2 => ⟨_, cl (hp13.blk hb1) 2, ?_⟩)⟩)⟩
  have hvf := bnfalse d1
  obtain ⟨_, hall, _, _, _⟩ := validF_ok hvf
  have e0 := validT_recs hpg hvf (by have := dfalse d2; omega)
  refine loopUp t.recs.length (fun k u w' => u = (k : Int) ∧ (∀ x ∈ t.recs.take k, validR t.fields t.page x = 0) ∧ Pu w1 w') ⟨rfl, by simp, hp13⟩ ?_
  rintro k J u w4 hk ⟨hu, hal, hp4⟩ hJ
  obtain rfl : u = (k : Int) := hu
  refine Br.of (fun d3 => ?_) (fun d3 => ?_)
  · have hk2 : k < t.recs.length := by have := dtrue d3; omega
    obtain ⟨x, hx⟩ := at_k hk2
    obtain ⟨a, q, ha, hi, hq, c0, c1⟩ := recAt ((h.recs.pu hp1).pu hp4) hx
    have next : ∀ {w6 : World}, Pu w4 w6 → validR t.fields t.page x = 0 → F34_2 (fun e w' => e = .returned (.int .i64 (validT t)) ∧ Pu w w') J (some (⟨w.heap.size, 0, none⟩ : Addr)) r ((r.len : Nat) : Int) (k : Int) [] w6 := fun {w6} hp6 h0 => by
      show J (IntKind.i64.wrap ((k : Int) + 1)) w6
      rw [wrap_in (by omega) (by omega)]
      refine hJ _ _ hk2 ⟨by omega, fun y hy => ?_, hp4.trans hp6⟩
      rw [take_at hx, List.mem_append, List.mem_singleton] at hy
      rcases hy with hy | rfl
      · exact hal y hy
      · exact h0
    have hql := hq.len
    refine ⟨a, ha, by omega, by omega, _, c0, _, c1, boxA rfl (by kernel_rfl) rfl fun w5 hp5 hs5 hb5 => ⟨_, cl hb5 1, _, cl ((hp4.trans hp5).blk hb1) 1, Br.of (fun d4 => ?_) (fun d4 => ⟨_, cl ((hp4.trans hp5).blk hb1) 1, ?_⟩)⟩⟩
    · have : validR t.fields t.page x = 10 := validR_len (by have := bntrue d4; omega)
      exact ⟨by rw [e0, firstBad_at hal hx (by rw [this]; omega), this], hp1.trans (hp4.trans hp5)⟩
    have hlen : x.v.length = t.fields.length := by have := bnfalse d4; omega
    have hp15 := hp4.trans hp5
    refine loopUp t.fields.length (fun j u w' => u = (j : Int) ∧ ((t.fields.zip x.v).take j).all (fun y => fitsV y.1 t.page y.2) = true ∧ Pu w5 w') ⟨rfl, rfl, Pu.refl _⟩ ?_
    rintro j J2 u w6 hj ⟨hu, haz, hp6⟩ hJ2
    obtain rfl : u = (j : Int) := hu
    have hp16 := hp15.trans hp6
    refine Br.of (fun d5 => ?_) (fun d5 => ?_)
    · have hj2 : j < t.fields.length := by have := dtrue d5; omega
      obtain ⟨g, hg⟩ := at_k hj2
      obtain ⟨v, hv⟩ := at_k (show j < x.v.length by omega)
      obtain ⟨b, hb, hbi, _, _, c', k0, k1, k2, k3⟩ := fldAt ((h.fields.pu hp1).pu hp16) hg
      refine ⟨b, hb, by omega, by omega, _, k0, _, k1, _, k2, _, k3, boxA rfl s23.symm rfl fun w7 hp7 hs7 hb7 => dwE_intro fun w8 hp8 _ => ?_⟩
      have hp68 := hp7.trans hp8
      have hp18 := hp16.trans hp68
      have hb8 := hp8.blk hb7
      obtain ⟨m, hm, hmi, _, _, v0, v1, v2⟩ := valAt (hq.pu ((hp5.trans hp6).trans hp68)) hv
      refine ⟨_, cl hb8 0, _, cl hb8 1, _, cl hb8 2, _, cl hb8 3, _, cl0 (hp18.blk hb1), q, cl ((hp6.trans hp68).blk hb5) 1, m, hm, by omega, by omega, _, v0, _, v1, _, v2, (holds_c g t.page v (hl g (List.mem_of_getElem? hg)) (List.all_eq_true.1 hall g (List.mem_of_getElem? hg)) hpg w8).mono ?_⟩
      rintro e w9 ⟨rfl, hp9⟩
      have hz := zip_at hg hv
      refine ⟨_, rfl, Br.of (fun d6 => ?_) (fun d6 => ?_)⟩
      · have : fitAll t.fields t.page x.v = false := by unfold fitAll; rw [List.all_eq_false]; exact ⟨_, List.mem_of_getElem? hz, by simpa using d6⟩
        have h1 : validR t.fields t.page x = 1 := by rw [validR_fit hlen, this]; rfl
        exact ⟨by rw [e0, firstBad_at hal hx (by rw [h1]; omega), h1], hp1.trans (hp18.trans hp9)⟩
      · rw [wrap_in (by omega) (by omega)]
        exact hJ2 _ _ hj2 ⟨by omega, by rw [all_take _ hz, haz, show fitsV g t.page v = true by simpa using d6]; rfl, (hp6.trans hp68).trans hp9⟩
    · have hj2 : j = t.fields.length := by have := dfalse d5; omega
      have : fitAll t.fields t.page x.v = true := by unfold fitAll; rw [← haz, List.take_of_length_le (by rw [List.length_zip]; omega)]
      exact next (hp5.trans hp6) (by rw [validR_fit hlen, this]; rfl)
  · have hk2 : k = t.recs.length := by have := dfalse d3; omega
    subst hk2
    rw [List.take_length] at hal
    exact ⟨by rw [e0, firstBad_none hal], hp1.trans hp4⟩
end Go.Proofs.YtecmfdfhpldmmaaGreatDoor
