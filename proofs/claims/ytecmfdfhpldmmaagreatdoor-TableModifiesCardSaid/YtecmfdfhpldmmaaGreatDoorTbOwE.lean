import Derived.Test.YtecmfdfhpldmmaaGreatDoorTbOwD
import Derived.Test.YtecmfdfhpldmmaaGreatDoorTbPrC
/- Table: a value that is moved into another field, by the program. No condition. -/
set_option maxRecDepth 100000
set_option maxHeartbeats 1000000
set_option linter.unusedVariables false
set_option linter.unusedSimpArgs false
namespace Go.Proofs.YtecmfdfhpldmmaaGreatDoor
open Go.Sh Go.RowKit
noncomputable def fitF (f : Fld) (p : Int) (x : Val) : Val := if (fitted f p x).2 = 0 then (fitted f p x).1 else emptyV f
noncomputable def movedS (l : List Fld) (p : Int) (r : Rec) (f : Fld) : Val := match idxN l f.name with
  | none => emptyV f
  | some j => match l[j]?, r.v[j]? with
    | some g, some v => fitF f p ((convO g.kind f.kind v).getD (emptyV f))
    | _, _ => emptyV f
theorem idxN_at {l : List Fld} {s : ByteArray} {j : Nat} (h : idxN l s = some j) : ∃ g, l[j]? = some g := by
  unfold idxN at h
  obtain ⟨h1, _⟩ := List.findIdx?_eq_some_iff_getElem.1 h
  exact ⟨_, List.getElem?_eq_getElem h1⟩
theorem movedS_some {l : List Fld} {p : Int} {r : Rec} {f g : Fld} {j : Nat} {v : Val} (h : idxN l f.name = some j) (hg : l[j]? = some g) (hv : r.v[j]? = some v) : movedS l p r f = fitF f p ((convO g.kind f.kind v).getD (emptyV f)) := by
  unfold movedS; rw [h]; simp only [hg, hv]
theorem movedS_none {l : List Fld} {p : Int} {r : Rec} {f : Fld} (h : idxN l f.name = none) : movedS l p r f = emptyV f := by
  unfold movedS; rw [h]
theorem fitF_empty (f : Fld) (p : Int) : fitF f p (emptyV f) = emptyV f := by
  unfold fitF
  split
  · rename_i h
    unfold fitted at h ⊢
    split at h
    · rename_i h0
      rw [if_pos h0]
      split at h
      · rename_i h1; rw [if_pos h1]
      · cases h
    · rename_i h0
      rw [if_neg h0]
      split at h
      · cases h
      · rename_i h1
        rw [if_neg h1]
        split at h
        · rename_i h2
          rw [if_pos h2]
          have e : (emptyV f).s.data.toList = [] := by unfold emptyV; split <;> rfl
          split at h
          · rename_i h3
            rw [if_pos h3, e]
            unfold emptyV
            rw [if_neg (by omega), h2]
            simp [bare]
          · cases h
        · rename_i h2
          rw [if_neg h2]
          split at h
          · rename_i h3; rw [if_pos h3]
          · cases h
  · rfl
theorem validV_str {s : ByteArray} (h : s.size <= 2048) : validV ⟨4, 0, s⟩ = 0 := by
  unfold validV okN
  rw [if_neg (by show ¬ 2048 < s.size; omega)]
  simp
theorem validV_num {n : Int} (h : -1000000000000000 <= n /\ n <= 1000000000000000) : validV ⟨2, n, ⟨#[]⟩⟩ = 0 := by
  unfold validV okN; simp [h.1, h.2]; decide
theorem decI_small {n : Int} (h : -1000000000000000 <= n /\ n <= 1000000000000000) : (decI n).length <= 2048 := by
  have := decN_short 16 n.natAbs (by omega)
  unfold decI
  split <;> simp <;> omega
theorem convO_valid {g : Fld} {p b : Int} {v x : Val} (h : RightV g p v) (hx : convO g.kind b v = some x) : validV x = 0 := by
  unfold convO at hx
  split at hx
  · have := Option.some.inj hx; subst this; exact h.valid
  rename_i h0
  have hk0 : v.kind ≠ 0 := fun e => h0 (.inl e)
  split at hx
  · rename_i k
    have := Option.some.inj hx; subst this
    have hn : -1000000000000000 <= v.n /\ v.n <= 1000000000000000 := by
      cases h with
      | nil hv hn => rw [hv] at hk0; exact absurd rfl hk0
      | num hk hw hv hn hl => exact hn
      | _ => omega
    exact validV_str (by rw [bs_size]; exact decI_small hn)
  split at hx
  · have := Option.some.inj hx; subst this; exact validV_num (valS_in _)
  split at hx
  · rename_i k
    have := Option.some.inj hx; subst this
    have hn : 0 <= v.n /\ v.n <= 3652059 := by
      cases h with
      | nil hv hn => rw [hv] at hk0; exact absurd rfl hk0
      | date hk hw hv hn => exact hn
      | _ => omega
    exact validV_str (by rw [bs_size, stampB_len hn]; decide)
  split at hx
  · have := Option.some.inj hx; subst this
    have hu := unstampS_in v.s.data.toList
    unfold validV okN; simp [hu.1, hu.2]; decide
  split at hx
  · have := Option.some.inj hx; subst this; exact validV_str (by rw [bs_size]; simp)
  split at hx
  · have := Option.some.inj hx; subst this
    unfold validV okN; split <;> simp <;> decide
  · cases hx
theorem validV_in {v : Val} (h : validV v = 0) : In64 v.kind /\ In64 v.n := by
  obtain ⟨_, h2, _⟩ := valid_ok h
  unfold okN at h2
  have hk : (v.kind = 0 /\ v.n = 0) ∨ (v.kind = 1 /\ (v.n = 0 ∨ v.n = 1)) ∨ (v.kind = 2 /\ -1000000000000000 <= v.n /\ v.n <= 1000000000000000) ∨ (v.kind = 3 /\ 0 <= v.n /\ v.n <= 3652059) ∨ (v.kind = 4 /\ v.n = 0) := by
    split at h2
    · rename_i h; exact .inl ⟨h, by simpa using h2⟩
    split at h2
    · rename_i h; exact .inr (.inl ⟨h, by simpa using h2⟩)
    split at h2
    · rename_i h; exact .inr (.inr (.inl ⟨h, by simpa using h2⟩))
    split at h2
    · rename_i h; exact .inr (.inr (.inr (.inl ⟨h, by simpa using h2⟩)))
    split at h2
    · rename_i h; exact .inr (.inr (.inr (.inr ⟨h, by simpa using h2⟩)))
    · cases h2
  refine ⟨⟨by omega, by omega⟩, ⟨by omega, by omega⟩⟩
theorem emptyV_in {f : Fld} (hk : In64 f.kind) : In64 (emptyV f).kind /\ In64 (emptyV f).n := by
  unfold emptyV
  split
  · exact ⟨⟨by decide, by decide⟩, ⟨by decide, by decide⟩⟩
  · exact ⟨hk, ⟨by show (-9223372036854775808 : Int) <= 0; decide, by show (0 : Int) <= 9223372036854775807; decide⟩⟩
theorem fitted_in {f : Fld} {p : Int} {x : Val} (hx : In64 x.kind /\ In64 x.n) : In64 (fitted f p x).1.kind /\ In64 (fitted f p x).1.n := by
  have hn : In64 noV.kind /\ In64 noV.n := ⟨⟨by decide, by decide⟩, ⟨by decide, by decide⟩⟩
  unfold fitted
  split
  · split
    · exact hx
    · exact hn
  split
  · exact hn
  split
  · split
    · exact ⟨(⟨by decide, by decide⟩ : In64 4), (⟨by decide, by decide⟩ : In64 0)⟩
    · exact hn
  split
  · exact hx
  · exact hn
theorem fitF_in {f : Fld} {p : Int} {x : Val} (hk : In64 f.kind) (hx : In64 x.kind /\ In64 x.n) : In64 (fitF f p x).kind /\ In64 (fitF f p x).n := by
  unfold fitF
  split
  · exact fitted_in hx
  · exact emptyV_in hk
theorem movedS_in {l : List Fld} {p : Int} {r : Rec} {f : Fld} (hk : In64 f.kind) (hr : RightR l p r.v) : In64 (movedS l p r f).kind /\ In64 (movedS l p r f).n := by
  cases h : idxN l f.name with
  | none => rw [movedS_none h]; exact emptyV_in hk
  | some j =>
    obtain ⟨g, hg⟩ := idxN_at h
    obtain ⟨v, hv⟩ := at_k (l := r.v) (k := j) (by have := (List.getElem?_eq_some_iff.1 hg).1; have := hr.1; omega)
    rw [movedS_some h hg hv]
    refine fitF_in hk ?_
    cases hc : convO g.kind f.kind v with
    | none => exact emptyV_in hk
    | some x => exact validV_in (convO_valid (hr.2 j g v hg hv) hc)
def t86 (R : Rt) (r3 r5 r6 r9 : Nat) (w : World) : Prop :=
 ∃ s41_0 : ByteArray, w.cell? ((⟨r5, 0, none⟩ : Addr).add 0) = some (.string s41_0) /\
 ∃ n41_1 : Int, w.cell? ((⟨r5, 0, none⟩ : Addr).add 1) = some (.int .i64 n41_1) /\
 ∃ n41_2 : Int, w.cell? ((⟨r5, 0, none⟩ : Addr).add 2) = some (.int .i64 n41_2) /\
 ∃ b41_3 : Bool, w.cell? ((⟨r5, 0, none⟩ : Addr).add 3) = some (.bool b41_3) /\
 ∃ n43 : Int, w.cell? (⟨r3, 0, none⟩ : Addr) = some (.int .i64 n43) /\
 ∃ n44_0 : Int, w.cell? ((⟨r9, 0, none⟩ : Addr).add 0) = some (.int .i64 n44_0) /\
 ∃ n44_1 : Int, w.cell? ((⟨r9, 0, none⟩ : Addr).add 1) = some (.int .i64 n44_1) /\
 ∃ s44_2 : ByteArray, w.cell? ((⟨r9, 0, none⟩ : Addr).add 2) = some (.string s44_2) /\
 Calls Tryz.prog 13 #[.agg #[.string s41_0, .int .i64 n41_1, .int .i64 n41_2, .bool b41_3], .int .i64 n43, .agg #[.int .i64 n44_0, .int .i64 n44_1, .string s44_2]] w fun e w16 =>
 ∃ n45_0_0 : Int, ∃ n45_0_1 : Int, ∃ s45_0_2 : ByteArray, ∃ n45_1 : Int, e = .returned (.tuple #[.agg #[.int .i64 n45_0_0, .int .i64 n45_0_1, .string s45_0_2], .int .i64 n45_1]) /\
 alE (.cells #[.int .i64 0, .int .i64 0, .string (⟨#[]⟩ : ByteArray)] 25) w16 fun r10 w17 =>
 stA Tryz.prog 25 (⟨r10, 0, none⟩ : Addr) #[.int .i64 n45_0_0, .int .i64 n45_0_1, .string s45_0_2] w17 fun w18 =>
 Br (n45_1 != 0) (
 ∃ s50_0 : ByteArray, w18.cell? ((⟨r5, 0, none⟩ : Addr).add 0) = some (.string s50_0) /\
 ∃ n50_1 : Int, w18.cell? ((⟨r5, 0, none⟩ : Addr).add 1) = some (.int .i64 n50_1) /\
 ∃ n50_2 : Int, w18.cell? ((⟨r5, 0, none⟩ : Addr).add 2) = some (.int .i64 n50_2) /\
 ∃ b50_3 : Bool, w18.cell? ((⟨r5, 0, none⟩ : Addr).add 3) = some (.bool b50_3) /\
 Calls Tryz.prog 50 #[.agg #[.string s50_0, .int .i64 n50_1, .int .i64 n50_2, .bool b50_3]] w18 fun e w19 =>
 ∃ n51_0 : Int, ∃ n51_1 : Int, ∃ s51_2 : ByteArray, e = .returned (.agg #[.int .i64 n51_0, .int .i64 n51_1, .string s51_2]) /\
 stA Tryz.prog 25 (⟨r6, 0, none⟩ : Addr) #[.int .i64 n51_0, .int .i64 n51_1, .string s51_2] w19 fun w20 =>
 runD Tryz.prog [] w20 fun w21 =>
 ∃ nR0_0 : Int, w21.cell? ((⟨r6, 0, none⟩ : Addr).add 0) = some (.int .i64 nR0_0) /\
 ∃ nR0_1 : Int, w21.cell? ((⟨r6, 0, none⟩ : Addr).add 1) = some (.int .i64 nR0_1) /\
 ∃ sR0_2 : ByteArray, w21.cell? ((⟨r6, 0, none⟩ : Addr).add 2) = some (.string sR0_2) /\
 R (.returned (.agg #[.int .i64 nR0_0, .int .i64 nR0_1, .string sR0_2])) w21) (
 ∃ n52_0 : Int, w18.cell? ((⟨r10, 0, none⟩ : Addr).add 0) = some (.int .i64 n52_0) /\
 ∃ n52_1 : Int, w18.cell? ((⟨r10, 0, none⟩ : Addr).add 1) = some (.int .i64 n52_1) /\
 ∃ s52_2 : ByteArray, w18.cell? ((⟨r10, 0, none⟩ : Addr).add 2) = some (.string s52_2) /\
 stA Tryz.prog 25 (⟨r6, 0, none⟩ : Addr) #[.int .i64 n52_0, .int .i64 n52_1, .string s52_2] w18 fun w22 =>
 runD Tryz.prog [] w22 fun w23 =>
 ∃ nR0_0 : Int, w23.cell? ((⟨r6, 0, none⟩ : Addr).add 0) = some (.int .i64 nR0_0) /\
 ∃ nR0_1 : Int, w23.cell? ((⟨r6, 0, none⟩ : Addr).add 1) = some (.int .i64 nR0_1) /\
 ∃ sR0_2 : ByteArray, w23.cell? ((⟨r6, 0, none⟩ : Addr).add 2) = some (.string sR0_2) /\
 R (.returned (.agg #[.int .i64 nR0_0, .int .i64 nR0_1, .string sR0_2])) w23)
theorem moved_c {w : World} {t : Tbl} {fs rs sv : SV} {r : Rec} {f : Fld} (hf : RdSl w fs t.fields) (hv : RdSl w sv r.v) (hr : RightR t.fields t.page r.v) (hpg : pageB t.page = true) (hfB : fieldB f = true) (hnm : f.name.size <= 140737488355328) :
    Calls Tryz.prog 86 #[tblA t fs rs, .agg #[.bool r.gone, .slice sv.a sv.len sv.cap], fldA f] w fun e w' => e = .returned (valA (movedS t.fields t.page r f)) /\ Pu w w' := by
  refine F86_calls _ _ _ _ _ _ _ _ _ w _ (alB fun w1 hp1 hb1 => alB fun w2 hp2 hb2 => alB fun w3 hp3 hb3 => alB fun w4 hp4 hb4 => ?_)
  have hp := ((hp1.trans hp2).trans hp3).trans hp4
  have b1 : ∀ {wz}, Pu w4 wz -> _ := fun {wz} (h : Pu w4 wz) => tbl_blk (t := t) (f := fs) (q := rs) (h.blk (((hp2.trans hp3).trans hp4).blk hb1))
  have c1 : ∀ {wz}, Pu w4 wz -> _ := fun {wz} (h : Pu w4 wz) => cl0 (h.blk (((hp2.trans hp3).trans hp4).blk hb1))
  have q2 : ∀ {wz}, Pu w4 wz -> _ := fun {wz} (h : Pu w4 wz) => h.blk ((hp3.trans hp4).blk hb2)
  have q3 : ∀ {wz}, Pu w4 wz -> _ := fun {wz} (h : Pu w4 wz) => h.blk (hp4.blk hb3)
  have lt3 : w2.heap.size < w3.heap.size := blk_lt hb3
  have lt4 : w3.heap.size < w4.heap.size := blk_lt hb4
  have z1 := ((hp1.trans hp2).trans hp3).size
  have out : ∀ {x : Val} {w' : World}, Pu w4 w' -> x = movedS t.fields t.page r f -> stA Tryz.prog 25 (⟨w3.heap.size, 0, none⟩ : Addr) #[.int .i64 x.kind, .int .i64 x.n, .string x.s] w' fun w5 => runD Tryz.prog [] w5 fun w5 =>
      ∃ nR0_0 : Int, w5.cell? ((⟨w3.heap.size, 0, none⟩ : Addr).add 0) = some (.int .i64 nR0_0) /\ ∃ nR0_1 : Int, w5.cell? ((⟨w3.heap.size, 0, none⟩ : Addr).add 1) = some (.int .i64 nR0_1) /\ ∃ sR0_2 : ByteArray, w5.cell? ((⟨w3.heap.size, 0, none⟩ : Addr).add 2) = some (.string sR0_2) /\
      (Ending.returned (.agg #[.int .i64 nR0_0, .int .i64 nR0_1, .string sR0_2]) = .returned (valA (movedS t.fields t.page r f)) /\ Pu w w5) := fun {x w'} hz h1 =>
    stA_fill (hz.blk hb4) s25.symm rfl rfl fun w5 hb5 hf5 hs5 => ⟨_, cl hb5 0, _, cl hb5 1, _, cl hb5 2, by rw [← h1], (hp.trans hz).andNew hf5 fun i hi => by omega⟩
  refine ⟨fs, (b1 (Pu.refl _)).2.1, f.name, cl0 (q3 (Pu.refl _)), (index_c (hf.pu hp) f.name).mono ?_⟩
  rintro e w5 ⟨rfl, hp5⟩
  refine ⟨_, _, rfl, Br.of (fun d => ⟨_, cl (q3 hp5) 0, _, cl (q3 hp5) 1, _, cl (q3 hp5) 2, _, cl (q3 hp5) 3, (empty_c f w5).mono ?_⟩) (fun d => ?_)⟩
  · rintro e w6 ⟨rfl, hp6⟩
    exact ⟨_, _, _, rfl, out (x := emptyV f) (hp5.trans hp6) (movedS_none (by simpa using d)).symm⟩
  obtain ⟨j, hj⟩ : ∃ j, idxN t.fields f.name = some j := by
    cases h : idxN t.fields f.name with
    | none => rw [h] at d; cases d
    | some j => exact ⟨j, rfl⟩
  have hk : idxK t.fields f.name = (j : Int) := by unfold idxK; rw [hj]; rfl
  rw [hk]
  obtain ⟨g, hg⟩ := idxN_at hj
  obtain ⟨v, hvj⟩ := at_k (l := r.v) (k := j) (by have := (List.getElem?_eq_some_iff.1 hg).1; have := hr.1; omega)
  have hRv := hr.2 j g v hg hvj
  have hms := movedS_some (p := t.page) hj hg hvj
  obtain ⟨a9, ha9, hi9, _, _, v0, v1, v2⟩ := valAt (hv.pu (hp.trans hp5)) hvj
  have hfl := (hf.pu hp).len
  have tail : ∀ {wz : World} {r9 : Nat} {x : Val}, Pu w4 wz -> wz.heap[r9]? = some (.cells #[.int .i64 x.kind, .int .i64 x.n, .string x.s] 25) -> (validV x = 0 ∨ x = emptyV f) -> x = (convO g.kind f.kind v).getD (emptyV f) ->
      t86 (fun e w' => e = .returned (valA (movedS t.fields t.page r f)) /\ Pu w w') w.heap.size w2.heap.size w3.heap.size r9 wz := fun {wz r9 x} hz hb9 hx hxe => by
    refine ⟨_, cl (q3 hz) 0, _, cl (q3 hz) 1, _, cl (q3 hz) 2, _, cl (q3 hz) 3, _, c1 hz, _, cl hb9 0, _, cl hb9 1, _, cl hb9 2, (fit_c f t.page x hnm wz).mono ?_⟩
    rintro e w7 ⟨rfl, hp7⟩
    refine ⟨_, _, _, _, rfl, boxA rfl s25.symm rfl fun w8 hp8 hs8 hb8 => ?_⟩
    have h8 := (hz.trans hp7).trans hp8
    have hres : ((fitS f t.page x).2 = 0 -> (fitS f t.page x).1 = movedS t.fields t.page r f) /\ ((fitS f t.page x).2 ≠ 0 -> emptyV f = movedS t.fields t.page r f) := by
      rw [hms, ← hxe]
      rcases hx with hx | hx
      · rw [fitS_fitted (by rw [hfB, hpg]; rfl) hx]
        unfold fitF
        exact ⟨fun h => by rw [if_pos h], fun h => by rw [if_neg h]⟩
      · subst hx
        rw [fitF_empty]
        refine ⟨fun h => ?_, fun _ => rfl⟩
        by_cases h0 : validV (emptyV f) = 0
        · rw [fitS_fitted (by rw [hfB, hpg]; rfl) h0] at h ⊢
          have := fitF_empty f t.page
          unfold fitF at this
          rw [if_pos h] at this; exact this
        · rw [fitS_invalid (by rw [hfB, hpg]; rfl) h0] at h
          exact absurd h h0
    refine Br.of (fun d1 => ⟨_, cl (q3 h8) 0, _, cl (q3 h8) 1, _, cl (q3 h8) 2, _, cl (q3 h8) 3, (empty_c f w8).mono ?_⟩) (fun d1 => ⟨_, cl hb8 0, _, cl hb8 1, _, cl hb8 2, out (x := (fitS f t.page x).1) h8 (hres.1 (bnfalse d1))⟩)
    rintro e w9 ⟨rfl, hp9⟩
    exact ⟨_, _, _, rfl, out (x := emptyV f) (h8.trans hp9) (hres.2 (bntrue d1))⟩
  refine ⟨sv, cl (q2 hp5) 1, a9, ha9, by omega, by omega, _, v0, _, v1, _, v2, boxA rfl s25.symm rfl fun w6 hp6 hs6 hb6 => ?_⟩
  have h6 := hp5.trans hp6
  refine ⟨_, cl0 hb6, Br.of (fun d1 => dwE_intro fun w7 hp7 _ => ?_) (fun d1 => ?_)⟩
  · have h7 := h6.trans hp7
    obtain ⟨a13, ha13, hi13, _, _, _, g0, g1, g2, g3⟩ := fldAt (hf.pu (hp.trans h7)) hg
    have b7 := hp7.blk hb6
    refine ⟨fs, (b1 h7).2.1, a13, ha13, by omega, by omega, _, g0, _, g1, _, g2, _, g3, _, cl (q3 h7) 0, _, cl (q3 h7) 1, _, cl (q3 h7) 2, _, cl (q3 h7) 3, _, cl b7 0, _, cl b7 1, _, cl b7 2, (conv_c hRv (bntrue d1) w7).mono ?_⟩
    rintro e w8 ⟨rfl, hp8⟩
    have z5 := hp5.size
    refine ⟨_, _, _, rfl, stA_fill (hp8.blk b7) s25.symm rfl rfl fun w9 hb9 hf9 hs9 => tail ((h7.trans hp8).andNew hf9 fun i hi => by omega) hb9 ?_ rfl⟩
    cases hc : convO g.kind f.kind v with
    | none => exact .inr rfl
    | some x => exact .inl (convO_valid hRv hc)
  · have h0 : v.kind = 0 := bnfalse d1
    have hc : convO g.kind f.kind v = some v := by unfold convO; rw [if_pos (.inl h0)]
    exact tail h6 hb6 (.inl hRv.valid) (by rw [hc]; rfl)
end Go.Proofs.YtecmfdfhpldmmaaGreatDoor

/- Table: a table with other fields, by both packages; the law. No condition. -/
set_option maxRecDepth 100000
set_option maxHeartbeats 1000000
set_option linter.unusedVariables false
set_option linter.unusedSimpArgs false
namespace Go.Proofs.YtecmfdfhpldmmaaGreatDoor
open Go.Sh Go.RowKit
noncomputable def modR (t : Tbl) (l : List Fld) (r : Rec) : Rec := ⟨r.gone, l.map (movedS t.fields t.page r)⟩
noncomputable def modT (t : Tbl) (l : List Fld) : Tbl × Int := if validT t ≠ 0 then (⟨0, [], []⟩, validT t) else if validF l ≠ 0 then (⟨0, [], []⟩, validF l) else (⟨t.page, l, t.recs.map (modR t l)⟩, 0)
def ResM (w : World) (T : Tbl × Int) : Rt := fun e w' => ∃ f' q' : SV, e = .returned (.tuple #[tblA T.1 f' q', .int .i64 T.2]) /\ OwnT w w' T.1 f' q' /\ Pu w w'
theorem NewF.top {w0 w : World} {s : SV} {l : List Fld} (h : NewF w0 w s l) : ∀ b ∈ blkOf s, b < w.heap.size := fun b hb => by
  obtain ⟨⟨_, rfl | ⟨g, cur, h3, h4, _⟩⟩, _⟩ := h
  · simp [blkOf] at hb
  · simp [blkOf, h3] at hb
    subst hb
    exact blk_lt h4
theorem NewF.cat {w0 w : World} {s0 s : SV} {l : List Fld} (h : NewF w0 w s0 []) (hz : w0.heap.size <= w.heap.size) (hl : RdSl w s l) (hb : l.length <= 1000000) :
    ∃ (s' : SV) (w' : World), (Builtin.append_ #[32, 32] 32 #[.slice s0.a s0.len s0.cap, .slice s.a s.len s.cap]).run Tryz.prog w = .ok (.slice s'.a s'.len s'.cap) w' /\ NewF w0 w' s' l /\ Fr (· ∈ blkOf s0) w w' := by
  have h1 := h.len
  have h2 := hl.len
  obtain ⟨s', w', hra, hrow, hf, hblk, _⟩ := row_append_any (P := Tryz.prog) (ty := 32) u32' info23 rfl (by decide) h.1 (A := s.a) (m := s.len) (c := s.cap) (news := l.flatMap fldV) (by rw [flatMap_len fldV_len, h2]) (fun j u hu => by
    have hj : j < l.length * 4 := by have := (List.getElem?_eq_some_iff.1 hu).1; rw [flatMap_len fldV_len] at this; exact this
    obtain ⟨f, hf⟩ := at_k (l := l) (k := j / 4) (by omega)
    have e : j = j / 4 * 4 + j % 4 := by omega
    rw [e, flatMap_at fldV_len hf (j % 4) (Nat.mod_lt _ (by decide))] at hu
    obtain ⟨a, ha, vs, ⟨rfl, _⟩, hc⟩ := hl.get _ f hf
    refine ⟨a, ha, ?_⟩
    rw [e, ← Addr.add_add]
    exact hc _ _ hu) (fun u hu => by
    obtain ⟨f, _, hf⟩ := List.mem_flatMap.1 hu
    simp [fldV] at hf; rcases hf with rfl | rfl | rfl | rfl <;> rfl) (by simp at h1; omega)
  refine ⟨s', w', hra, ⟨by simpa using hrow, fun b hb => ?_⟩, hf⟩
  rcases hblk b hb with h2 | h2
  · exact h.2 b h2
  · omega
theorem clone_c {w : World} {s : SV} {l : List Fld} (hl : RdSl w s l) (hne : l ≠ []) (hb : l.length <= 1000000) : Calls Tryz.prog 85 #[.slice s.a s.len s.cap] w fun e w' => ∃ q : SV, e = .returned (.slice q.a q.len q.cap) /\ NewF w w' q l /\ Pu w w' := by
  obtain ⟨x, hx⟩ := at_k (l := l) (k := 0) (List.length_pos_iff.2 hne)
  obtain ⟨a, ha, _⟩ := hl.get 0 x hx
  refine F85_calls _ w _ ⟨_, w, eqS_slice_nil u32' _ _ _ _ _ _, Br.f (by rw [ha]; rfl) (alB fun w1 hp1 hb1 => ?_)⟩
  have h0 : NewF w w1 ⟨some ⟨w.heap.size, 0, none⟩, 0, 0⟩ [] := ⟨⟨by simp, .inr ⟨w.heap.size, #[], rfl, hb1, Nat.le_refl _, Nat.zero_le _, by simp, by simp⟩⟩, fun b hb => by simp [blkOf] at hb; omega⟩
  obtain ⟨q, w2, e2, h2, f2⟩ := h0.cat hp1.size (hl.pu hp1) hb
  exact ⟨q, w2, e2, q, rfl, h2, hp1.andNew f2 fun i hi => h0.2 i hi⟩
structure VRow (w0 wr : World) (r6 : Nat) (g : Bool) (vs : List Val) (w : World) : Prop where
  ex : ∃ q : SV, w.heap[r6]? = some (.cells #[.bool g, .slice q.a q.len q.cap] 46) /\ NewV wr w q vs
  sz : wr.heap.size <= w.heap.size
  pu : Pu w0 w
  l6 : r6 < wr.heap.size
  z6 : w0.heap.size <= r6
theorem VRow.on {w0 wr w w' : World} {r6 : Nat} {g : Bool} {vs : List Val} (h : VRow w0 wr r6 g vs w) (hp : Pu w w') : VRow w0 wr r6 g vs w' := by
  obtain ⟨q, h1, h2⟩ := h.ex
  exact ⟨⟨q, hp.blk h1, h2.pu hp⟩, Nat.le_trans h.sz hp.size, h.pu.trans hp, h.l6, h.z6⟩
theorem VRow.put {w0 wr w : World} {r6 r : Nat} {g : Bool} {vs : List Val} (h : VRow w0 wr r6 g vs w) {q : SV} (h6 : w.heap[r6]? = some (.cells #[.bool g, .slice q.a q.len q.cap] 46)) (hq : NewV wr w q vs) {v : Val} (hr : w.heap[r]? = some (.cells #[.int .i64 v.kind, .int .i64 v.n, .string v.s] 25)) (hl : vs.length <= 1000000) :
    ∃ (q' : SV) (w1 : World), (Builtin.append_ #[44, 44] 44 #[.slice q.a q.len q.cap, .slice (some ⟨r, 0, none⟩) 1 1]).run Tryz.prog w = .ok (.slice q'.a q'.len q'.cap) w1 /\
      ∀ K : World -> Prop, (∀ w', VRow w0 wr r6 g (vs ++ [v]) w' -> K w') -> st1 ((⟨r6, 0, none⟩ : Addr).add 1) (.slice q'.a q'.len q'.cap) w1 K := by
  obtain ⟨q', w1, e1, r1, f1⟩ := hq.push h.sz hr rfl hl
  have n6 : ¬ r6 ∈ blkOf q := fun hc => by have := hq.2 _ hc; have := h.l6; omega
  refine ⟨q', w1, e1, fun K hK => ?_⟩
  rw [add_def, Nat.zero_add]
  refine st1_intro (f1.blk h6 n6) (by simp) fun wx ex hbx => hK wx ?_
  have fx : Fr (· = r6) w1 wx := by rw [ex]; exact Fr.cell w1 _ _ _
  have zx : wx.heap.size = w1.heap.size := by rw [ex]; simp
  have z1 := f1.size
  have hsz := h.sz
  have hl6 := h.l6
  have hz6 := h.z6
  refine ⟨⟨q', hbx, r1.fr fx fun i hi => by have := r1.2 i hi; omega⟩, by omega, ?_, h.l6, h.z6⟩
  have p1 : Pu w0 w1 := h.pu.andNew f1 fun i hi => by have := hq.2 i hi; omega
  exact p1.andNew fx fun i hi => by omega
theorem VRow.pushR {w0 wr w : World} {r6 r14 : Nat} {g : Bool} {vs : List Val} (h : VRow w0 wr r6 g vs w) {v : Val} (hv : w.heap[r14]? = some (.cells #[.int .i64 v.kind, .int .i64 v.n, .string v.s] 25)) (hl : vs.length <= 1000000) {K : World -> Prop}
    (hK : ∀ w', VRow w0 wr r6 g (vs ++ [v]) w' -> K w') : pushR (some ⟨r6, 0, none⟩) r14 K w := by
  obtain ⟨q, h6, hq⟩ := h.ex
  refine ⟨q, cl h6 1, _, cl hv 0, _, cl hv 1, _, cl hv 2, alB fun w1 hp1 hb1 => ?_⟩
  obtain ⟨q', w2, e2, hk⟩ := (h.on hp1).put (hp1.blk h6) (hq.pu hp1) hb1 hl
  exact ⟨q', w2, e2, hk _ hK⟩
structure ModSt (w0 wr : World) (r4 r8 : Nat) (p : Int) (f : SV) (l : List Fld) (rs : List Rec) (w : World) : Prop where
  ex : ∃ q : SV, w.heap[r8]? = some (.cells #[.int .i64 p, .slice f.a f.len f.cap, .slice q.a q.len q.cap] 35) /\ NewR wr w q rs
  fs : NewF w0 w f l
  n4 : ¬ r4 ∈ blkOf f
  n8 : ¬ r8 ∈ blkOf f
  b4 : w.heap[r4]? = some (.cells #[.int .i64 0, .slice none 0 0, .slice none 0 0] 35)
  sz : wr.heap.size <= w.heap.size
  pu : Pu w0 w
  l4 : r4 < wr.heap.size
  l8 : r8 < wr.heap.size
  ne : r4 ≠ r8
  z4 : w0.heap.size <= r4
  z8 : w0.heap.size <= r8
theorem ModSt.on {w0 wr w w' : World} {r4 r8 : Nat} {p : Int} {f : SV} {l : List Fld} {rs : List Rec} (h : ModSt w0 wr r4 r8 p f l rs w) (hp : Pu w w') : ModSt w0 wr r4 r8 p f l rs w' := by
  obtain ⟨q, h1, h2⟩ := h.ex
  exact ⟨⟨q, hp.blk h1, h2.pu hp⟩, h.fs.pu hp, h.n4, h.n8, hp.blk h.b4, Nat.le_trans h.sz hp.size, h.pu.trans hp, h.l4, h.l8, h.ne, h.z4, h.z8⟩
theorem ModSt.put {w0 wr w : World} {r4 r8 r : Nat} {p : Int} {f : SV} {l : List Fld} {rs : List Rec} (h : ModSt w0 wr r4 r8 p f l rs w) {q qv : SV} (h8 : w.heap[r8]? = some (.cells #[.int .i64 p, .slice f.a f.len f.cap, .slice q.a q.len q.cap] 35)) (ho : NewR wr w q rs) {g : Bool} {vs : List Val} (hv : NewV wr w qv vs) (hr : w.heap[r]? = some (.cells #[.bool g, .slice qv.a qv.len qv.cap] 46)) (hb : rs.length <= 1000000) :
    ∃ (q' : SV) (w1 : World), (Builtin.append_ #[33, 33] 33 #[.slice q.a q.len q.cap, .slice (some ⟨r, 0, none⟩) 1 1]).run Tryz.prog w = .ok (.slice q'.a q'.len q'.cap) w1 /\
      ∀ K : World -> Prop, (∀ w', ModSt w0 wr r4 r8 p f l (rs ++ [⟨g, vs⟩]) w' -> K w') -> st1 ((⟨r8, 0, none⟩ : Addr).add 2) (.slice q'.a q'.len q'.cap) w1 K := by
  obtain ⟨q', w1, e1, r1, f1⟩ := ho.push h.sz hv hr rfl hb
  have m8 : ¬ r8 ∈ blkOf q := fun hc => by have := ho.own _ hc; have := h.l8; omega
  have m4 : ¬ r4 ∈ blkOf q := fun hc => by have := ho.own _ hc; have := h.l4; omega
  refine ⟨q', w1, e1, fun K hK => ?_⟩
  rw [add_def, Nat.zero_add]
  refine st1_intro (f1.blk h8 m8) (by simp) fun wx ex hbx => hK wx ?_
  have fx : Fr (· = r8) w1 wx := by rw [ex]; exact Fr.cell w1 _ _ _
  have zx : wx.heap.size = w1.heap.size := by rw [ex]; simp
  have z1 := f1.size
  have hne := h.ne
  have hsz := h.sz
  have hz4 := h.z4
  have hz8 := h.z8
  have hl8 := h.l8
  have own := ho.own
  have fs1 : NewF w0 w1 f l := by
    obtain ⟨qs, a1, a2, a3, a4⟩ := ho
    exact h.fs.fr f1 (rows_apart h.fs.1 a1 (by decide))
  refine ⟨⟨q', hbx, r1.one fx hl8⟩, fs1.fr fx fun i hi e => h.n8 (e ▸ hi), h.n4, h.n8, fx.blk (f1.blk h.b4 m4) (by omega), by omega, ?_, h.l4, h.l8, h.ne, h.z4, h.z8⟩
  have p1 : Pu w0 w1 := h.pu.andNew f1 fun i hi => by have := own i hi; omega
  exact p1.andNew fx fun i hi => by omega
def retM (R : Rt) (p4 p8 : Option Addr) (w : World) : Prop :=
 ptrE p8 fun a1 =>
 ∃ n64_0 : Int, w.cell? (a1.add 0) = some (.int .i64 n64_0) /\
 ∃ l64_1 : SV, w.cell? (a1.add 1) = some (.slice l64_1.a l64_1.len l64_1.cap) /\
 ∃ l64_2 : SV, w.cell? (a1.add 2) = some (.slice l64_2.a l64_2.len l64_2.cap) /\
 ptrE p4 fun a2 =>
 stA Tryz.prog 35 a2 #[.int .i64 n64_0, .slice l64_1.a l64_1.len l64_1.cap, .slice l64_2.a l64_2.len l64_2.cap] w fun w3 =>
 runD Tryz.prog [] w3 fun w4 =>
 ptrE p4 fun a5 =>
 ∃ nR0_0 : Int, w4.cell? (a5.add 0) = some (.int .i64 nR0_0) /\
 ∃ lR0_1 : SV, w4.cell? (a5.add 1) = some (.slice lR0_1.a lR0_1.len lR0_1.cap) /\
 ∃ lR0_2 : SV, w4.cell? (a5.add 2) = some (.slice lR0_2.a lR0_2.len lR0_2.cap) /\
 R (.returned (.tuple #[.agg #[.int .i64 nR0_0, .slice lR0_1.a lR0_1.len lR0_1.cap, .slice lR0_2.a lR0_2.len lR0_2.cap], .int .i64 0])) w4
theorem ModSt.ret {w w0 wr w' : World} {r4 r8 : Nat} {p : Int} {f : SV} {l : List Fld} {rs : List Rec} (h : ModSt w0 wr r4 r8 p f l rs w') (hp : Pu w w0) {T : Tbl × Int} (hT : T = (⟨p, l, rs⟩, 0)) : retM (ResM w T) (some ⟨r4, 0, none⟩) (some ⟨r8, 0, none⟩) w' := by
  subst hT
  obtain ⟨q, h8, ho⟩ := h.ex
  have hz := h.z4
  have hl := h.l4
  exact ⟨_, cl h8 0, f, cl h8 1, q, cl h8 2, stA_fill h.b4 s35.symm rfl rfl fun w5 hb5 hf5 hs5 => ⟨_, cl hb5 0, f, cl hb5 1, q, cl hb5 2, f, q, rfl, ⟨(h.fs.fr hf5 fun i hi e => h.n4 (e ▸ hi)).low hp.size, (ho.one hf5 hl).low (by have := hp.size; omega)⟩, hp.trans (h.pu.andNew hf5 fun i hi => by omega)⟩⟩
theorem ModSt.start {w1 wx wy w8 : World} {r4 r8 : Nat} {p : Int} {f : SV} {l : List Fld} (hp : Pu w1 wy) (h4 : wy.heap[r4]? = some (.cells #[.int .i64 0, .slice none 0 0, .slice none 0 0] 35)) (ho : NewF wx wy f l) (hz4 : w1.heap.size <= r4) (hx : r4 < wx.heap.size) (n8 : ¬ r8 ∈ blkOf f) (h8x : wx.heap.size <= r8) (h8y : r8 < wy.heap.size)
    (hb8 : w8.heap[r8]? = some (.cells #[.int .i64 p, .slice f.a f.len f.cap, .slice none 0 0] 35)) (hf : Fr (· = r8) wy w8) (hs : w8.heap.size = wy.heap.size) : ModSt w1 w8 r4 r8 p f l [] w8 := by
  have l4 : r4 < wy.heap.size := blk_lt h4
  exact ⟨⟨⟨none, 0, 0⟩, hb8, NewR.nil w8 w8⟩, (ho.fr hf fun i hi e => n8 (e ▸ hi)).low (by omega), fun hc => by have := ho.2 _ hc; omega, n8, hf.blk h4 (by omega), Nat.le_refl _, hp.andNew hf fun i hi => by omega, by omega, by omega, by omega, hz4, by omega⟩
theorem modify_c {w : World} {t : Tbl} {f r s : SV} {l : List Fld} (h : RdTbl w t f r) (hlt : Lim.ok t.fields) (hl : RdSl w s l) (hll : Lim.ok l) : Calls Tryz.prog 44 #[tblA t f r, .slice s.a s.len s.cap] w (ResM w (modT t l)) := by
  refine F44_calls _ _ _ _ w _ (alB fun w1 hp1 hb1 => alB fun w2 hp2 hb2 => ?_)
  have hp02 := hp1.trans hp2
  have lt1 : w.heap.size < w1.heap.size := blk_lt hb1
  have lt2 : w1.heap.size < w2.heap.size := blk_lt hb2
  have b1 : ∀ {wz}, Pu w1 wz -> _ := fun {wz} (h : Pu w1 wz) => tbl_blk (t := t) (f := f) (q := r) (h.blk hb1)
  have zero : ∀ {wz : World} {c : Int}, Pu w2 wz -> modT t l = (⟨0, [], []⟩, c) -> stA Tryz.prog 35 (⟨w1.heap.size, 0, none⟩ : Addr) #[.int .i64 0, .slice none 0 0, .slice none 0 0] wz fun w33 =>
      ∃ nR0_0 : Int, w33.cell? ((⟨w1.heap.size, 0, none⟩ : Addr).add 0) = some (.int .i64 nR0_0) /\ ∃ lR0_1 : SV, w33.cell? ((⟨w1.heap.size, 0, none⟩ : Addr).add 1) = some (.slice lR0_1.a lR0_1.len lR0_1.cap) /\ ∃ lR0_2 : SV, w33.cell? ((⟨w1.heap.size, 0, none⟩ : Addr).add 2) = some (.slice lR0_2.a lR0_2.len lR0_2.cap) /\
      ResM w (modT t l) (.returned (.tuple #[.agg #[.int .i64 nR0_0, .slice lR0_1.a lR0_1.len lR0_1.cap, .slice lR0_2.a lR0_2.len lR0_2.cap], .int .i64 c])) w33 := fun {wz c} hz hm => by
    rw [hm]
    exact stA_fill (hz.blk hb2) s35.symm rfl rfl fun w5 hb5 hf5 hs5 => ⟨_, cl hb5 0, ⟨none, 0, 0⟩, cl hb5 1, ⟨none, 0, 0⟩, cl hb5 2, ⟨none, 0, 0⟩, ⟨none, 0, 0⟩, rfl, ⟨NewF.nil _ _, NewR.nil _ _⟩, (hp02.trans hz).andNew hf5 fun i hi => by omega⟩
  refine ⟨_, (b1 hp2).1, f, (b1 hp2).2.1, r, (b1 hp2).2.2, (validTbl_c (h.pu hp02) hlt).mono ?_⟩
  rintro e w3 ⟨rfl, hp3⟩
  refine ⟨_, rfl, Br.of (fun d => zero hp3 (by unfold modT; rw [if_pos (bntrue d)])) (fun d => (validFields_c (hl.pu (hp02.trans hp3)) hll).mono ?_)⟩
  have hv : validT t = 0 := bnfalse d
  have hok := Okay.of hv
  rintro e w4 ⟨rfl, hp4⟩
  refine ⟨_, rfl, Br.of (fun d1 => zero (hp3.trans hp4) (by unfold modT; rw [if_neg (by omega), if_pos (bntrue d1)])) (fun d1 => dwE_intro fun w5 hp5 _ => ?_)⟩
  have hvl : validF l = 0 := bnfalse d1
  obtain ⟨hlne, hall, _, h16, _⟩ := validF_ok hvl
  have hmT : modT t l = (⟨t.page, l, t.recs.map (modR t l)⟩, 0) := by unfold modT; rw [if_neg (by omega), if_neg (by omega)]
  have p5 : Pu w2 w5 := (hp3.trans hp4).trans hp5
  have hsl := hl.len
  have hrl := h.recs.len
  have rest : ∀ {w6 : World} {r8 : Nat} {q : SV}, ModSt w1 w6 w1.heap.size r8 t.page q l [] w6 -> F44_11 (ResM w (modT t l)) s (some ⟨w.heap.size, 0, none⟩) (some ⟨w1.heap.size, 0, none⟩) (some ⟨r8, 0, none⟩) r ((r.len : Nat) : Int) 0 [] w6 := fun {w6 r8 q} st => by
    refine loopUp t.recs.length (fun k u w' => u = (k : Int) /\ ModSt w1 w6 w1.heap.size r8 t.page q l ((t.recs.take k).map (modR t l)) w') ⟨rfl, by simpa using st⟩ ?_
    rintro k J u w7 hk ⟨hu, st7⟩ hJ
    obtain rfl : u = (k : Int) := hu
    have hm300 := hok.m300
    refine Br.of (fun d2 => ?_) (fun d2 => ?_)
    · have hk2 : k < t.recs.length := by have := dtrue d2; omega
      obtain ⟨x, hx⟩ := at_k hk2
      have hxR := hok.recs x (List.mem_of_getElem? hx)
      obtain ⟨a24, sx, ha, hi, vx, x0, x1⟩ := recAt (h.recs.pu (hp1.trans st7.pu)) hx
      refine ⟨a24, ha, by omega, by omega, _, x0, sx, x1, boxA rfl s46.symm rfl fun w8 hp8 hs8 hb8 => ⟨_, cl0 hb8, boxA rfl s46.symm rfl fun w9 hp9 hs9 hb9 => ?_⟩⟩
      have row0 : VRow w8 w9 w8.heap.size x.gone [] w9 := ⟨⟨⟨none, 0, 0⟩, hb9, NewV.nil w9 w9⟩, Nat.le_refl _, hp9, by omega, Nat.le_refl _⟩
      refine loopUp l.length (fun j u w' => u = (j : Int) /\ VRow w8 w9 w8.heap.size x.gone ((l.take j).map (movedS t.fields t.page x)) w') ⟨rfl, by simpa using row0⟩ ?_
      rintro j J2 u w10 hj ⟨hu, row⟩ hJ2
      obtain rfl : u = (j : Int) := hu
      have p10 : Pu w1 w10 := (st7.pu.trans hp8).trans row.pu
      refine Br.of (fun d3 => ?_) (fun d3 => ?_)
      · have hj2 : j < l.length := by have := dtrue d3; omega
        obtain ⟨y, hy⟩ := at_k hj2
        obtain ⟨a12, ha12, hi12, _, _, _, c0, c1, c2, c3⟩ := fldAt (hl.pu (hp1.trans p10)) hy
        refine ⟨a12, ha12, by omega, by omega, _, c0, _, c1, _, c2, _, c3, boxA rfl s23.symm rfl fun w11 hp11 hs11 hb11 => dwE_intro fun w12 hp12 _ => ?_⟩
        have row12 := (row.on hp11).on hp12
        have p12 := (p10.trans hp11).trans hp12
        have b10 := (row12.pu).blk hb8
        have b13 := hp12.blk hb11
        obtain ⟨qr, h6, hq⟩ := row12.ex
        refine ⟨fun u => Pu w12 u, Pu.refl _, qr, fun u hu => cl (hu.blk h6) 1, _, fun u hu => (b1 (p12.trans hu)).1, f, fun u hu => (b1 (p12.trans hu)).2.1, r, fun u hu => (b1 (p12.trans hu)).2.2, _, fun u hu => cl (hu.blk b10) 0, sx, fun u hu => cl (hu.blk b10) 1, _, fun u hu => cl (hu.blk b13) 0, _, fun u hu => cl (hu.blk b13) 1, _, fun u hu => cl (hu.blk b13) 2, _, fun u hu => cl (hu.blk b13) 3,
          (moved_c (h.fields.pu (hp1.trans p12)) (vx.pu ((((hp8.trans row.pu).trans hp11).trans hp12))) hxR hok.page (List.all_eq_true.1 hall y (List.mem_of_getElem? hy)) (hll y (List.mem_of_getElem? hy))).mono ?_⟩
        rintro e w13 ⟨rfl, hp13⟩
        refine ⟨_, _, _, rfl, hp13, alB fun w14 hp14 hb14 => ⟨hp13.trans hp14, ?_⟩⟩
        obtain ⟨q', w15, e15, hK⟩ := ((row12.on hp13).on hp14).put ((hp13.trans hp14).blk h6) (hq.pu (hp13.trans hp14)) hb14 (by simp; omega)
        refine ⟨q', w15, e15, hK _ fun w16 row16 => ?_⟩
        rw [wrap_in (by omega) (by omega)]
        exact hJ2 _ _ hj2 ⟨by omega, by rw [map_take' _ hy]; exact row16⟩
      · have hj2 : j = l.length := by have := dfalse d3; omega
        subst hj2
        rw [List.take_length] at row
        obtain ⟨qv, h6, hq⟩ := row.ex
        have st8 := (st7.on hp8).on row.pu
        obtain ⟨qr, h8, ho⟩ := st8.ex
        refine ⟨qr, cl h8 2, _, cl h6 0, qv, cl h6 1, alB fun w11 hp11 hb11 => ?_⟩
        obtain ⟨q', w12, e12, hK⟩ := (st8.on hp11).put (hp11.blk h8) (ho.pu hp11) ((hq.pu hp11).low (by have := st7.sz; omega)) hb11 (by simp; omega)
        refine ⟨q', w12, e12, hK _ fun w13 st13 => ?_⟩
        show J (IntKind.i64.wrap ((k : Int) + 1)) w13
        rw [wrap_in (by omega) (by omega)]
        exact hJ _ _ hk2 ⟨by omega, by rw [map_take' _ hx]; exact st13⟩
    · have hk2 : k = t.recs.length := by have := dfalse d2; omega
      subst hk2
      rw [List.take_length] at st7
      exact st7.ret hp1 hmT
  refine ⟨fun u => Pu w5 u, Pu.refl _, t.page, fun u hu => by have := (b1 ((hp2.trans p5).trans hu)).1; rw [add0] at this; exact this, (clone_c (hl.pu (hp02.trans p5)) hlne (by omega)).mono ?_, alB fun w6 hp6 hb6 => ⟨hp6, (clone_c (hl.pu ((hp02.trans p5).trans hp6)) hlne (by omega)).mono ?_⟩⟩
  · rintro e w6 ⟨ql, rfl, ho, hp6⟩
    have z5 := p5.size
    have z6 := hp6.size
    refine ⟨ql, rfl, hp6, alB fun w7 hp7 hb7 => ⟨hp6.trans hp7, stA_fill hb7 s35.symm rfl rfl fun w8 hb8 hf8 hs8 => ?_⟩⟩
    have lt7 : w6.heap.size < w7.heap.size := blk_lt hb7
    have p27 := (p5.trans hp6).trans hp7
    have st := ModSt.start (hp2.trans p27) (p27.blk hb2) ((ho.pu hp7).low p5.size) (Nat.le_refl _) lt2 (fun hc => by have := ho.top _ hc; omega) (by omega) lt7 hb8 hf8 hs8
    exact ⟨r, (b1 st.pu).2.2, rest st⟩
  · rintro e w7 ⟨ql, rfl, ho, hp7⟩
    have z5 := p5.size
    have lt6 : w5.heap.size < w6.heap.size := blk_lt hb6
    have z7 := hp7.size
    refine ⟨ql, rfl, hp6.trans hp7, stA_fill (hp7.blk hb6) s35.symm rfl rfl fun w8 hb8 hf8 hs8 => ?_⟩
    have p27 := (p5.trans hp6).trans hp7
    have st := ModSt.start (hp2.trans p27) (p27.blk hb2) (ho.low (show w2.heap.size <= w6.heap.size by omega)) (Nat.le_refl _) lt2 (fun hc => by have := ho.2 _ hc; omega) (by omega) (by omega) hb8 hf8 hs8
    exact ⟨r, (b1 st.pu).2.2, rest st⟩
def fit45 (K : World -> Prop) (l1 : SV) (p2 p10 : Option Addr) (n11 : Int) (r12 r15 : Nat) (b94_1 : Bool) (w : World) : Prop :=
 Br b94_1 (
 dwE w fun w30 =>
 ∃ S3 : World -> Prop, S3 w30 /\
 ∃ a31 : Addr, l1.a = some a31 /\ 0 <= n11 /\ n11 < ((l1.len : Nat) : Int) /\
 ∃ s102_0 : ByteArray, (∀ w', S3 w' -> w'.cell? ((a31.add (n11.toNat * 4)).add 0) = some (.string s102_0)) /\
 ∃ n102_1 : Int, (∀ w', S3 w' -> w'.cell? ((a31.add (n11.toNat * 4)).add 1) = some (.int .i64 n102_1)) /\
 ∃ n102_2 : Int, (∀ w', S3 w' -> w'.cell? ((a31.add (n11.toNat * 4)).add 2) = some (.int .i64 n102_2)) /\
 ∃ b102_3 : Bool, (∀ w', S3 w' -> w'.cell? ((a31.add (n11.toNat * 4)).add 3) = some (.bool b102_3)) /\
 ptrE p2 fun a32 =>
 ∃ n104 : Int, (∀ w', S3 w' -> w'.cell? a32 = some (.int .i64 n104)) /\
 ∃ n105_0 : Int, (∀ w', S3 w' -> w'.cell? ((⟨r15, 0, none⟩ : Addr).add 0) = some (.int .i64 n105_0)) /\
 ∃ n105_1 : Int, (∀ w', S3 w' -> w'.cell? ((⟨r15, 0, none⟩ : Addr).add 1) = some (.int .i64 n105_1)) /\
 ∃ s105_2 : ByteArray, (∀ w', S3 w' -> w'.cell? ((⟨r15, 0, none⟩ : Addr).add 2) = some (.string s105_2)) /\
 (
 Calls Tryz.prog 58 #[.agg #[.string s102_0, .int .i64 n102_1, .int .i64 n102_2, .bool b102_3], .int .i64 n104, .agg #[.int .i64 n105_0, .int .i64 n105_1, .string s105_2]] w30 fun e w33 =>
 ∃ n106_0_0 : Int, ∃ n106_0_1 : Int, ∃ s106_0_2 : ByteArray, ∃ n106_1 : Int, e = .returned (.tuple #[.agg #[.int .i64 n106_0_0, .int .i64 n106_0_1, .string s106_0_2], .int .i64 n106_1]) /\
 alE (.cells #[.int .i64 0, .int .i64 0, .string (⟨#[]⟩ : ByteArray)] 25) w33 fun r17 w34 =>
 stA Tryz.prog 25 (⟨r17, 0, none⟩ : Addr) #[.int .i64 n106_0_0, .int .i64 n106_0_1, .string s106_0_2] w34 fun w35 =>
 Br (n106_1 == 0) (
 ∃ n111_0 : Int, w35.cell? ((⟨r17, 0, none⟩ : Addr).add 0) = some (.int .i64 n111_0) /\
 ∃ n111_1 : Int, w35.cell? ((⟨r17, 0, none⟩ : Addr).add 1) = some (.int .i64 n111_1) /\
 ∃ s111_2 : ByteArray, w35.cell? ((⟨r17, 0, none⟩ : Addr).add 2) = some (.string s111_2) /\
 stA Tryz.prog 25 (⟨r12, 0, none⟩ : Addr) #[.int .i64 n111_0, .int .i64 n111_1, .string s111_2] w35 fun w36 =>
 pushR p10 r12 K w36) (
 pushR p10 r12 K w35)) /\ (
 alE (.cells #[.int .i64 0, .int .i64 0, .string (⟨#[]⟩ : ByteArray)] 25) w30 fun r17 w47 =>
 S3 w47 /\
 Calls Tryz.prog 58 #[.agg #[.string s102_0, .int .i64 n102_1, .int .i64 n102_2, .bool b102_3], .int .i64 n104, .agg #[.int .i64 n105_0, .int .i64 n105_1, .string s105_2]] w47 fun e w48 =>
 ∃ n106_0_0 : Int, ∃ n106_0_1 : Int, ∃ s106_0_2 : ByteArray, ∃ n106_1 : Int, e = .returned (.tuple #[.agg #[.int .i64 n106_0_0, .int .i64 n106_0_1, .string s106_0_2], .int .i64 n106_1]) /\
 stA Tryz.prog 25 (⟨r17, 0, none⟩ : Addr) #[.int .i64 n106_0_0, .int .i64 n106_0_1, .string s106_0_2] w48 fun w49 =>
 Br (n106_1 == 0) (
 ∃ n111_0 : Int, w49.cell? ((⟨r17, 0, none⟩ : Addr).add 0) = some (.int .i64 n111_0) /\
 ∃ n111_1 : Int, w49.cell? ((⟨r17, 0, none⟩ : Addr).add 1) = some (.int .i64 n111_1) /\
 ∃ s111_2 : ByteArray, w49.cell? ((⟨r17, 0, none⟩ : Addr).add 2) = some (.string s111_2) /\
 stA Tryz.prog 25 (⟨r12, 0, none⟩ : Addr) #[.int .i64 n111_0, .int .i64 n111_1, .string s111_2] w49 fun w50 =>
 pushR p10 r12 K w50) (
 pushR p10 r12 K w49))) (
 pushR p10 r12 K w)
theorem fit45_c {K : World -> Prop} {s : SV} {p10 : Option Addr} {l : List Fld} {t : Tbl} {f : Fld} {x : Val} {k ra r12 r15 : Nat} {ok : Bool} {fs rs : SV} {w4 wz : World} (hl : RdSl w4 s l) (hk : l[k]? = some f) (hfB : fieldB f = true) (hz : Pu w4 wz) (ha : w4.heap[ra]? = some (.cells #[.int .i64 t.page, .slice fs.a fs.len fs.cap, .slice rs.a rs.len rs.cap] 35))
    (h12 : wz.heap[r12]? = some (.cells #[.int .i64 (emptyV f).kind, .int .i64 (emptyV f).n, .string (emptyV f).s] 25)) (z12 : w4.heap.size <= r12) (h15 : wz.heap[r15]? = some (.cells #[.int .i64 x.kind, .int .i64 x.n, .string x.s] 25)) (hx : ok = true -> x.s.size <= 140737488355328)
    (push : ∀ (w' : World) (v : Val), Pu w4 w' -> w'.heap[r12]? = some (.cells #[.int .i64 v.kind, .int .i64 v.n, .string v.s] 25) -> v = (if ok then fitF f t.page x else emptyV f) -> pushR p10 r12 K w') :
    fit45 K s (some ⟨ra, 0, none⟩) p10 (k : Int) r12 r15 ok wz := by
  refine Br.of (fun d => dwE_intro fun w5 hp5 _ => ?_) (fun d => push wz _ hz h12 (by rw [d]; rfl))
  have h5 := hz.trans hp5
  have hlen := hl.len
  have hkl := (List.getElem?_eq_some_iff.1 hk).1
  obtain ⟨a, ha1, hi, _, _, _, c0, c1, c2, c3⟩ := fldAt (hl.pu h5) hk
  have b15 := hp5.blk h15
  have b12 := hp5.blk h12
  have fin : ∀ {wq : World} {r17 : Nat}, Pu w5 wq -> wq.heap[r17]? = some (.cells #[.int .i64 (fitted f t.page x).1.kind, .int .i64 (fitted f t.page x).1.n, .string (fitted f t.page x).1.s] 25) -> Br ((fitted f t.page x).2 == 0) (
      ∃ n111_0 : Int, wq.cell? ((⟨r17, 0, none⟩ : Addr).add 0) = some (.int .i64 n111_0) /\ ∃ n111_1 : Int, wq.cell? ((⟨r17, 0, none⟩ : Addr).add 1) = some (.int .i64 n111_1) /\ ∃ s111_2 : ByteArray, wq.cell? ((⟨r17, 0, none⟩ : Addr).add 2) = some (.string s111_2) /\
      stA Tryz.prog 25 (⟨r12, 0, none⟩ : Addr) #[.int .i64 n111_0, .int .i64 n111_1, .string s111_2] wq fun w36 => pushR p10 r12 K w36) (pushR p10 r12 K wq) := fun {wq r17} hq hb17 => by
    refine Br.of (fun d1 => ⟨_, cl hb17 0, _, cl hb17 1, _, cl hb17 2, stA_fill (hq.blk b12) s25.symm rfl rfl fun w7 hb7 hf7 hs7 => push w7 (fitted f t.page x).1 ((h5.trans hq).andNew hf7 fun i hi => by omega) hb7 ?_⟩) (fun d1 => push wq _ (h5.trans hq) (hq.blk b12) ?_)
    · rw [d, if_pos rfl]; unfold fitF; rw [if_pos (btrue d1)]
    · rw [d, if_pos rfl]; unfold fitF; rw [if_neg (bfalse d1)]
  refine ⟨fun u => Pu w5 u, Pu.refl _, a, ha1, by omega, by omega, _, fun u hu => hu.cell c0, _, fun u hu => hu.cell c1, _, fun u hu => hu.cell c2, _, fun u hu => hu.cell c3, t.page, fun u hu => cl0 (hu.blk (h5.blk ha)), _, fun u hu => cl (hu.blk b15) 0, _, fun u hu => cl (hu.blk b15) 1, _, fun u hu => cl (hu.blk b15) 2, (rFitted_c f t.page x hfB (hx d) w5).mono ?_, alB fun w6 hp6 hb6 => ⟨hp6, (rFitted_c f t.page x hfB (hx d) w6).mono ?_⟩⟩
  · rintro e w6 ⟨rfl, hp6⟩
    exact ⟨_, _, _, _, rfl, boxA rfl s25.symm rfl fun w7 hp7 hs7 hb7 => fin (hp6.trans hp7) hb7⟩
  · rintro e w7 ⟨rfl, hp7⟩
    exact ⟨_, _, _, _, rfl, stA_fill (hp7.blk hb6) s25.symm rfl rfl fun w8 hb8 hf8 hs8 => fin ((hp6.trans hp7).andNew hf8 fun i hi => by omega) hb8⟩
theorem rModify_c {w : World} {t : Tbl} {f r s : SV} {l : List Fld} (h : RdTbl w t f r) (hl : RdSl w s l) : Calls Tryz.prog 45 #[tblA t f r, .slice s.a s.len s.cap] w (ResM w (modT t l)) := by
  refine F45_calls _ _ _ _ w _ (alB fun w1 hp1 hb1 => alB fun w2 hp2 hb2 => ?_)
  have hp02 := hp1.trans hp2
  have lt1 : w.heap.size < w1.heap.size := blk_lt hb1
  have lt2 : w1.heap.size < w2.heap.size := blk_lt hb2
  have b1 : ∀ {wz}, Pu w1 wz -> _ := fun {wz} (h : Pu w1 wz) => tbl_blk (t := t) (f := f) (q := r) (h.blk hb1)
  have zero : ∀ {wz : World} {c : Int}, Pu w2 wz -> modT t l = (⟨0, [], []⟩, c) -> stA Tryz.prog 35 (⟨w1.heap.size, 0, none⟩ : Addr) #[.int .i64 0, .slice none 0 0, .slice none 0 0] wz fun w33 =>
      ∃ nR0_0 : Int, w33.cell? ((⟨w1.heap.size, 0, none⟩ : Addr).add 0) = some (.int .i64 nR0_0) /\ ∃ lR0_1 : SV, w33.cell? ((⟨w1.heap.size, 0, none⟩ : Addr).add 1) = some (.slice lR0_1.a lR0_1.len lR0_1.cap) /\ ∃ lR0_2 : SV, w33.cell? ((⟨w1.heap.size, 0, none⟩ : Addr).add 2) = some (.slice lR0_2.a lR0_2.len lR0_2.cap) /\
      ResM w (modT t l) (.returned (.tuple #[.agg #[.int .i64 nR0_0, .slice lR0_1.a lR0_1.len lR0_1.cap, .slice lR0_2.a lR0_2.len lR0_2.cap], .int .i64 c])) w33 := fun {wz c} hz hm => by
    rw [hm]
    exact stA_fill (hz.blk hb2) s35.symm rfl rfl fun w5 hb5 hf5 hs5 => ⟨_, cl hb5 0, ⟨none, 0, 0⟩, cl hb5 1, ⟨none, 0, 0⟩, cl hb5 2, ⟨none, 0, 0⟩, ⟨none, 0, 0⟩, rfl, ⟨NewF.nil _ _, NewR.nil _ _⟩, (hp02.trans hz).andNew hf5 fun i hi => by omega⟩
  refine ⟨_, (b1 hp2).1, f, (b1 hp2).2.1, r, (b1 hp2).2.2, (rValidTbl_c (h.pu hp02)).mono ?_⟩
  rintro e w3 ⟨rfl, hp3⟩
  refine ⟨_, rfl, Br.of (fun d => zero hp3 (by unfold modT; rw [if_pos (bntrue d)])) (fun d => (rValidFields_c (hl.pu (hp02.trans hp3))).mono ?_)⟩
  have hv : validT t = 0 := bnfalse d
  have hok := Okay.of hv
  rintro e w4 ⟨rfl, hp4⟩
  refine ⟨_, rfl, Br.of (fun d1 => zero (hp3.trans hp4) (by unfold modT; rw [if_neg (by omega), if_pos (bntrue d1)])) (fun d1 => dwE_intro fun w5 hp5 _ => ?_)⟩
  have hvl : validF l = 0 := bnfalse d1
  obtain ⟨hlne, hall, _, h16, _⟩ := validF_ok hvl
  have hmT : modT t l = (⟨t.page, l, t.recs.map (modR t l)⟩, 0) := by unfold modT; rw [if_neg (by omega), if_neg (by omega)]
  have p5 : Pu w2 w5 := (hp3.trans hp4).trans hp5
  have hsl := hl.len
  have hrl := h.recs.len
  have hfl := h.fields.len
  have rest : ∀ {w6 : World} {r8 : Nat} {q : SV}, ModSt w1 w6 w1.heap.size r8 t.page q l [] w6 -> F45_13 (ResM w (modT t l)) s (some ⟨w.heap.size, 0, none⟩) (some ⟨w1.heap.size, 0, none⟩) (some ⟨r8, 0, none⟩) 0 [] w6 := fun {w6 r8 q} st => by
    refine loopUp t.recs.length (fun k u w' => u = (k : Int) /\ ModSt w1 w6 w1.heap.size r8 t.page q l ((t.recs.take k).map (modR t l)) w') ⟨rfl, by simpa using st⟩ ?_
    rintro k J u w7 hk ⟨hu, st7⟩ hJ
    obtain rfl : u = (k : Int) := hu
    have hm300 := hok.m300
    refine ⟨r, (b1 st7.pu).2.2, Br.of (fun d2 => ?_) (fun d2 => ?_)⟩
    · have hk2 : k < t.recs.length := by have := dtrue d2; omega
      obtain ⟨x, hx⟩ := at_k hk2
      have hxR := hok.recs x (List.mem_of_getElem? hx)
      have recs : ∀ {wz}, Pu w1 wz -> _ := fun {wz} (hz : Pu w1 wz) => recAt (h.recs.pu (hp1.trans hz)) hx
      obtain ⟨a24, sx, ha, hi, vx, x0, x1⟩ := recs st7.pu
      have x0' := x0
      rw [add0] at x0'
      refine ⟨r, (b1 st7.pu).2.2, a24, ha, by omega, by omega, _, x0', boxA rfl s46.symm rfl fun w9 hp9 hs9 hb9 => ?_⟩
      have row0 : VRow w7 w9 w7.heap.size x.gone [] w9 := ⟨⟨⟨none, 0, 0⟩, hb9, NewV.nil w9 w9⟩, Nat.le_refl _, hp9, by omega, Nat.le_refl _⟩
      refine loopUp l.length (fun j u w' => u = (j : Int) /\ VRow w7 w9 w7.heap.size x.gone ((l.take j).map (movedS t.fields t.page x)) w') ⟨rfl, by simpa using row0⟩ ?_
      rintro j J2 u w10 hj ⟨hu, row⟩ hJ2
      obtain rfl : u = (j : Int) := hu
      have p10 : Pu w1 w10 := st7.pu.trans row.pu
      refine Br.of (fun d3 => ?_) (fun d3 => ?_)
      · have hj2 : j < l.length := by have := dtrue d3; omega
        obtain ⟨y, hy⟩ := at_k hj2
        have hyB := List.all_eq_true.1 hall y (List.mem_of_getElem? hy)
        have yAt : ∀ {wz}, Pu w1 wz -> _ := fun {wz} (hz : Pu w1 wz) => fldAt (hl.pu (hp1.trans hz)) hy
        obtain ⟨a12, ha12, hi12, _, _, _, c0, c1, c2, c3⟩ := yAt p10
        refine ⟨a12, ha12, by omega, by omega, _, c0, _, c1, _, c2, _, c3, (rEmpty_c y w10).mono ?_⟩
        rintro e w11 ⟨rfl, hp11⟩
        refine ⟨_, _, _, rfl, boxA rfl s25.symm rfl fun w12 hp12 hs12 hb12 => dwE_intro fun w13 hp13 _ => ?_⟩
        have q13 := (hp11.trans hp12).trans hp13
        have z11 := hp11.size
        obtain ⟨a13, ha13, hi13, _, _, d0, _, _, _, _⟩ := yAt (p10.trans q13)
        refine ⟨f, (b1 (p10.trans q13)).2.1, a13, ha13, by omega, by omega, _, d0, (rIndex_c (h.fields.pu (hp1.trans (p10.trans q13))) y.name).mono ?_⟩
        rintro e w14 ⟨rfl, hp14⟩
        have q14 := q13.trans hp14
        have b12 := (hp13.trans hp14).blk hb12
        -- behind the value
        have push : ∀ {w' : World} {v : Val}, Pu w10 w' -> w'.heap[w11.heap.size]? = some (.cells #[.int .i64 v.kind, .int .i64 v.n, .string v.s] 25) -> v = movedS t.fields t.page x y -> pushR (some ⟨w7.heap.size, 0, none⟩) w11.heap.size (fun w2 => J2 (IntKind.i64.wrap ((j : Int) + 1)) w2) w' := fun {w' v} hz hb hv => by
          refine (row.on hz).pushR hb (by simp; omega) fun w16 row16 => ?_
          rw [wrap_in (by omega) (by omega)]
          exact hJ2 _ _ hj2 ⟨by omega, by rw [map_take' _ hy, ← hv]; exact row16⟩
        refine ⟨_, _, rfl, Br.of (fun d4 => dwE_intro fun w15 hp15 _ => ?_) (fun d4 => push q14 b12 (movedS_none (by simpa using d4)).symm)⟩
        obtain ⟨i, hidx⟩ : ∃ i, idxN t.fields y.name = some i := by
          cases h : idxN t.fields y.name with
          | none => rw [h] at d4; cases d4
          | some i => exact ⟨i, rfl⟩
        have hki : idxK t.fields y.name = (i : Int) := by unfold idxK; rw [hidx]; rfl
        rw [hki]
        obtain ⟨g, hg⟩ := idxN_at hidx
        obtain ⟨v, hvj⟩ := at_k (l := x.v) (k := i) (by have := (List.getElem?_eq_some_iff.1 hg).1; have := hxR.1; omega)
        have hRv := hxR.2 i g v hg hvj
        have hms := movedS_some (p := t.page) hidx hg hvj
        have q15 := q14.trans hp15
        have p15 := p10.trans q15
        have hil := (List.getElem?_eq_some_iff.1 hg).1
        obtain ⟨g22, hg22, hgi, _, _, _, _, g1, _, _⟩ := fldAt (h.fields.pu (hp1.trans p15)) hg
        obtain ⟨y23, hy23, hyi, _, _, _, _, y1, _, _⟩ := yAt p15
        obtain ⟨r25, s25', hr25, hri, vx25, _, r1⟩ := recs p15
        obtain ⟨v26, hv26, hvi, _, _, v0, v1, v2⟩ := valAt vx25 hvj
        have fitp : ∀ {wz : World} {r15 : Nat}, Pu w15 wz -> wz.heap[r15]? = some (.cells #[.int .i64 ((convO g.kind y.kind v).getD noV).kind, .int .i64 ((convO g.kind y.kind v).getD noV).n, .string ((convO g.kind y.kind v).getD noV).s] 25) -> fit45 (fun w2 => J2 (IntKind.i64.wrap ((j : Int) + 1)) w2) s (some ⟨w.heap.size, 0, none⟩) (some ⟨w7.heap.size, 0, none⟩) (j : Int) w11.heap.size r15 (convO g.kind y.kind v).isSome wz := fun {wz r15} hz hb15 => by
          refine fit45_c (t := t) (fs := f) (rs := r) (hl.pu (hp1.trans p10)) hy hyB (q15.trans hz) (p10.blk hb1) ((hp15.trans hz).blk b12) z11 hb15 (fun ho => ?_) fun w' v' hz' hb' hv' => push hz' hb' ?_
          · obtain ⟨xx, hxx⟩ := Option.isSome_iff_exists.1 ho
            rw [hxx]
            have := (valid_ok (convO_valid hRv hxx)).1
            show xx.s.size <= _
            omega
          · rw [hv', hms]
            cases hc : convO g.kind y.kind v with
            | none => exact (fitF_empty y t.page).symm
            | some xx => rfl
        refine ⟨fun u => Pu w15 u, Pu.refl _, f, fun u hu => (b1 (p15.trans hu)).2.1, g22, hg22, by omega, by omega, _, fun u hu => hu.cell g1, y23, hy23, by omega, by omega, _, fun u hu => hu.cell y1, r, fun u hu => (b1 (p15.trans hu)).2.2, r25, hr25, by omega, by omega, s25', fun u hu => hu.cell r1, v26, hv26, by omega, by omega, _, fun u hu => hu.cell v0, _, fun u hu => hu.cell v1, _, fun u hu => hu.cell v2, (rConv_c hRv y.kind w15).mono ?_, alB fun w16 hp16 hb16 => ⟨hp16, (rConv_c hRv y.kind w16).mono ?_⟩⟩
        · rintro e w16 ⟨rfl, hp16⟩
          exact ⟨_, _, _, _, rfl, boxA rfl s25.symm rfl fun w17 hp17 hs17 hb17 => fitp (hp16.trans hp17) hb17⟩
        · rintro e w17 ⟨rfl, hp17⟩
          exact ⟨_, _, _, _, rfl, stA_fill (hp17.blk hb16) s25.symm rfl rfl fun w18 hb18 hf18 hs18 => fitp ((hp16.trans hp17).andNew hf18 fun i hi => by omega) hb18⟩
      · have hj2 : j = l.length := by have := dfalse d3; omega
        subst hj2
        rw [List.take_length] at row
        obtain ⟨qv, h6, hq⟩ := row.ex
        have st8 := st7.on row.pu
        obtain ⟨qr, h8, ho⟩ := st8.ex
        refine ⟨qr, cl h8 2, _, cl h6 0, qv, cl h6 1, alB fun w11 hp11 hb11 => ?_⟩
        obtain ⟨q', w12, e12, hK⟩ := (st8.on hp11).put (hp11.blk h8) (ho.pu hp11) ((hq.pu hp11).low (by have := st7.sz; omega)) hb11 (by simp; omega)
        refine ⟨q', w12, e12, hK _ fun w13 st13 => ?_⟩
        show J (IntKind.i64.wrap ((k : Int) + 1)) w13
        rw [wrap_in (by omega) (by omega)]
        exact hJ _ _ hk2 ⟨by omega, by rw [map_take' _ hx]; exact st13⟩
    · have hk2 : k = t.recs.length := by have := dfalse d2; omega
      subst hk2
      rw [List.take_length] at st7
      exact st7.ret hp1 hmT
  have cat : ∀ {wz : World}, Pu w2 wz -> ∃ (q : SV) (w' : World), (Builtin.append_ #[32, 32] 32 #[.slice none 0 0, .slice s.a s.len s.cap]).run Tryz.prog wz = .ok (.slice q.a q.len q.cap) w' /\ NewF wz w' q l /\ Pu wz w' := fun {wz} hz => by
    obtain ⟨q, w', e', h', f'⟩ := (NewF.nil wz wz).cat (Nat.le_refl _) (hl.pu (hp02.trans hz)) (by omega)
    exact ⟨q, w', e', h', (Pu.refl wz).andNew f' fun i hi => by simp [blkOf] at hi⟩
  refine ⟨fun u => Pu w5 u, Pu.refl _, t.page, fun u hu => by have := (b1 ((hp2.trans p5).trans hu)).1; rw [add0] at this; exact this, ?_, alB fun w6 hp6 hb6 => ?_⟩
  · obtain ⟨ql, w6, e6, ho, hp6⟩ := cat p5
    have z5 := p5.size
    have z6 := hp6.size
    refine ⟨ql, w6, e6, hp6, alB fun w7 hp7 hb7 => ⟨hp6.trans hp7, stA_fill hb7 s35.symm rfl rfl fun w8 hb8 hf8 hs8 => ?_⟩⟩
    have lt7 : w6.heap.size < w7.heap.size := blk_lt hb7
    have p27 := (p5.trans hp6).trans hp7
    have st := ModSt.start (hp2.trans p27) (p27.blk hb2) ((ho.pu hp7).low p5.size) (Nat.le_refl _) lt2 (fun hc => by have := ho.top _ hc; omega) (by omega) lt7 hb8 hf8 hs8
    exact rest st
  · obtain ⟨ql, w7, e7, ho, hp7⟩ := cat (p5.trans hp6)
    have z5 := p5.size
    have lt6 : w5.heap.size < w6.heap.size := blk_lt hb6
    have z7 := hp7.size
    refine ⟨hp6, ql, w7, e7, hp6.trans hp7, stA_fill (hp7.blk hb6) s35.symm rfl rfl fun w8 hb8 hf8 hs8 => ?_⟩
    have p27 := (p5.trans hp6).trans hp7
    have st := ModSt.start (hp2.trans p27) (p27.blk hb2) (ho.low (show w2.heap.size <= w6.heap.size by omega)) (Nat.le_refl _) lt2 (fun hc => by have := ho.2 _ hc; omega) (by omega) (by omega) hb8 hf8 hs8
    exact rest st
theorem name_size {f : Fld} (h : fieldB f = true) : f.name.size <= 10 := by
  have := (field_parts h).2.1
  omega
theorem modT_nice {t : Tbl} {l : List Fld} {w : World} {f r s : SV} (h : RdTbl w t f r) (hl : RdSl w s l) : Nice (modT t l).1 := by
  unfold modT
  split
  · exact Nice.zero
  rename_i h1
  split
  · exact Nice.zero
  rename_i h2
  have hok := Okay.of (show validT t = 0 by omega)
  obtain ⟨_, hall, _, h16, _⟩ := validF_ok (show validF l = 0 by omega)
  have h300 := hok.m300
  have h64 : F64 l := fun y hy => by
    obtain ⟨i, hi⟩ := List.mem_iff_getElem?.1 hy
    obtain ⟨_, _, _, k1, k2, _⟩ := fldAt hl hi
    exact ⟨k1, k2⟩
  refine ⟨h.page, h64, fun x hx => ?_, by show l.length <= 255; omega, by simp; omega, fun y hy => name_size (List.all_eq_true.1 hall y hy)⟩
  obtain ⟨x', hx', rfl⟩ := List.mem_map.1 hx
  refine ⟨fun v hv => ?_, by simp [modR]; omega⟩
  obtain ⟨y, hy, rfl⟩ := List.mem_map.1 hv
  exact movedS_in (h64 y hy).1 (hok.recs x' hx')
theorem tableModifies_c (w : World) (t : Tbl) (f r : SV) (h : RdTbl w t f r) (hlt : Lim.ok t) (s : SV) (l : List Fld) (hl : RdSl w s l) (hll : Lim.ok l) : Calls Tryz.prog 11 #[tblA t f r, .slice s.a s.len s.cap] w fun e w' => e = .returned (.bool true) /\ Pu w w' := by
  have hlf : Lim.ok t.fields := hlt.1
  refine F11_calls _ _ _ _ w _ (alB fun w1 hp1 hb1 => ?_)
  have b1 : ∀ {wz}, Pu w1 wz -> _ := fun {wz} (h : Pu w1 wz) => tbl_blk (t := t) (f := f) (q := r) (h.blk hb1)
  have kn : ∀ {wz : World}, Pu w wz -> Calls Tryz.prog 12 #[] wz fun e w' => ∃ bb : Bool, e = .returned (.bool bb) /\ (Ending.returned (.bool bb) = .returned (.bool true) /\ Pu w w') := fun {wz} hz => by
    refine (known_c wz).mono ?_
    rintro e w' ⟨rfl, hp'⟩
    exact ⟨_, rfl, rfl, hz.trans hp'⟩
  refine ⟨_, (b1 (Pu.refl _)).1, f, (b1 (Pu.refl _)).2.1, r, (b1 (Pu.refl _)).2.2, (over_c (h.pu hp1)).mono ?_⟩
  rintro e w2 ⟨x, rfl, hp2⟩
  have hz2 : RdTbl w2 ⟨0, l, []⟩ s ⟨none, 0, 0⟩ := ⟨(⟨by decide, by decide⟩ : In64 0), hl.pu (hp1.trans hp2), RdSl.nil _ _ _⟩
  refine ⟨x, rfl, Br.of (fun _ => kn (hp1.trans hp2)) (fun _ => (over_c hz2).mono ?_)⟩
  rintro e w3 ⟨x2, rfl, hp3⟩
  have p3 := hp2.trans hp3
  refine ⟨x2, rfl, Br.of (fun _ => kn (hp1.trans p3)) (fun _ => ⟨_, (b1 p3).1, f, (b1 p3).2.1, r, (b1 p3).2.2, (modify_c (h.pu (hp1.trans p3)) hlf (hl.pu (hp1.trans p3)) hll).mono ?_⟩)⟩
  rintro e w4 ⟨f4, q4, rfl, ho4, hp4⟩
  refine ⟨_, f4, q4, _, rfl, boxA rfl s35.symm rfl fun w5 hp5 hs5 hb5 => ?_⟩
  have p5 := (p3.trans hp4).trans hp5
  refine ⟨_, (b1 p5).1, f, (b1 p5).2.1, r, (b1 p5).2.2, (rModify_c (h.pu (hp1.trans p5)) (hl.pu (hp1.trans p5))).mono ?_⟩
  rintro e w6 ⟨f6, q6, rfl, ho6, hp6⟩
  refine ⟨_, f6, q6, _, rfl, boxA rfl s35.symm rfl fun w7 hp7 hs7 hb7 => ?_⟩
  have b5 := (hp6.trans hp7).blk hb5
  have hn := modT_nice h hl
  refine ⟨_, cl b5 0, f4, cl b5 1, q4, cl b5 2, _, cl hb7 0, f6, cl hb7 1, q6, cl hb7 2, (sameT_c ((ho4.pu ((hp5.trans hp6).trans hp7)).rd hn) ((ho6.pu hp7).rd hn)).mono ?_⟩
  rintro e w8 ⟨rfl, hp8⟩
  exact ⟨_, rfl, Br.t (by simp) (Br.t (by simp) (kn (((hp1.trans p5).trans (hp6.trans hp7)).trans hp8)))⟩
end Go.Proofs.YtecmfdfhpldmmaaGreatDoor
