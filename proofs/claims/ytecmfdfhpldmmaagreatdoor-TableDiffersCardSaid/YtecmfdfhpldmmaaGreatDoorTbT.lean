import Derived.Test.YtecmfdfhpldmmaaGreatDoorTbRw
/- Table: the law on what a value becomes in a field. No condition. -/
set_option maxRecDepth 100000
set_option linter.unusedVariables false
set_option linter.unusedSimpArgs false
namespace Go.Proofs.YtecmfdfhpldmmaaGreatDoor
open Go.Sh Go.RowKit

theorem dropWhile_idem {α : Type} (p : α → Bool) : ∀ l : List α, (l.dropWhile p).dropWhile p = l.dropWhile p
  | [] => rfl
  | a :: l => by
    by_cases h : p a = true
    · rw [List.dropWhile_cons, if_pos h]; exact dropWhile_idem p l
    · rw [List.dropWhile_cons, if_neg h, List.dropWhile_cons, if_neg h]
theorem bare_bare (l : List UInt8) : bare (bare l) = bare l := by
  unfold bare; rw [List.reverse_reverse, dropWhile_idem]
theorem fitS_again {f : Fld} {p : Int} {v : Val} (h : (fitS f p v).2 = 0) : fitS f p (fitS f p v).1 = ((fitS f p v).1, 0) := by
  cases hB : fieldB f && pageB p
  · rw [fitS_wrong hB] at h; simp at h
  by_cases hv : validV v ≠ 0
  · rw [fitS_invalid hB hv] at h; exact absurd h hv
  have hv : validV v = 0 := by simpa using hv
  rw [fitS_fitted hB hv] at h ⊢
  have hfB : fieldB f = true := by simp at hB; exact hB.1
  have stay : (fitted f p v).1 = v → fitS f p (fitted f p v).1 = ((fitted f p v).1, 0) := fun e => by
    rw [e, fitS_fitted hB hv]
    have : fitted f p v = ((fitted f p v).1, (fitted f p v).2) := rfl
    rw [this, h, e]
  by_cases hk : v.kind = 0
  · refine stay ?_
    unfold fitted at h ⊢
    rw [if_pos hk] at h ⊢
    by_cases hn : f.null = true
    · rw [if_pos hn]
    · rw [if_neg hn] at h; simp at h
  by_cases hk2 : v.kind ≠ (emptyV f).kind
  · unfold fitted at h; rw [if_neg hk, if_pos hk2] at h; simp at h
  by_cases h4 : f.kind = 4
  · obtain ⟨wl, wh⟩ := fld_text hfB h4
    have e1 : fitted f p v = if textB (bare (v.s.data.toList.take f.width.toNat)) p then (⟨4, 0, bs (bare (v.s.data.toList.take f.width.toNat))⟩, 0) else (noV, 10) := by
      unfold fitted; rw [if_neg hk, if_neg hk2, if_pos h4]
    cases ht : textB (bare (v.s.data.toList.take f.width.toNat)) p
    · rw [e1, ht] at h; simp at h
    rw [e1, ht, if_pos rfl]
    obtain ⟨hvs, _, _⟩ := valid_ok hv
    have hbl := bare_le (v.s.data.toList.take f.width.toNat)
    have htl := List.length_take_le f.width.toNat v.s.data.toList
    have hb2 := bare_bare (v.s.data.toList.take f.width.toNat)
    generalize bare (v.s.data.toList.take f.width.toNat) = B at *
    have hvB : validV ⟨4, 0, bs B⟩ = 0 := by
      rw [validV_eq, if_neg (by dsimp only; rw [bs_size]; omega)]; rfl
    rw [fitS_fitted hB hvB]
    unfold fitted
    rw [if_neg (show ¬ (4 : Int) = 0 by decide), if_neg (by unfold emptyV; rw [if_neg (by omega)]; simp [h4]), if_pos h4]
    have e3 : bare (B.take f.width.toNat) = B := by rw [List.take_of_length_le (by omega), hb2]
    simp only [bs_list, e3, ht, if_true]
  · refine stay ?_
    unfold fitted at h ⊢
    rw [if_neg hk, if_neg hk2, if_neg h4] at h ⊢
    cases hf : fitsV f p v
    · rw [hf] at h; simp at h
    · rfl
theorem sameValue_c (a b : Val) (w : World) : Calls Tryz.prog 15 #[valA a, valA b] w fun e w' => e = .returned (.bool (decide (a = b))) ∧ Pu w w' := by
  refine F15_calls _ _ _ _ _ _ w _ ?_
  refine alB fun w1 hp1 hb1 => alB fun w2 hp2 hb2 => ?_
  have hp := hp1.trans hp2
  have q1 := hp2.blk hb1
  refine ⟨_, cl0 q1, _, cl0 hb2, Br.of (fun d => ⟨_, cl q1 1, _, cl hb2 1, Br.of (fun d1 => ⟨_, cl q1 2, _, cl hb2 2, ?_, hp⟩) (fun d1 => ⟨?_, hp⟩)⟩) (fun d => ⟨?_, hp⟩)⟩
  · rw [toList_beq]
    congr 2
    have e1 : a.kind = b.kind := btrue d
    have e2 : a.n = b.n := btrue d1
    refine dec_eq ⟨fun e3 => ?_, fun e => by rw [e]⟩
    obtain ⟨a1, a2, a3⟩ := a; obtain ⟨b1, b2, b3⟩ := b
    simp only at e1 e2 e3
    subst e1 e2 e3; rfl
  · rw [decide_eq_false (fun e => bfalse d1 (by rw [e]))]
  · rw [decide_eq_false (fun e => bfalse d (by rw [e]))]
/-- The law: true. -/
theorem tableFits_c (w : World) (f : Fld) (hf : f.name.size ≤ 140737488355328) (p : Int) (_ : In64 p) (v : Val) (hv : v.s.size ≤ 140737488355328) : Calls Tryz.prog 3 #[fldA f, .int .i64 p, valA v] w fun e w' => e = .returned (.bool true) ∧ Pu w w' := by
  refine F3_calls _ _ _ _ _ _ _ _ w _ ?_
  refine alB fun w1 hp1 hb1 => alB fun w2 hp2 hb2 => ?_
  have hp02 := hp1.trans hp2
  have b1 : ∀ {wz}, Pu w2 wz → wz.heap[w.heap.size]? = some (.cells #[.string f.name, .int .i64 f.kind, .int .i64 f.width, .bool f.null] 23) := fun h => h.blk (hp2.blk hb1)
  have b2 : ∀ {wz}, Pu w2 wz → wz.heap[w1.heap.size]? = some (.cells #[.int .i64 v.kind, .int .i64 v.n, .string v.s] 25) := fun h => h.blk hb2
  have q1 := b1 (Pu.refl w2)
  have q2 := b2 (Pu.refl w2)
  refine ⟨_, cl0 q1, _, cl q2 2, Br.of (fun d => (known_c w2).mono ?_) (fun d => ⟨_, cl q1 0, _, cl q1 1, _, cl q1 2, _, cl q1 3, _, cl q2 0, _, cl q2 1, _, cl q2 2, (fit_c f p v hf w2).mono ?_⟩)⟩
  · rintro e w3 ⟨rfl, hp3⟩; exact ⟨_, rfl, rfl, hp02.trans hp3⟩
  rintro e w3 ⟨rfl, hp3⟩
  refine ⟨_, _, _, _, rfl, boxA rfl s25.symm rfl fun w4 hp4 hs4 hb4 => ?_⟩
  have hp24 := hp3.trans hp4
  refine ⟨_, cl (b1 hp24) 0, _, cl (b1 hp24) 1, _, cl (b1 hp24) 2, _, cl (b1 hp24) 3, _, cl (b2 hp24) 0, _, cl (b2 hp24) 1, _, cl (b2 hp24) 2, (rFit_c f p v w4).mono ?_⟩
  rintro e w5 ⟨rfl, hp5⟩
  refine ⟨_, _, _, _, rfl, boxA rfl s25.symm rfl fun w6 hp6 hs6 hb6 => ?_⟩
  have hp46 := hp5.trans hp6
  have hp26 := hp24.trans hp46
  have hb4' := hp46.blk hb4
  refine ⟨_, cl hb4' 0, _, cl hb4' 1, _, cl hb4' 2, _, cl hb6 0, _, cl hb6 1, _, cl hb6 2, (sameValue_c (fitS f p v).1 (fitS f p v).1 w6).mono ?_⟩
  rintro e w7 ⟨rfl, hp7⟩
  have hp27 := hp26.trans hp7
  rw [decide_eq_true rfl]
  refine ⟨_, rfl, Br.f rfl (Br.of (fun d1 => absurd rfl (bntrue d1)) (fun _ => Br.of (fun d1 => (known_c w7).mono ?_) (fun d1 => ?_)))⟩
  · rintro e w8 ⟨rfl, hp8⟩; exact ⟨_, rfl, rfl, hp02.trans (hp27.trans hp8)⟩
  have h0 := bnfalse d1
  have hag := fitS_again h0
  have hb47 := hp7.blk hb4'
  refine ⟨_, cl (b1 hp27) 0, _, cl (b1 hp27) 1, _, cl (b1 hp27) 2, _, cl (b1 hp27) 3, _, cl hb47 0, _, cl hb47 1, _, cl hb47 2, (fit_c f p (fitS f p v).1 hf w7).mono ?_⟩
  rintro e w8 ⟨rfl, hp8⟩
  rw [hag]
  refine ⟨_, _, _, _, rfl, boxA rfl s25.symm rfl fun w9 hp9 hs9 hb9 => ?_⟩
  have hb49 := (hp8.trans hp9).blk hb47
  refine ⟨_, cl hb49 0, _, cl hb49 1, _, cl hb49 2, _, cl hb9 0, _, cl hb9 1, _, cl hb9 2, (sameValue_c (fitS f p v).1 (fitS f p v).1 w9).mono ?_⟩
  rintro e w10 ⟨rfl, hp10⟩
  rw [decide_eq_true rfl]
  refine ⟨_, rfl, Br.t rfl (Br.t rfl ((known_c w10).mono ?_))⟩
  rintro e w11 ⟨rfl, hp11⟩
  exact ⟨_, rfl, rfl, hp02.trans ((((hp27.trans hp8).trans hp9).trans hp10).trans hp11)⟩
end Go.Proofs.YtecmfdfhpldmmaaGreatDoor
