import Derived.Test.YtecmfdfhpldmmaaGreatDoorTbOwB
import Derived.Test.YtecmfdfhpldmmaaGreatDoorTbPrB
import Derived.Test.YtecmfdfhpldmmaaGreatDoorShTwentyThree
import Derived.Test.YtecmfdfhpldmmaaGreatDoorTbOwA
/- Table: records of empty values, places of names; the law on them. No condition. -/
set_option maxRecDepth 100000
set_option linter.unusedVariables false
set_option linter.unusedSimpArgs false
namespace Go.Proofs.YtecmfdfhpldmmaaGreatDoor
open Go.Sh Go.RowKit
theorem u44 : Tryz.prog.underlying 44 = some (.slice 25) := by kernel_rfl
theorem info25 : (Tryz.prog.info? 25).map (fun i => (i.zero, i.size, i.bytes)) = some (some (.agg #[.int .i64 0, .int .i64 0, .string ⟨#[]⟩]), 3, 32) := by kernel_rfl
theorem s46 : sizeB Tryz.prog 46 = 2 := by kernel_rfl
theorem valV_len (v : Val) : (valV v).length = 3 := rfl
def NewV (w0 w : World) (s : SV) (l : List Val) : Prop := RowAt w 25 3 s (l.flatMap valV) /\ ∀ b ∈ blkOf s, w0.heap.size <= b
theorem NewV.len {w0 w : World} {s : SV} {l : List Val} (h : NewV w0 w s l) : s.len = l.length := h.1.len valV_len (by decide)
theorem NewV.pu {w0 w w' : World} {s : SV} {l : List Val} (h : NewV w0 w s l) (hp : Pu w w') : NewV w0 w' s l := ⟨h.1.pu hp, h.2⟩
theorem NewV.fr {B : Nat -> Prop} {w0 w w' : World} {s : SV} {l : List Val} (h : NewV w0 w s l) (hf : Fr B w w') (hn : ∀ k ∈ blkOf s, ¬ B k) : NewV w0 w' s l := ⟨h.1.fr hf hn, h.2⟩
theorem NewV.nil (w0 w : World) : NewV w0 w ⟨none, 0, 0⟩ [] := ⟨RowAt.nil w 25 3, by simp [blkOf]⟩
theorem NewV.low {w0 w1 w : World} {s : SV} {l : List Val} (h : NewV w1 w s l) (hz : w0.heap.size <= w1.heap.size) : NewV w0 w s l := ⟨h.1, fun b hb => Nat.le_trans hz (h.2 b hb)⟩
theorem NewV.push {w0 w : World} {s : SV} {l : List Val} (h : NewV w0 w s l) (hz : w0.heap.size <= w.heap.size) {r : Nat} {v : Val} {c : Array Value} (hr : w.heap[r]? = some (.cells c 25)) (hc : c = #[.int .i64 v.kind, .int .i64 v.n, .string v.s]) (hb : l.length <= 1000000) :
    ∃ (s' : SV) (w' : World), (Builtin.append_ #[44, 44] 44 #[.slice s.a s.len s.cap, .slice (some ⟨r, 0, none⟩) 1 1]).run Tryz.prog w = .ok (.slice s'.a s'.len s'.cap) w' /\ NewV w0 w' s' (l ++ [v]) /\ Fr (· ∈ blkOf s) w w' := by
  subst hc
  have h1 := h.len
  obtain ⟨s', w', hra, hrow, hf, hblk, _⟩ := row_append_any (P := Tryz.prog) (ty := 44) u44 info25 rfl (by decide) h.1 (A := some ⟨r, 0, none⟩) (m := 1) (c := 1) (news := valV v) rfl (fun j u hu => ⟨_, rfl, by rw [cl hr]; simpa using hu⟩) (fun u hu => by simp [valV] at hu; rcases hu with rfl | rfl | rfl <;> rfl) (by omega)
  refine ⟨s', w', hra, ⟨by simpa using hrow, fun b hb => ?_⟩, hf⟩
  rcases hblk b hb with h2 | h2
  · exact h.2 b h2
  · omega
structure RdV (w : World) (s : SV) (l : List Val) : Prop where
  len : s.len = l.length
  lim : l.length <= 140737488355328
  get : ∀ i v, l[i]? = some v -> ∃ a, s.a = some a /\ w.cell? ((a.add (i * 3)).add 0) = some (.int .i64 v.kind) /\ w.cell? ((a.add (i * 3)).add 1) = some (.int .i64 v.n) /\ w.cell? ((a.add (i * 3)).add 2) = some (.string v.s)
theorem RdV.pu {w w' : World} {s : SV} {l : List Val} (h : RdV w s l) (hp : Pu w w') : RdV w' s l := ⟨h.len, h.lim, fun i v hv => by
  obtain ⟨a, h1, h2, h3, h4⟩ := h.get i v hv
  exact ⟨a, h1, hp.cell h2, hp.cell h3, hp.cell h4⟩⟩
theorem RdV.of {w : World} {s : SV} {l : List Val} (h : RdSl w s l) : RdV w s l := ⟨h.len, by have := h.lim; have := h.len; omega, fun i v hv => by
  obtain ⟨a, h1, _, _, _, h2, h3, h4⟩ := valAt h hv
  exact ⟨a, h1, h2, h3, h4⟩⟩
theorem NewV.rd {w0 w : World} {s : SV} {l : List Val} (h : NewV w0 w s l) (hb : l.length <= 140737488355328) : RdV w s l := ⟨h.len, hb, fun i v hv => by
  obtain ⟨a, h1, _, h2⟩ := h.1.elem valV_len hv (o := 0) rfl
  obtain ⟨a', h1', _, h3⟩ := h.1.elem valV_len hv (o := 1) rfl
  obtain ⟨a'', h1'', _, h4⟩ := h.1.elem valV_len hv (o := 2) rfl
  rw [h1] at h1' h1''; cases h1'; cases h1''
  exact ⟨a, h1, h2, h3, h4⟩⟩
end Go.Proofs.YtecmfdfhpldmmaaGreatDoor

/- Table: in which records two tables differ; the law on it. No condition. -/
set_option maxRecDepth 100000
set_option linter.unusedVariables false
set_option linter.unusedSimpArgs false
namespace Go.Proofs.YtecmfdfhpldmmaaGreatDoor
open Go.Sh Go.RowKit
structure RdF (w : World) (s : SV) (l : List Fld) : Prop where
  len : s.len = l.length
  lim : l.length <= 140737488355328
  get : ∀ i f, l[i]? = some f -> ∃ a, s.a = some a /\ w.cell? ((a.add (i * 4)).add 0) = some (.string f.name) /\ w.cell? ((a.add (i * 4)).add 1) = some (.int .i64 f.kind) /\ w.cell? ((a.add (i * 4)).add 2) = some (.int .i64 f.width) /\ w.cell? ((a.add (i * 4)).add 3) = some (.bool f.null)
theorem RdF.pu {w w' : World} {s : SV} {l : List Fld} (h : RdF w s l) (hp : Pu w w') : RdF w' s l := ⟨h.len, h.lim, fun i v hv => by
  obtain ⟨a, h1, h2, h3, h4, h5⟩ := h.get i v hv
  exact ⟨a, h1, hp.cell h2, hp.cell h3, hp.cell h4, hp.cell h5⟩⟩
theorem RdF.of {w : World} {s : SV} {l : List Fld} (h : RdSl w s l) : RdF w s l := ⟨h.len, by have := h.lim; have := h.len; omega, fun i v hv => by
  obtain ⟨a, h1, _, _, _, _, h2, h3, h4, h5⟩ := fldAt h hv
  exact ⟨a, h1, h2, h3, h4, h5⟩⟩
theorem validT_ok {t : Tbl} (h : validT t = 0) : pageB t.page = true /\ validF t.fields = 0 /\ t.recs.length <= 300 /\ firstBad t.fields t.page t.recs = 0 := by
  unfold validT at h
  split at h
  · rename_i h1
    split at h
    · rename_i h2; exact absurd h h2
    · rename_i h2
      split at h
      · cases h
      · rename_i h3; exact ⟨h1, by omega, by omega, h⟩
  · cases h
theorem tbl_blk {w : World} {r : Nat} {t : Tbl} {f q : SV} (h : w.heap[r]? = some (.cells #[.int .i64 t.page, .slice f.a f.len f.cap, .slice q.a q.len q.cap] 35)) : w.cell? ((⟨r, 0, none⟩ : Addr).add 0) = some (.int .i64 t.page) /\ w.cell? ((⟨r, 0, none⟩ : Addr).add 1) = some (.slice f.a f.len f.cap) /\ w.cell? ((⟨r, 0, none⟩ : Addr).add 2) = some (.slice q.a q.len q.cap) := ⟨cl h 0, cl h 1, cl h 2⟩
end Go.Proofs.YtecmfdfhpldmmaaGreatDoor

/- Table: how values are written in fields, by both packages. No condition. -/
set_option maxRecDepth 100000
set_option linter.unusedVariables false
set_option linter.unusedSimpArgs false
namespace Go.Proofs.YtecmfdfhpldmmaaGreatDoor
open Go.Sh Go.RowKit
theorem empty_bytes {s : ByteArray} (h : s.size = 0) : s = ⟨#[]⟩ := by
  obtain ⟨⟨l⟩⟩ := s
  cases l with
  | nil => rfl
  | cons a l => simp [ByteArray.size] at h
inductive RightV (f : Fld) (p : Int) (v : Val) : Prop
  | nil (hv : v = noV) (hn : f.null = true)
  | truth (hk : f.kind = 1) (hw : f.width = 1) (hv : v = ⟨1, v.n, ⟨#[]⟩⟩) (hn : v.n = 0 ∨ v.n = 1)
  | num (hk : f.kind = 2) (hw : 1 <= f.width /\ f.width <= 15) (hv : v = ⟨2, v.n, ⟨#[]⟩⟩) (hn : -1000000000000000 <= v.n /\ v.n <= 1000000000000000) (hl : ((decI v.n).length : Int) <= f.width)
  | date (hk : f.kind = 3) (hw : f.width = 8) (hv : v = ⟨3, v.n, ⟨#[]⟩⟩) (hn : 0 <= v.n /\ v.n <= 3652059)
  | text (hk : f.kind = 4) (hw : 1 <= f.width /\ f.width <= 254) (hv : v = ⟨4, 0, v.s⟩) (hl : (v.s.size : Int) <= f.width) (hb : bare v.s.data.toList = v.s.data.toList) (ht : textB v.s.data.toList p = true)
  | memo (hk : f.kind = 5) (hw : f.width = 8) (hv : v = ⟨2, v.n, ⟨#[]⟩⟩) (hn : 0 <= v.n /\ v.n <= 99999999)
theorem fld_kinds {f : Fld} (h : fieldB f = true) : (f.kind = 1 /\ f.width = 1) ∨ (f.kind = 2 /\ 1 <= f.width /\ f.width <= 15) ∨ (f.kind = 3 /\ f.width = 8) ∨ (f.kind = 4 /\ 1 <= f.width /\ f.width <= 254) ∨ (f.kind = 5 /\ f.width = 8) := by
  unfold fieldB kindW at h
  simp only [Bool.and_eq_true] at h
  have h := h.2
  split at h
  · rename_i hk; simp at h; exact .inl ⟨hk, h⟩
  · split at h
    · rename_i hk; simp at h; exact .inr (.inl ⟨hk, h⟩)
    · split at h
      · rename_i hk; simp at h; exact .inr (.inr (.inl ⟨hk, h⟩))
      · split at h
        · rename_i hk; simp at h; exact .inr (.inr (.inr (.inl ⟨hk, h⟩)))
        · split at h
          · rename_i hk; simp at h; exact .inr (.inr (.inr (.inr ⟨hk, h⟩)))
          · simp at h
theorem RightV.of {f : Fld} {p : Int} {v : Val} (hf : fieldB f = true) (h : fitsV f p v = true) : RightV f p v := by
  have hk := fld_kinds hf
  have hv : validV v = 0 := by
    by_cases hv : validV v = 0
    · exact hv
    · unfold fitsV at h; rw [if_pos hv] at h; cases h
  obtain ⟨_, hok, hs⟩ := valid_ok hv
  unfold fitsV at h
  rw [if_neg (by omega)] at h
  obtain ⟨k, n, s⟩ := v
  simp only at *
  by_cases h0 : k = 0
  · rw [if_pos h0] at h
    subst h0
    have hn : n = 0 := by unfold okN at hok; rw [if_pos rfl] at hok; simpa using hok
    have hs : s = ⟨#[]⟩ := empty_bytes (by rcases hs with h | h; omega; exact h)
    subst hn hs
    exact .nil rfl h
  rw [if_neg h0] at h
  by_cases h5 : f.kind = 5
  · rw [if_pos h5] at h
    have hw : f.width = 8 := by omega
    simp only [Bool.and_eq_true, decide_eq_true_eq, memoN] at h
    obtain ⟨rfl, h1, h2⟩ := h
    have hs : s = ⟨#[]⟩ := empty_bytes (by rcases hs with h | h; omega; exact h)
    subst hs
    exact .memo h5 hw rfl ⟨h1, h2⟩
  rw [if_neg h5] at h
  by_cases hkk : k ≠ f.kind
  · rw [if_pos hkk] at h; cases h
  rw [if_neg hkk] at h
  have hkk : k = f.kind := by omega
  rcases hk with ⟨e, hw⟩ | ⟨e, hw⟩ | ⟨e, hw⟩ | ⟨e, hw⟩ | ⟨e, hw⟩
  · rw [e] at hkk; subst hkk
    have hs : s = ⟨#[]⟩ := empty_bytes (by rcases hs with h | h; omega; exact h)
    subst hs
    unfold okN at hok
    rw [if_neg (by decide), if_pos rfl] at hok
    exact .truth e hw rfl (by simpa using hok)
  · rw [e] at hkk; subst hkk
    have hs : s = ⟨#[]⟩ := empty_bytes (by rcases hs with h | h; omega; exact h)
    subst hs
    unfold okN at hok
    rw [if_neg (by decide), if_neg (by decide), if_pos rfl] at hok
    rw [if_pos e] at h
    exact .num e hw rfl (by simpa using hok) (by simpa using h)
  · rw [e] at hkk; subst hkk
    have hs : s = ⟨#[]⟩ := empty_bytes (by rcases hs with h | h; omega; exact h)
    subst hs
    unfold okN at hok
    rw [if_neg (by decide), if_neg (by decide), if_neg (by decide), if_pos rfl] at hok
    exact .date e hw rfl (by simpa using hok)
  · rw [e] at hkk; subst hkk
    rw [if_neg (by omega), if_pos e] at h
    unfold okN at hok
    rw [if_neg (by decide), if_neg (by decide), if_neg (by decide), if_neg (by decide), if_pos rfl] at hok
    simp only [Bool.and_eq_true, decide_eq_true_eq] at h hok
    subst hok
    exact .text e hw rfl h.1.1 h.1.2 h.2
  · omega
noncomputable def shownS (f : Fld) (v : Val) : List UInt8 :=
  if v.kind = 0 then List.replicate f.width.toNat 32 else if f.kind = 1 then [if v.n = 1 then 84 else 70] else if f.kind = 3 then stampB v.n
  else if f.kind = 4 then textSh f v else if f.kind = 5 /\ v.n = 0 then List.replicate f.width.toNat 32 else List.replicate (f.width.toNat - (decI v.n).length) 32 ++ decI v.n
theorem cellS_shown (f : Fld) (v : Val) : cellS shownS f v = shownS f v := by
  unfold cellS
  by_cases h : v.kind = 0
  · rw [if_pos h]; unfold shownS; rw [if_pos h]
  · rw [if_neg h]
theorem date_of {k : Nat} (h : 1 <= k /\ k <= 3652059) : ∃ y m d, IsDate y m d /\ dayOf y m d = k := by
  have hend := yfirst_end
  -- the year that holds the day
  have hy : ∃ y, 1 <= y /\ y <= 9999 /\ yfirst y < k /\ k <= yfirst (y + 1) := by
    have : ∀ j : Nat, j <= 9999 -> k <= yfirst (j + 1) -> ∃ y, 1 <= y /\ y <= 9999 /\ yfirst y < k /\ k <= yfirst (y + 1) := by
      intro j
      induction j with
      | zero => intro _ hk; exfalso; have : yfirst 1 = 0 := by decide
                simp only [Nat.zero_add] at hk; omega
      | succ j ih =>
        intro hj hk
        by_cases hlt : yfirst (j + 1) < k
        · exact ⟨j + 1, by omega, hj, hlt, hk⟩
        · exact ih (by omega) (by omega)
    exact this 9999 (by omega) (by show k <= yfirst 10000; omega)
  obtain ⟨y, y1, y9, ylt, yle⟩ := hy
  have hys := yfirst_succ y1
  have hm12 := mfirst_year y
  have hm : ∃ m, 1 <= m /\ m <= 12 /\ yfirst y + mfirst y (m - 1) < k /\ k <= yfirst y + mfirst y m := by
    have : ∀ j : Nat, j <= 12 -> k <= yfirst y + mfirst y j -> ∃ m, 1 <= m /\ m <= 12 /\ yfirst y + mfirst y (m - 1) < k /\ k <= yfirst y + mfirst y m := by
      intro j
      induction j with
      | zero => intro _ hk; exfalso; simp only [mfirst] at hk; omega
      | succ j ih =>
        intro hj hk
        by_cases hlt : yfirst y + mfirst y j < k
        · exact ⟨j + 1, by omega, hj, by rw [Nat.add_sub_cancel]; exact hlt, hk⟩
        · exact ih (by omega) (by omega)
    exact this 12 (by omega) (by rw [hm12]; omega)
  obtain ⟨m, m1, m12, mlt, mle⟩ := hm
  obtain ⟨j, rfl⟩ : ∃ j, m = j + 1 := ⟨m - 1, by omega⟩
  rw [Nat.add_sub_cancel] at mlt
  have hmf : mfirst y (j + 1) = mfirst y j + mdays y (j + 1) := rfl
  have hD : IsDate y (j + 1) (k - yfirst y - mfirst y j) := ⟨y1, y9, m1, m12, by omega, by omega⟩
  exact ⟨y, j + 1, k - yfirst y - mfirst y j, hD, by unfold dayOf; rw [Nat.add_sub_cancel]; omega⟩
theorem stampB_len {n : Int} (h : 0 <= n /\ n <= 3652059) : (stampB n).length = 8 := by
  by_cases h0 : n = 0
  · rw [h0, stampB_zero]; rfl
  obtain ⟨k, rfl⟩ : ∃ k : Nat, n = (k : Int) := ⟨n.toNat, by omega⟩
  obtain ⟨y, m, d, hD, e⟩ := date_of (k := k) (by omega)
  rw [← e, stampB_date hD]
  exact stamp_len8 hD
theorem RightV.len {f : Fld} {p : Int} {v : Val} (h : RightV f p v) : (shownS f v).length = f.width.toNat := by
  unfold shownS
  cases h with
  | nil hv hn => rw [hv]; simp [noV]
  | truth hk hw hv hn => rw [hv, if_neg (by simp), if_pos hk, hw]; rfl
  | num hk hw hv hn hl => rw [hv] at *; dsimp only at *; rw [if_neg (by decide), if_neg (by omega), if_neg (by omega), if_neg (by omega), if_neg (by omega), List.length_append, List.length_replicate]; omega
  | date hk hw hv hn => rw [hv, if_neg (by simp), if_neg (by omega), if_pos hk, hw]; exact stampB_len hn
  | text hk hw hv hl hb ht => rw [hv, if_neg (by simp), if_neg (by omega), if_neg (by omega), if_pos hk]; unfold textSh; rw [List.length_append, size_list, List.length_replicate]; dsimp only; omega
  | memo hk hw hv hn =>
    rw [hv] at *; dsimp only at *
    rw [if_neg (by decide), if_neg (by omega), if_neg (by omega), if_neg (by omega)]
    by_cases h0 : v.n = 0
    · rw [if_pos ⟨hk, h0⟩, List.length_replicate]
    · rw [if_neg (by simp [h0]), List.length_append, List.length_replicate]
      obtain ⟨k, hk2⟩ : ∃ k : Nat, v.n = (k : Int) := ⟨v.n.toNat, by omega⟩
      rw [hk2, decI_nat]
      have := decN_short 7 k (by omega)
      omega
theorem writeNum_c (f : Fld) (v : Val) (hw : 1 <= f.width /\ f.width <= 254) (hn : -1000000000000000 <= v.n /\ v.n <= 1000000000000000) (w : World) : Calls Tryz.prog 127 #[fldA f, valA v] w fun e w' => e = .returned (.string (bs (strL v.n f.width))) /\ Pu w w' := by
  refine F127_calls _ _ _ _ _ _ _ w _ (alB fun w1 hp1 hb1 => alB fun w2 hp2 hb2 => ⟨_, cl hb2 1, _, cl (hp2.blk hb1) 2, (str_c hn hw w2).mono ?_⟩)
  rintro e w3 ⟨rfl, hp3⟩
  exact ⟨_, _, rfl, rfl, (hp1.trans hp2).trans hp3⟩
theorem strL_fit {n w : Int} (h : ((decI n).length : Int) <= w) : strL n w = List.replicate (w.toNat - (decI n).length) 32 ++ decI n := by unfold strL; rw [if_neg (by omega)]
theorem write_c {f : Fld} {p : Int} {v : Val} (h : RightV f p v) (h0 : v.kind ≠ 0) : ∃ K, kindOf5 f.kind = some K /\ hasBody Tryz.prog K.wr = true /\ ∀ w, Calls Tryz.prog K.wr #[fldA f, valA v] w fun e w' => e = .returned (.string (bs (shownS f v))) /\ Pu w w' := by
  cases h with
  | nil hv hn => rw [hv] at h0; exact absurd rfl h0
  | truth hk hw hv hn =>
    refine ⟨_, by rw [hk]; rfl, by kernel_rfl, fun w => ?_⟩
    refine F125_calls _ _ _ _ _ _ _ w _ (alB fun w1 hp1 hb1 => alB fun w2 hp2 hb2 => ⟨_, cl hb2 1, _, cl hb2 1, ?_⟩)
    have e : shownS f v = [if v.n = 1 then 84 else 70] := by unfold shownS; rw [if_neg h0, if_pos hk]
    rw [e]
    rcases hn with hn | hn
    · rw [hn]
      rw [wrap_in (by decide) (by decide)]
      exact ⟨by decide, by decide, by decide, by decide, rfl, hp1.trans hp2⟩
    · rw [hn]
      rw [wrap_in (by decide) (by decide)]
      exact ⟨by decide, by decide, by decide, by decide, rfl, hp1.trans hp2⟩
  | num hk hw hv hn hl =>
    refine ⟨_, by rw [hk]; rfl, by kernel_rfl, fun w => ?_⟩
    have e : shownS f v = strL v.n f.width := by rw [strL_fit hl]; unfold shownS; rw [if_neg h0, if_neg (by omega), if_neg (by omega), if_neg (by omega), if_neg (by omega)]
    rw [e]
    exact writeNum_c f v ⟨hw.1, by omega⟩ hn w
  | date hk hw hv hn =>
    refine ⟨_, by rw [hk]; rfl, by kernel_rfl, fun w => ?_⟩
    have e : shownS f v = stampB v.n := by unfold shownS; rw [if_neg h0, if_neg (by omega), if_pos hk]
    rw [e]
    refine F129_calls _ _ _ _ _ _ _ w _ (alB fun w1 hp1 hb1 => alB fun w2 hp2 hb2 => ⟨_, cl hb2 1, (stamp_c v.n hn w2).mono ?_⟩)
    rintro e w3 ⟨rfl, _, hp3⟩
    exact ⟨_, _, rfl, rfl, (hp1.trans hp2).trans hp3⟩
  | text hk hw hv hl hb ht =>
    refine ⟨_, by rw [hk]; rfl, by kernel_rfl, fun w => ?_⟩
    have e : shownS f v = textSh f v := by unfold shownS; rw [if_neg h0, if_neg (by omega), if_neg (by omega), if_pos hk]
    rw [e]
    exact writeText_c f v ⟨hl, by omega⟩ w
  | memo hk hw hv hn =>
    refine ⟨_, by rw [hk]; rfl, by kernel_rfl, fun w => ?_⟩
    refine F133_calls _ _ _ _ _ _ _ w _ (alB fun w1 hp1 hb1 => alB fun w2 hp2 hb2 => ⟨_, cl hb2 1, Br.of (fun d => ⟨_, cl (hp2.blk hb1) 2, ?_⟩) (fun d => ?_)⟩)
    · rw [show (Value.int .i64 f.width) = .int .i64 ((8 : Nat) : Int) by rw [hw]; rfl]
      refine (repeat_c 32 8 (by omega) w2).mono ?_
      rintro e w3 ⟨rfl, hp3⟩
      refine ⟨_, rfl, ?_, (hp1.trans hp2).trans hp3⟩
      have e : shownS f v = List.replicate 8 32 := by unfold shownS; rw [if_neg h0, if_neg (by omega), if_neg (by omega), if_neg (by omega), if_pos ⟨hk, btrue d⟩, hw]; rfl
      rw [e]
    · have d := bfalse d
      have q1 := hp2.blk hb1
      refine ⟨_, cl q1 0, _, cl q1 1, _, cl q1 2, _, cl q1 3, _, cl hb2 0, _, cl hb2 1, _, cl hb2 2, (writeNum_c f v (by omega) (by omega) w2).mono ?_⟩
      rintro e w3 ⟨rfl, hp3⟩
      refine ⟨_, rfl, ?_, (hp1.trans hp2).trans hp3⟩
      have hl : ((decI v.n).length : Int) <= f.width := by
        obtain ⟨k, hk2⟩ : ∃ k : Nat, v.n = (k : Int) := ⟨v.n.toNat, by omega⟩
        rw [hk2, decI_nat]
        have := decN_short 7 k (by omega)
        omega
      have e : shownS f v = strL v.n f.width := by rw [strL_fit hl]; unfold shownS; rw [if_neg h0, if_neg (by omega), if_neg (by omega), if_neg (by omega), if_neg (by simp [d])]
      rw [e]
def RightR (l : List Fld) (p : Int) (vs : List Val) : Prop := vs.length = l.length /\ ∀ (i : Nat) (f : Fld) (v : Val), l[i]? = some f -> vs[i]? = some v -> RightV f p v
theorem RightR.of {l : List Fld} {p : Int} {r : Rec} (hl : l.all fieldB = true) (h : validR l p r = 0) : RightR l p r.v := by
  obtain ⟨h1, h2⟩ := validR_ok h
  refine ⟨h1, fun i f v hf hv => RightV.of (List.all_eq_true.1 hl f (List.mem_of_getElem? hf)) ?_⟩
  exact List.all_eq_true.1 h2 (f, v) (List.mem_of_getElem? (zip_at hf hv))
theorem RightR.writes {l : List Fld} {p : Int} {vs : List Val} (hl : l.all fieldB = true) (h : RightR l p vs) : Writes shownS l vs := fun i f v hf hv h0 => by
  have hr := h.2 i f v hf hv
  refine ⟨?_, write_c hr h0⟩
  rw [hr.len]
  have := field_width (List.all_eq_true.1 hl f (List.mem_of_getElem? hf))
  omega
theorem cellsS_shown_len {l : List Fld} {p : Int} {vs : List Val} (hl : l.all fieldB = true) (h : RightR l p vs) : ∀ k, k <= l.length -> ((cellsS shownS (l.take k) (vs.take k)).length : Int) = ((l.take k).map (·.width)).sum
  | 0, _ => by simp [cellsS]
  | k + 1, h1 => by
    obtain ⟨f, hf⟩ := at_k (show k < l.length by omega)
    obtain ⟨v, hv⟩ := at_k (show k < vs.length by have := h.1; omega)
    rw [cellsS_take hf hv, List.length_append, sum_take hf, cellS_shown, (h.2 k f v hf hv).len]
    have := cellsS_shown_len hl h k (by omega)
    have := field_width (List.all_eq_true.1 hl f (List.mem_of_getElem? hf))
    omega
theorem rowS_len {l : List Fld} {p : Int} {r : Rec} (hl : l.all fieldB = true) (h : RightR l p r.v) : ((rowS shownS l r).length : Int) = wide l := by
  have h1 := cellsS_shown_len hl h l.length (Nat.le_refl _)
  rw [List.take_length, List.take_of_length_le (by have := h.1; omega)] at h1
  unfold rowS wide
  rw [List.length_append, List.length_append, flN_len, List.length_singleton]
  omega
theorem RightR.ne {l : List Fld} {p : Int} {vs : List Val} (hl : l.all fieldB = true) (h : RightR l p vs) (h0 : l ≠ []) : cellsS shownS l vs ≠ [] := fun e => by
  have h1 := cellsS_shown_len hl h l.length (Nat.le_refl _)
  rw [List.take_length, List.take_of_length_le (by have := h.1; omega), e] at h1
  obtain ⟨f, l', rfl⟩ := List.exists_cons_of_ne_nil h0
  simp only [List.map_cons, List.sum_cons, List.length_nil] at h1
  have hf := field_width (List.all_eq_true.1 hl f (by simp))
  have := sum_le (l := l') (WOk.of (List.all_eq_true.2 fun g hg => List.all_eq_true.1 hl g (by simp [hg])))
  omega
end Go.Proofs.YtecmfdfhpldmmaaGreatDoor

/- Table: numbers and dates that are read from texts, by both packages. No condition. -/
set_option maxRecDepth 100000
set_option linter.unusedVariables false
set_option linter.unusedSimpArgs false
namespace Go.Proofs.YtecmfdfhpldmmaaGreatDoor
open Go.Sh Go.RowKit
def digN : Nat -> List UInt8 -> Nat
  | a, [] => a
  | a, b :: l => if digB b then digN (min (10 * a + (b.toNat - 48)) 1000000000000000) l else a
def signN : List UInt8 -> Int
  | [] => 0
  | b :: r => if b.toNat = 45 then -(digN 0 r : Int) else if b.toNat = 43 then digN 0 r else digN 0 (b :: r)
theorem signN_cons (b : UInt8) (r : List UInt8) : signN (b :: r) = if b.toNat = 45 then -(digN 0 r : Int) else if b.toNat = 43 then digN 0 r else digN 0 (b :: r) := rfl
def valS (l : List UInt8) : Int := signN (l.dropWhile (· == 32))
theorem digN_le : ∀ {l : List UInt8} {a : Nat}, a <= 1000000000000000 -> digN a l <= 1000000000000000
  | [], a, h => h
  | b :: l, a, h => by
    unfold digN
    split
    · exact digN_le (Nat.min_le_right _ _)
    · exact h
theorem valS_in (l : List UInt8) : -1000000000000000 <= valS l /\ valS l <= 1000000000000000 := by
  have h := fun r => digN_le (l := r) (a := 0) (by omega)
  unfold valS signN
  split
  · omega
  · rename_i b r _
    have h1 := h r
    have h2 := h (b :: r)
    split
    · omega
    · split <;> omega
theorem digB_in {b : UInt8} (h : digB b = true) : 48 <= b.toNat /\ b.toNat <= 57 := by
  unfold digB at h; simpa using h
theorem digB_out {b : UInt8} (h : ¬ (48 <= b.toNat /\ b.toNat <= 57)) : digB b = false := by
  unfold digB; simp; omega
theorem dig_expr {b : UInt8} (h : 48 <= b.toNat /\ b.toNat <= 57) : IntKind.i64.wrap (IntKind.u8.wrap (((b.toNat : Nat) : Int) - 48)) = ((b.toNat - 48 : Nat) : Int) := by
  have e : IntKind.u8.wrap (((b.toNat : Nat) : Int) - 48) = ((b.toNat - 48 : Nat) : Int) := by rw [IntKind.wrap_u8]; omega
  rw [e, wrap_in (by omega) (by omega)]
theorem extract1 (b : UInt8) (r : List UInt8) : (bs (b :: r)).extract ((1 : Int).toNat) (bs (b :: r)).size = bs r := by
  apply bytes_ext
  rw [extract_list, bs_list, bs_list, bs_size]
  show (List.take (b :: r).length (b :: r)).drop 1 = r
  rw [List.take_length]; rfl
theorem valLoop {w0 w : World} (hp : Pu w0 w) (l : List UInt8) {sg X : Int} (hsg : sg = 1 ∨ sg = -1) (hl : l.length <= 140737488355328) (hX : X = sg * (digN 0 l : Nat)) :
    F151_5 (fun e w' => e = .returned (.int .i64 X) /\ Pu w0 w') (bs l) sg [] w := by
  have hs := bs_size l
  have fin : ∀ {a : Nat} {w' : World}, a <= 1000000000000000 -> a = digN 0 l -> Pu w0 w' -> F151_1 (fun e w' => e = .returned (.int .i64 X) /\ Pu w0 w') sg (a : Int) [] w' := fun {a w'} h1 h2 h3 => by
    refine ⟨?_, h3⟩
    rw [hX, ← h2]
    rcases hsg with h | h
    · rw [h, wrap_in (by omega) (by omega)]
    · rw [h, wrap_in (by omega) (by omega)]
  refine loopUp l.length (fun k t w' => t.2 = (k : Int) /\ ∃ a : Nat, t.1 = (a : Int) /\ a <= 1000000000000000 /\ digN a (l.drop k) = digN 0 l /\ Pu w0 w') ⟨rfl, 0, rfl, by omega, rfl, hp⟩ ?_
  rintro k J ⟨t1, t2⟩ w2 hk ⟨h2, a, h1, ha, hd, hp2⟩ hJ
  obtain rfl : t2 = (k : Int) := h2
  obtain rfl : t1 = (a : Int) := h1
  dsimp only
  refine Br.of (fun d => ?_) (fun d => ?_)
  · have hk2 : k < l.length := by have := dtrue d; omega
    obtain ⟨b, hb⟩ := at_k hk2
    have hbb : (bs l)[((k : Int)).toNat]? = some b := byte_list (by rw [bs_list]; exact hb)
    rw [drop_at hb] at hd
    refine ⟨b, by omega, hbb, Br.of (fun d1 => ?_) (fun d1 => ⟨b, by omega, hbb, Br.of (fun d2 => ?_) (fun d2 => ⟨b, by omega, hbb, ?_⟩)⟩)⟩
    · refine fin ha ?_ hp2
      rw [digN, digB_out (by have := dtrue d1; omega)] at hd
      simpa using hd
    · refine fin ha ?_ hp2
      rw [digN, digB_out (by have := dtrue d2; omega)] at hd
      simpa using hd
    · have d1 := dfalse d1
      have d2 := dfalse d2
      have hb2 : 48 <= b.toNat /\ b.toNat <= 57 := by omega
      rw [dig_expr hb2, wrap_in (n := (a : Int) * 10) (by omega) (by omega), wrap_in (n := (a : Int) * 10 + _) (by omega) (by omega), wrap_in (n := (k : Int) + 1) (by omega) (by omega)]
      refine ⟨_, w2, min_run _ _ _ _ _ _, ?_⟩
      have e : digB b = true := by unfold digB; simp; omega
      rw [digN, e, if_pos rfl] at hd
      exact hJ _ _ hk2 ⟨by dsimp only; omega, min (10 * a + (b.toNat - 48)) 1000000000000000, by dsimp only; omega, Nat.min_le_right _ _, hd, hp2⟩
  · have hk2 : k = l.length := by have := dfalse d; omega
    subst hk2
    rw [List.drop_length] at hd
    exact fin ha hd hp2
theorem val_c (s : ByteArray) (hs : s.size <= 140737488355328) (w : World) : Calls Tryz.prog 151 #[.string s] w fun e w' => e = .returned (.int .i64 (valS s.data.toList)) /\ Pu w w' := by
  refine F151_calls _ w _ ((Any.strings_TrimLeft_one Tryz.lays161 s 32 (by decide) w).mono ?_)
  rintro e w1 ⟨rfl, rfl⟩
  have hT : Lib.trimLeftB s.data.toList 32 = s.data.toList.dropWhile (· == 32) := rfl
  rw [hT]
  have hlen : (s.data.toList.dropWhile (· == 32)).length <= s.size := by
    have := (List.dropWhile_suffix (· == (32 : UInt8)) (l := s.data.toList)).length_le
    rwa [size_list] at this
  refine ⟨_, rfl, ?_⟩
  rw [toList_nil]
  unfold valS
  cases hL : s.data.toList.dropWhile (· == 32) with
  | nil => exact Br.f (by simp [ByteArray.size]) (valLoop (Pu.refl _) [] (.inl rfl) (by simp) rfl)
  | cons b r =>
    rw [hL] at hlen
    simp only [List.length_cons] at hlen
    have h0 : (bs (b :: r))[((0 : Int)).toNat]? = some b := byte_list (by rw [bs_list]; rfl)
    refine Br.t (by rw [bs_size]; simp) ⟨b, by omega, h0, Br.of (fun d => ⟨b, by omega, h0, Br.of (fun d1 => ⟨Nat.le_refl _, by omega, by rw [bs_size]; show 1 <= _; simp, ?_⟩) (fun d1 => absurd (btrue d) (bfalse d1))⟩) (fun d => ⟨b, by omega, h0, Br.of (fun d1 => ⟨b, by omega, h0, Br.of (fun d2 => absurd (btrue d2) (bfalse d)) (fun d2 => ⟨Nat.le_refl _, by omega, by rw [bs_size]; show 1 <= _; simp, ?_⟩)⟩) (fun d1 => ?_)⟩)⟩
    · rw [extract1]
      refine valLoop (Pu.refl _) r (.inr rfl) (by omega) ?_
      rw [signN_cons, if_pos (by have := btrue d; omega)]; omega
    · rw [extract1]
      refine valLoop (Pu.refl _) r (.inl rfl) (by omega) ?_
      rw [signN_cons, if_neg (by have := bfalse d; omega), if_pos (by have := btrue d1; omega)]; omega
    · refine valLoop (Pu.refl _) (b :: r) (.inl rfl) (by simp; omega) ?_
      rw [signN_cons, if_neg (by have := bfalse d; omega), if_neg (by have := bfalse d1; omega)]; omega
def dateS (y m d : Nat) : Int × Bool := (((if IsDate y m d then dayOf y m d else 0 : Nat) : Int), decide (IsDate y m d))
def unstampS (l : List UInt8) : Int × Bool := if l = List.replicate 8 32 then (0, true) else if l.length ≠ 8 then (0, false) else if l.all digB then dateS (digN 0 (l.take 4)) (digN 0 ((l.drop 4).take 2)) (digN 0 (l.drop 6)) else (0, false)
theorem unstampS_in (l : List UInt8) : 0 <= (unstampS l).1 /\ (unstampS l).1 <= 3652059 := by
  unfold unstampS
  split
  · simp
  · split
    · simp
    · split
      · unfold dateS
        dsimp only
        split
        · rename_i h
          have h1 := h.year
          have h2 := yfirst_mono (a := digN 0 (l.take 4) + 1) (b := 10000) (by omega) (by have := h.2.1; omega)
          have := yfirst_end
          omega
        · omega
      · simp
theorem valS_digits {l : List UInt8} (h : l.all digB = true) : valS l = (digN 0 l : Nat) := by
  cases l with
  | nil => rfl
  | cons b r =>
    have hb := digB_in (List.all_eq_true.1 h b (by simp))
    have e : (b == 32) = false := by
      simp only [beq_eq_false_iff_ne, ne_eq]
      intro h; subst h; revert hb; decide
    unfold valS
    rw [List.dropWhile_cons, e]
    simp only [Bool.false_eq_true, if_false]
    rw [signN_cons, if_neg (by omega), if_neg (by omega)]
def dset : List UInt8 := [48, 49, 50, 51, 52, 53, 54, 55, 56, 57]
theorem dset_eq (b : UInt8) : dset.contains b = digB b := by
  have h : ∀ n : Nat, n < 256 -> dset.contains (UInt8.ofNat n) = digB (UInt8.ofNat n) := by decide +kernel
  have := h b.toNat b.toNat_lt
  rwa [UInt8.ofNat_toNat] at this
theorem trimD_c (s : ByteArray) (hs : s.size <= 9223372036854775807) (w : World) : Calls Tryz.prog 135 #[.string s, .string ⟨#[48, 49, 50, 51, 52, 53, 54, 55, 56, 57]⟩] w
    fun e w' => e = .returned (.string ⟨(Lib.trimS s.data.toList dset).toArray⟩) /\ Pu w w' :=
  Any.strings_Trim_laid Tryz.lays160 u110 s ⟨#[48, 49, 50, 51, 52, 53, 54, 55, 56, 57]⟩ w hs (by decide) (ascii_of_all (by decide))
theorem blanks8 (s : ByteArray) : (s.toList == (⟨#[32, 32, 32, 32, 32, 32, 32, 32]⟩ : ByteArray).toList) = decide (s.data.toList = List.replicate 8 32) := by
  rw [toList_beq]
  exact dec_eq ⟨fun h => by rw [h]; rfl, fun h => bytes_ext (by rw [h]; rfl)⟩
theorem all_take_of {l : List UInt8} (h : l.all digB = true) (n : Nat) : (l.take n).all digB = true := List.all_eq_true.2 fun b hb => List.all_eq_true.1 h b (List.mem_of_mem_take hb)
theorem all_drop_of {l : List UInt8} (h : l.all digB = true) (n : Nat) : (l.drop n).all digB = true := List.all_eq_true.2 fun b hb => List.all_eq_true.1 h b (List.mem_of_mem_drop hb)
theorem ext3 {s : ByteArray} (h8 : s.size = 8) : (s.extract 0 ((4 : Int).toNat)).data.toList = s.data.toList.take 4 /\ (s.extract ((4 : Int).toNat) ((6 : Int).toNat)).data.toList = (s.data.toList.drop 4).take 2 /\ (s.extract ((6 : Int).toNat) s.size).data.toList = s.data.toList.drop 6 := by
  refine ⟨by rw [extract_list]; rfl, ?_, ?_⟩
  · rw [extract_list]
    show (List.take 6 s.data.toList).drop 4 = _
    rw [List.drop_take]
  · rw [extract_list, h8, List.take_of_length_le (by rw [size_list]; omega)]; rfl
theorem unstamp_c (s : ByteArray) (hs : s.size <= 140737488355328) (w : World) : Calls Tryz.prog 152 #[.string s] w fun e w' => e = .returned (.tuple #[.int .i64 (unstampS s.data.toList).1, .bool (unstampS s.data.toList).2]) /\ Pu w w' := by
  refine F152_calls _ w _ ?_
  rw [F152_1, blanks8]
  refine Br.of (fun d => ⟨by unfold unstampS; rw [if_pos (dtrue d)], Pu.refl w⟩) (fun d => Br.of (fun d1 => ⟨?_, Pu.refl w⟩) (fun d1 => (trimD_c s (by omega) w).mono ?_))
  · unfold unstampS; rw [if_neg (dfalse d), if_pos (by rw [size_list]; have := bntrue d1; omega)]
  have h8 : s.size = 8 := by have := bnfalse d1; omega
  rintro e w1 ⟨rfl, hp1⟩
  have e2 : ((ByteArray.mk (Lib.trimS s.data.toList dset).toArray).toList == (⟨#[]⟩ : ByteArray).toList) = s.data.toList.all digB := by
    rw [toList_nil]
    have h1 : ((ByteArray.mk (Lib.trimS s.data.toList dset).toArray).size = 0) ↔ s.data.toList.all (dset.contains ·) = true := by
      rw [← trimS_nil]; simp [ByteArray.size]
    rw [show digB = (dset.contains ·) from funext fun b => (dset_eq b).symm]
    rw [Bool.eq_iff_iff, decide_eq_true_iff]; exact h1
  refine ⟨_, rfl, ?_⟩
  rw [e2]
  have eU : unstampS s.data.toList = if s.data.toList.all digB then dateS (digN 0 (s.data.toList.take 4)) (digN 0 ((s.data.toList.drop 4).take 2)) (digN 0 (s.data.toList.drop 6)) else (0, false) := by
    unfold unstampS; rw [if_neg (dfalse d), if_neg (by rw [size_list]; omega)]
  refine Br.of (fun d2 => ⟨by rw [eU, if_neg (by simpa using d2)], hp1⟩) (fun d2 => dwE_intro fun w2 hp2 _ => ?_)
  have hall : s.data.toList.all digB = true := by simpa using d2
  obtain ⟨x1, x2, x3⟩ := ext3 h8
  refine ⟨by omega, by rw [h8]; decide, by decide, by omega, by rw [h8]; decide, by omega, by decide, Nat.le_refl _, by omega, by rw [h8]; decide, (val_c _ (by rw [← size_list, x1, List.length_take]; omega) w2).mono ?_⟩
  rintro e w3 ⟨rfl, hp3⟩
  refine ⟨_, rfl, (val_c _ (by rw [← size_list, x2, List.length_take]; omega) w3).mono ?_⟩
  rintro e w4 ⟨rfl, hp4⟩
  refine ⟨_, rfl, (val_c _ (by rw [← size_list, x3, List.length_drop, size_list]; omega) w4).mono ?_⟩
  rintro e w5 ⟨rfl, hp5⟩
  rw [x1, x2, x3, valS_digits (all_take_of hall 4), valS_digits (all_take_of (all_drop_of hall 4) 2), valS_digits (all_drop_of hall 6)]
  refine ⟨_, rfl, (days_c _ _ _ w5).mono ?_⟩
  rintro e w6 ⟨rfl, hp6⟩
  refine ⟨_, _, rfl, ?_, (((hp1.trans hp2).trans hp3).trans (hp4.trans hp5)).trans hp6⟩
  rw [eU, if_pos hall]
  unfold dateS
  by_cases hD : IsDate (digN 0 (s.data.toList.take 4)) (digN 0 ((s.data.toList.drop 4).take 2)) (digN 0 (s.data.toList.drop 6))
  · rw [if_pos hD, if_pos hD, decide_eq_true hD]; rfl
  · rw [if_neg hD, if_neg hD, decide_eq_false hD]; rfl
end Go.Proofs.YtecmfdfhpldmmaaGreatDoor

/- Table: values that are read back, by both packages. No condition. -/
set_option maxRecDepth 100000
set_option linter.unusedVariables false
set_option linter.unusedSimpArgs false
namespace Go.Proofs.YtecmfdfhpldmmaaGreatDoor
open Go.Sh Go.RowKit
def readS (k : Int) (s : List UInt8) : Val := if k = 1 then ⟨1, if s = [84] then 1 else 0, ⟨#[]⟩⟩ else if k = 3 then ⟨3, (unstampS s).1, ⟨#[]⟩⟩ else if k = 4 then ⟨4, 0, bs (bare s)⟩ else ⟨2, valS s, ⟨#[]⟩⟩
def okS (k : Int) (s : List UInt8) : Bool := if k = 1 then decide (s = [84]) || decide (s = [70]) else if k = 2 then !(s.all (· == 32)) else if k = 3 then (unstampS s).2 else true
theorem readS_in (k : Int) (s : List UInt8) : In64 (readS k s).kind /\ In64 (readS k s).n := by
  have h1 := valS_in s
  have h2 := unstampS_in s
  unfold readS In64
  split
  · dsimp only
    split <;> omega
  · split
    · dsimp only; omega
    · split
      · dsimp only; omega
      · dsimp only; omega
theorem digN_snoc : ∀ {l : List UInt8} {a : Nat} {d : UInt8}, (∀ b ∈ l, digB b = true) -> digB d = true -> digN a (l ++ [d]) = min (10 * digN a l + (d.toNat - 48)) 1000000000000000
  | [], a, d, _, hd => by simp [digN, hd]
  | b :: l, a, d, hl, hd => by
    rw [List.cons_append, digN, hl b (by simp), if_pos rfl, digN_snoc (fun x hx => hl x (by simp [hx])) hd, digN, hl b (by simp), if_pos rfl]
theorem decN_digB (n : Nat) : ∀ b ∈ decN n, digB b = true := fun b hb => by
  have := decN_digit n b hb
  unfold digB; simp; omega
theorem dig_ofNat {n : Nat} (h : n < 10) : digB (UInt8.ofNat (48 + n)) = true /\ (UInt8.ofNat (48 + n)).toNat - 48 = n := by
  have e : (UInt8.ofNat (48 + n)).toNat = 48 + n := by simp; omega
  exact ⟨by unfold digB; simp only [e]; simp; omega, by omega⟩
theorem digN_dec : ∀ n : Nat, n <= 1000000000000000 -> digN 0 (decN n) = n := by
  intro n
  induction n using Nat.strongRecOn with
  | _ n ih =>
    intro hn
    by_cases h : n < 10
    · rw [decN_lt h]
      obtain ⟨h1, h2⟩ := dig_ofNat h
      rw [digN, h1, if_pos rfl, digN, h2]; omega
    · rw [decN_ge h]
      obtain ⟨h1, h2⟩ := dig_ofNat (n := n % 10) (by omega)
      rw [digN_snoc (decN_digB _) h1, h2, ih (n / 10) (by omega) (by omega)]; omega
theorem digN_zeros (l : List UInt8) : ∀ j : Nat, digN 0 (List.replicate j 48 ++ l) = digN 0 l
  | 0 => rfl
  | j + 1 => by
    rw [List.replicate_succ, List.cons_append, digN]
    rw [show digB 48 = true by decide, if_pos rfl]
    exact digN_zeros l j
theorem digN_pad (k n : Nat) (h : n <= 1000000000000000) : digN 0 (padN k n) = n := by unfold padN; rw [digN_zeros, digN_dec n h]
theorem padN_digB (k n : Nat) : ∀ b ∈ padN k n, digB b = true := fun b hb => by
  unfold padN at hb
  rcases List.mem_append.1 hb with h | h
  · rw [List.eq_of_mem_replicate h]; decide
  · exact decN_digB n b h
theorem dropWhile_blanks (l : List UInt8) : ∀ j : Nat, (List.replicate j 32 ++ l).dropWhile (· == 32) = l.dropWhile (· == 32)
  | 0 => rfl
  | j + 1 => by rw [List.replicate_succ, List.cons_append, List.dropWhile_cons]; simp only [beq_self_eq_true, if_true]; exact dropWhile_blanks l j
theorem valS_blanks (j : Nat) (l : List UInt8) : valS (List.replicate j 32 ++ l) = valS l := by unfold valS; rw [dropWhile_blanks]
theorem valS_dec {n : Int} (h : -1000000000000000 <= n /\ n <= 1000000000000000) : valS (decI n) = n := by
  unfold decI
  split
  · unfold valS
    rw [List.dropWhile_cons, show ((45 : UInt8) == 32) = false by decide]
    simp only [Bool.false_eq_true, if_false]
    rw [signN_cons, if_pos (by decide), digN_dec _ (by omega)]; omega
  · rw [valS_digits (List.all_eq_true.2 fun b hb => decN_digB _ b hb), digN_dec _ (by omega)]; omega
theorem unstamp_stamp {n : Int} (h : 0 <= n /\ n <= 3652059) : unstampS (stampB n) = (n, true) := by
  by_cases h0 : n = 0
  · rw [h0, stampB_zero]; unfold unstampS; rw [if_pos rfl]
  obtain ⟨k, rfl⟩ : ∃ k : Nat, n = (k : Int) := ⟨n.toNat, by omega⟩
  obtain ⟨y, m, d, hD, rfl⟩ := date_of (k := k) (by omega)
  rw [stampB_date hD]
  obtain ⟨a, b, c⟩ := date_pads hD
  have l4 := padN_len a.1
  have l2 := padN_len b.1
  have l2' := padN_len c.1
  have hall : (padN 4 y ++ padN 2 m ++ padN 2 d).all digB = true := List.all_eq_true.2 fun x hx => by
    rcases List.mem_append.1 hx with hx | hx
    · rcases List.mem_append.1 hx with hx | hx
      · exact padN_digB _ _ x hx
      · exact padN_digB _ _ x hx
    · exact padN_digB _ _ x hx
  have hne : ¬ (padN 4 y ++ padN 2 m ++ padN 2 d) = List.replicate 8 32 := fun e => by
    rw [e] at hall; revert hall; decide
  unfold unstampS
  rw [if_neg hne, if_neg (by rw [stamp_len8 hD]; simp), if_pos hall]
  have e1 : (padN 4 y ++ padN 2 m ++ padN 2 d).take 4 = padN 4 y := by rw [List.append_assoc, List.take_append_of_le_length (by omega), List.take_of_length_le (by omega)]
  have e2 : ((padN 4 y ++ padN 2 m ++ padN 2 d).drop 4).take 2 = padN 2 m := by
    rw [List.append_assoc, List.drop_append_of_le_length (by omega), List.drop_eq_nil_of_le (by omega), List.nil_append, List.take_append_of_le_length (by omega), List.take_of_length_le (by omega)]
  have e3 : (padN 4 y ++ padN 2 m ++ padN 2 d).drop 6 = padN 2 d := by
    rw [List.drop_append, List.drop_eq_nil_of_le (by rw [List.length_append]; omega), List.nil_append, List.length_append, l4, l2]; rfl
  rw [e1, e2, e3, digN_pad _ _ (by omega), digN_pad _ _ (by omega), digN_pad _ _ (by omega)]
  unfold dateS
  rw [if_pos hD, decide_eq_true hD]
theorem bare_blanks (l : List UInt8) : ∀ j : Nat, bare (l ++ List.replicate j 32) = bare l
  | 0 => by simp
  | j + 1 => by rw [List.replicate_succ', ← List.append_assoc, bare_snoc, if_pos rfl, bare_blanks l j]
theorem not_blank {j : Nat} {n : Int} : ((List.replicate j 32 ++ decI n).all (· == 32)) = false := by
  rw [List.all_append]
  have : (decI n).all (· == (32 : UInt8)) = false := by
    rw [List.all_eq_false]
    unfold decI
    split
    · exact ⟨45, by simp, by decide⟩
    · have hp := decN_pos n.natAbs
      obtain ⟨b, hb⟩ := at_k (l := decN n.natAbs) (k := 0) (by omega)
      have hm := List.mem_of_getElem? hb
      refine ⟨b, hm, ?_⟩
      have := decN_digit n.natAbs b hm
      intro h
      have : b = 32 := by simpa using h
      subst this
      revert this; simp at *
  rw [this, Bool.and_false]
theorem read_shown {f : Fld} {p : Int} {v : Val} (h : RightV f p v) (h0 : v.kind ≠ 0) : readS f.kind (shownS f v) = v /\ okS f.kind (shownS f v) = true := by
  cases h with
  | nil hv hn => rw [hv] at h0; exact absurd rfl h0
  | truth hk hw hv hn =>
    have e : shownS f v = [if v.n = 1 then 84 else 70] := by unfold shownS; rw [if_neg h0, if_pos hk]
    rw [e]; unfold readS okS; rw [if_pos hk, if_pos hk]
    rcases hn with hn | hn
    · rw [hn]; refine ⟨?_, by decide⟩; rw [hv, hn]; rfl
    · rw [hn]; refine ⟨?_, by decide⟩; rw [hv, hn]; rfl
  | num hk hw hv hn hl =>
    have e : shownS f v = List.replicate (f.width.toNat - (decI v.n).length) 32 ++ decI v.n := by unfold shownS; rw [if_neg h0, if_neg (by omega), if_neg (by omega), if_neg (by omega), if_neg (by omega)]
    rw [e]; unfold readS okS
    rw [if_neg (by omega), if_neg (by omega), if_neg (by omega), if_neg (by omega), if_pos hk, valS_blanks, valS_dec hn, not_blank]
    exact ⟨hv.symm, rfl⟩
  | date hk hw hv hn =>
    have e : shownS f v = stampB v.n := by unfold shownS; rw [if_neg h0, if_neg (by omega), if_pos hk]
    rw [e]; unfold readS okS
    rw [if_neg (by omega), if_pos hk, if_neg (by omega), if_neg (by omega), if_pos hk, unstamp_stamp hn]
    exact ⟨hv.symm, rfl⟩
  | text hk hw hv hl hb ht =>
    have e : shownS f v = textSh f v := by unfold shownS; rw [if_neg h0, if_neg (by omega), if_neg (by omega), if_pos hk]
    rw [e]; unfold readS okS textSh
    rw [if_neg (by omega), if_neg (by omega), if_pos hk, if_neg (by omega), if_neg (by omega), if_neg (by omega), bare_blanks, hb, list_bs]
    exact ⟨hv.symm, rfl⟩
  | memo hk hw hv hn =>
    have e : valS (shownS f v) = v.n := by
      unfold shownS
      rw [if_neg h0, if_neg (by omega), if_neg (by omega), if_neg (by omega)]
      by_cases hz : v.n = 0
      · rw [if_pos ⟨hk, hz⟩, hz, hw]; decide
      · rw [if_neg (by simp [hz]), valS_blanks, valS_dec (by omega)]
    unfold readS okS
    rw [if_neg (by omega), if_neg (by omega), if_neg (by omega), if_neg (by omega), if_neg (by omega), if_neg (by omega), e]
    exact ⟨hv.symm, rfl⟩
theorem one_eq (s : ByteArray) (c : UInt8) : (s.toList == (⟨#[c]⟩ : ByteArray).toList) = decide (s.data.toList = [c]) := by
  rw [toList_beq]
  exact dec_eq ⟨fun h => by rw [h], fun h => bytes_ext (by rw [h])⟩
theorem readTruth_c (s : ByteArray) (w : World) : Calls Tryz.prog 126 #[.string s] w fun e w' => e = .returned (.tuple #[valA (readS 1 s.data.toList), .bool (okS 1 s.data.toList)]) /\ Pu w w' := by
  refine F126_calls _ w _ (alB fun w1 hp1 hb1 => boxA rfl s25.symm rfl fun w2 hp2 hs2 hb2 => ?_)
  have hlt : w.heap.size < w1.heap.size := blk_lt hb1
  have b1 := hp2.blk hb1
  rw [one_eq, one_eq]
  unfold readS okS
  rw [if_pos rfl, if_pos rfl]
  refine Br.of (fun d => ?_) (fun d => ⟨_, cl hb2 0, _, cl hb2 1, _, cl hb2 2, Br.of (fun d1 => absurd d1 (by rw [d]; simp)) (fun d1 => stA_fill b1 s25.symm rfl rfl fun w3 hb3 hf3 hs3 => ⟨_, cl hb3 0, _, cl hb3 1, _, cl hb3 2, ?_, hp1.trans hp2 |>.andNew hf3 fun i hi => by omega⟩)⟩)
  · show st1 ((⟨w1.heap.size, 0, none⟩ : Addr).add 1) _ w2 _
    rw [add_def]
    refine st1_intro hb2 (by decide) fun w3 hw3 hb3 => ?_
    have hf3 : Fr (· = w1.heap.size) w2 w3 := by rw [hw3]; exact Fr.cell w2 _ _ _
    have b3 := hf3.blk b1 (show ¬ w.heap.size = w1.heap.size by omega)
    have hp3 : Pu w w3 := (hp1.trans hp2).andNew hf3 fun i hi => by omega
    refine ⟨_, cl hb3 0, _, cl hb3 1, _, cl hb3 2, Br.t d (stA_fill b3 s25.symm rfl rfl fun w4 hb4 hf4 hs4 => ⟨_, cl hb4 0, _, cl hb4 1, _, cl hb4 2, ?_, hp3.andNew hf4 fun i hi => by omega⟩)⟩
    rw [if_pos (dtrue d), d]; rfl
  · rw [if_neg (dfalse d), d]; simp
theorem trimB_nil (l : List UInt8) : (Lib.trimB l 32 = []) ↔ l.all (· == 32) = true := by
  unfold Lib.trimB Lib.trimLeftB Lib.trimRightB
  rw [dropWhile_nil, List.all_reverse, dropWhile_all, List.all_reverse]
theorem readNum_c (s : ByteArray) (hs : s.size <= 140737488355328) (w : World) : Calls Tryz.prog 128 #[.string s] w fun e w' => e = .returned (.tuple #[valA (readS 2 s.data.toList), .bool (okS 2 s.data.toList)]) /\ Pu w w' := by
  refine F128_calls _ w _ (alB fun w1 hp1 hb1 => (val_c s hs w1).mono ?_)
  rintro e w2 ⟨rfl, hp2⟩
  refine ⟨_, rfl, (Any.strings_Trim_one Tryz.lays160 s 32 (by decide) w2 (by omega)).mono ?_⟩
  rintro e w3 ⟨rfl, hw3⟩
  have hp3 : Pu w2 w3 := by
    rcases hw3 with h | h
    · rw [h]; exact Pu.refl _
    · rw [h]; exact Pu.drew _
  refine ⟨_, rfl, stA_fill ((hp2.trans hp3).blk hb1) s25.symm rfl rfl fun w4 hb3 hf3 hs3 => ⟨_, cl hb3 0, _, cl hb3 1, _, cl hb3 2, ?_, (hp1.trans (hp2.trans hp3)).andNew hf3 fun i hi => by omega⟩⟩
  rw [toList_nil]
  have e : decide ((ByteArray.mk (Lib.trimB s.data.toList 32).toArray).size = 0) = s.data.toList.all (· == 32) := by
    have h1 : ((ByteArray.mk (Lib.trimB s.data.toList 32).toArray).size = 0) ↔ s.data.toList.all (· == 32) = true := by
      rw [← trimB_nil]; simp [ByteArray.size]
    rw [Bool.eq_iff_iff, decide_eq_true_iff]; exact h1
  rw [e]; rfl
theorem readDate_c (s : ByteArray) (hs : s.size <= 140737488355328) (w : World) : Calls Tryz.prog 130 #[.string s] w fun e w' => e = .returned (.tuple #[valA (readS 3 s.data.toList), .bool (okS 3 s.data.toList)]) /\ Pu w w' := by
  refine F130_calls _ w _ (alB fun w1 hp1 hb1 => (unstamp_c s hs w1).mono ?_)
  rintro e w2 ⟨rfl, hp2⟩
  exact ⟨_, _, rfl, stA_fill (hp2.blk hb1) s25.symm rfl rfl fun w3 hb3 hf3 hs3 => ⟨_, cl hb3 0, _, cl hb3 1, _, cl hb3 2, rfl, (hp1.trans hp2).andNew hf3 fun i hi => by omega⟩⟩
theorem readText_c (s : ByteArray) (hs : s.size <= 140737488355328) (w : World) : Calls Tryz.prog 132 #[.string s] w fun e w' => e = .returned (.tuple #[valA (readS 4 s.data.toList), .bool (okS 4 s.data.toList)]) /\ Pu w w' := by
  refine F132_calls _ w _ (alB fun w1 hp1 hb1 => (trimRight_c s hs w1).mono ?_)
  rintro e w2 ⟨rfl, hp2⟩
  exact ⟨_, rfl, stA_fill (hp2.blk hb1) s25.symm rfl rfl fun w3 hb3 hf3 hs3 => ⟨_, cl hb3 0, _, cl hb3 1, _, cl hb3 2, rfl, (hp1.trans hp2).andNew hf3 fun i hi => by omega⟩⟩
theorem readMemo_c (s : ByteArray) (hs : s.size <= 140737488355328) (w : World) : Calls Tryz.prog 134 #[.string s] w fun e w' => e = .returned (.tuple #[valA (readS 5 s.data.toList), .bool (okS 5 s.data.toList)]) /\ Pu w w' := by
  refine F134_calls _ w _ (alB fun w1 hp1 hb1 => (val_c s hs w1).mono ?_)
  rintro e w2 ⟨rfl, hp2⟩
  exact ⟨_, rfl, stA_fill (hp2.blk hb1) s25.symm rfl rfl fun w3 hb3 hf3 hs3 => ⟨_, cl hb3 0, _, cl hb3 1, _, cl hb3 2, rfl, (hp1.trans hp2).andNew hf3 fun i hi => by omega⟩⟩
theorem reader_c {f : Fld} (hf : fieldB f = true) : ∃ K, kindOf5 f.kind = some K /\ hasBody Tryz.prog K.rd = true /\ ∀ (s : ByteArray), s.size <= 140737488355328 -> ∀ w, Calls Tryz.prog K.rd #[.string s] w fun e w' => e = .returned (.tuple #[valA (readS f.kind s.data.toList), .bool (okS f.kind s.data.toList)]) /\ Pu w w' := by
  rcases fld_kinds hf with ⟨e, _⟩ | ⟨e, _⟩ | ⟨e, _⟩ | ⟨e, _⟩ | ⟨e, _⟩
  · rw [e]; exact ⟨_, rfl, by kernel_rfl, fun s _ w => readTruth_c s w⟩
  · rw [e]; exact ⟨_, rfl, by kernel_rfl, readNum_c⟩
  · rw [e]; exact ⟨_, rfl, by kernel_rfl, readDate_c⟩
  · rw [e]; exact ⟨_, rfl, by kernel_rfl, readText_c⟩
  · rw [e]; exact ⟨_, rfl, by kernel_rfl, readMemo_c⟩
end Go.Proofs.YtecmfdfhpldmmaaGreatDoor

/- Table: rows that a conversion of a text has made. No condition. -/
set_option maxRecDepth 100000
set_option linter.unusedVariables false
set_option linter.unusedSimpArgs false
namespace Go.Proofs.YtecmfdfhpldmmaaGreatDoor
open Go.Sh Go.RowKit
def MRow (w0 w : World) (s : SV) (l : List UInt8) : Prop := ∃ (g : Nat) (cur : Array Value) (fz : Nat × Nat), s.a = some ⟨g, 0, none⟩ /\ w.heap[g]? = some (.cells cur 5 fz) /\ cur.size <= fz.1 /\ s.len = l.length /\ s.len <= s.cap /\ s.cap <= maxLen /\ cur.size = s.cap /\ cur.toList.take s.len = l.map u8V /\ w0.heap.size <= g
def ByRow (w0 w : World) (s : SV) (l : List UInt8) : Prop := MRow w0 w s l ∨ NewRow w0 w s l
theorem ByRow.pu {w0 w w' : World} {s : SV} {l : List UInt8} (h : ByRow w0 w s l) (hp : Pu w w') : ByRow w0 w' s l := by
  rcases h with ⟨g, cur, fz, h1, h2, h3⟩ | h
  · exact .inl ⟨g, cur, fz, h1, hp.blk h2, h3⟩
  · exact .inr (h.pu hp)
theorem ByRow.len {w0 w : World} {s : SV} {l : List UInt8} (h : ByRow w0 w s l) : s.len = l.length := by
  rcases h with ⟨g, cur, fz, h1, h2, h3, h4, _⟩ | h
  · exact h4
  · exact h.len
theorem MRow.cell {w0 w : World} {s : SV} {l : List UInt8} (h : MRow w0 w s l) {j : Nat} {b : UInt8} (hj : l[j]? = some b) : ∃ a, s.a = some a /\ w.cell? (a.add j) = some (u8V b) := by
  obtain ⟨g, cur, fz, h1, h2, h3, h4, h5, h6, h7, h8, _⟩ := h
  refine ⟨_, h1, ?_⟩
  rw [add_def, cell_blk h2, Nat.zero_add]
  have e : (cur.toList.take s.len)[j]? = some (u8V b) := by rw [h8, List.getElem?_map, hj]; rfl
  rw [List.getElem?_take] at e
  split at e
  · simpa using e
  · cases e
theorem ByRow.cell {w0 w : World} {s : SV} {l : List UInt8} (h : ByRow w0 w s l) {j : Nat} {b : UInt8} (hj : l[j]? = some b) : ∃ a, s.a = some a /\ w.cell? (a.add j) = some (u8V b) := by
  rcases h with h | h
  · exact h.cell hj
  · exact h.cell hj
theorem ByRow.low {w0 w1 w : World} {s : SV} {l : List UInt8} (h : ByRow w1 w s l) (hz : w0.heap.size <= w1.heap.size) : ByRow w0 w s l := by
  rcases h with ⟨g, cur, fz, h1, h2, h3, h4, h5, h6, h7, h8, h9⟩ | h
  · exact .inl ⟨g, cur, fz, h1, h2, h3, h4, h5, h6, h7, h8, Nat.le_trans hz h9⟩
  · exact .inr (h.low hz)
theorem MRow.push {w0 w : World} {s : SV} {l : List UInt8} (h : MRow w0 w s l) (hz : w0.heap.size <= w.heap.size) {r : Nat} {b : UInt8} {c : Array Value} (hr : w.heap[r]? = some (.cells c 5)) (hc : c[0]? = some (u8V b)) (hb : l.length <= 1000000) :
    ∃ (s' : SV) (w' : World), (Builtin.append_ #[37, 37] 37 #[.slice s.a s.len s.cap, .slice (some ⟨r, 0, none⟩) 1 1]).run Tryz.prog w = .ok (.slice s'.a s'.len s'.cap) w' /\ ByRow w0 w' s' (l ++ [b]) /\ Fr (· ∈ blkOf s) w w' := by
  have hcell := fun (j : Nat) (x : UInt8) (hj : l[j]? = some x) => h.cell hj
  obtain ⟨g, cur, fz, h1, h2, h3, h4, h5, h6, h7, h8, h9⟩ := h
  have hi := info5
  obtain ⟨i, i1, i2, i3, i4⟩ := info_parts hi
  have hnews : ∀ j u, [u8V b][j]? = some u -> w.cell? ((⟨r, 0, none⟩ : Addr).add j) = some u := fun j u hu => by
    cases j with
    | zero => simp at hu; subst hu; rw [add0, cell_blk hr]; exact hc
    | succ j => simp at hu
  have hgl : g < w.heap.size := blk_lt h2
  by_cases hroom : s.len + 1 <= s.cap
  · have hin : s.len < cur.size := by omega
    have hfro : w.frozen? ⟨g, s.len, none⟩ = false := by
      obtain ⟨lo, hi'⟩ := fz
      simp only [World.frozen?, h2, Bool.and_eq_false_iff, decide_eq_false_iff_not]
      left; simp only at h3; omega
    have hcl : w.cell? ⟨g, s.len, none⟩ = some cur[s.len] := by rw [cell_blk h2]; simp [hin]
    have hst : (storeCells ⟨g, s.len, none⟩ [u8V b] 0).run Tryz.prog w = .ok () (w.setCell ⟨g, s.len, none⟩ (u8V b)) := by
      simp only [storeCells, Sem.run_bind, add_def, Nat.add_zero]
      rw [run_store Tryz.prog w _ _ _ rfl, hcl]
      simp [hfro]
    have hf := run_firstCells_some (P := Tryz.prog) w i.size 1 ⟨r, 0, none⟩ 1 1 [u8V b] (by rw [i3]; rfl) hnews
    have hrun : (Builtin.append_ #[37, 37] 37 #[.slice s.a s.len s.cap, .slice (some ⟨r, 0, none⟩) 1 1]).run Tryz.prog w = .ok (.slice s.a (s.len + 1) s.cap) (w.setCell ⟨g, s.len, none⟩ (u8V b)) := by
      rw [h1]
      rw [i3] at hf
      simp [Builtin.append_, run_underlying u37, sizeOf, typeInfo, i1, i3, Builtin.lenOf, hroom, hf, Addr.add_lit, hst]
    refine ⟨⟨s.a, s.len + 1, s.cap⟩, _, hrun, .inl ⟨g, cur.setIfInBounds s.len (u8V b), fz, h1, setCell_blk h2 _ _, by rw [Array.size_setIfInBounds]; exact h3, by simp [h4], hroom, h6, by rw [Array.size_setIfInBounds]; exact h7, ?_, h9⟩, ?_⟩
    · rw [Array.toList_setIfInBounds, List.map_append, ← h8]
      apply List.ext_getElem?
      intro j
      show (List.take (s.len + 1) _)[j]? = _
      rw [List.getElem?_take]
      rcases Nat.lt_trichotomy j s.len with hj | hj | hj
      · rw [if_pos (by omega), List.getElem?_set_ne (by omega), List.getElem?_append_left (by rw [List.length_take, Array.length_toList]; omega), List.getElem?_take, if_pos hj]
      · subst hj
        rw [if_pos (by omega), List.getElem?_set_self (by rw [Array.length_toList]; exact hin), List.getElem?_append_right (by rw [List.length_take]; omega), List.length_take, Array.length_toList, show s.len - min s.len cur.size = 0 by omega]; rfl
      · rw [if_neg (by omega), List.getElem?_eq_none]
        rw [List.length_append, List.length_take, List.length_map, List.length_singleton]; omega
    · have := Fr.setCell w ⟨g, s.len, none⟩ (u8V b)
      exact ⟨this.os, this.tape, this.output, this.size, fun k hk hn => this.block k hk (fun e => hn (by simp [blkOf, h1, e]))⟩
  · have hlen : (l.map u8V).length = s.len * i.size := by rw [i3, List.length_map]; omega
    have holds : ∀ j u, (l.map u8V)[j]? = some u -> w.cell? ((⟨g, 0, none⟩ : Addr).add j) = some u := fun j u hu => by
      obtain ⟨x, hx, rfl⟩ : ∃ x, l[j]? = some x /\ u8V x = u := by simpa using hu
      obtain ⟨a, ha, hca⟩ := hcell j x hx
      rw [h1] at ha; cases ha; exact hca
    have hrun := run_append_grow (P := Tryz.prog) w 37 37 5 i (.int .u8 0) u37 i1 i2 ⟨g, 0, none⟩ s.len s.cap (l.map u8V) hlen holds ⟨r, 0, none⟩ 1 1 [u8V b] (by rw [i3]; rfl) hnews (by omega) (by omega) (growslice_fits (by omega) (by rw [i4]; omega))
    have hge := grownCap_ge w (s.len + 1) s.cap 5
    have hcm : grownCap w (s.len + 1) s.cap 5 <= maxLen := grownCap_le_maxLen w (s.len + 1) s.cap 5 (by unfold maxLen; omega)
    refine ⟨⟨some ⟨w.heap.size, 0, none⟩, s.len + 1, grownCap w (s.len + 1) s.cap 5⟩, _, by rw [h1]; exact hrun, .inr ⟨⟨by simp [h4], .inr ⟨w.heap.size, _, rfl, heap_alloc_new w.drew _, hge, hcm, ?_, ?_⟩⟩, fun k hk => by simp [blkOf] at hk; omega⟩, ?_⟩
    · simp only [Array.size_append, List.size_toArray, List.length_map, List.length_singleton, size_zeroCells]
      show l.length + 1 + (grownCap w (s.len + 1) s.cap 5 - (s.len + 1)) * 1 = _
      show l.length + 1 + (grownCap w (s.len + 1) s.cap 5 - (s.len + 1)) * 1 = grownCap w (s.len + 1) s.cap 5 * 1
      omega
    · simp only [Array.toList_append, List.append_assoc]
      rw [← List.append_assoc, List.map_append]
      have e : (List.map u8V l ++ [u8V b]).length = (s.len + 1) * 1 := by simp [h4]
      show List.take ((s.len + 1) * 1) _ = _
      rw [← e]
      exact List.take_left
    · exact (Fr.drew w).trans (Fr.alloc w.drew _) fun i hi _ => hi
theorem ByRow.push {w0 w : World} {s : SV} {l : List UInt8} (h : ByRow w0 w s l) (hp : Pu w0 w) {r : Nat} {b : UInt8} {c : Array Value} (hr : w.heap[r]? = some (.cells c 5)) (hc : c[0]? = some (u8V b)) (hb : l.length <= 1000000) :
    ∃ (s' : SV) (w' : World), (Builtin.append_ #[37, 37] 37 #[.slice s.a s.len s.cap, .slice (some ⟨r, 0, none⟩) 1 1]).run Tryz.prog w = .ok (.slice s'.a s'.len s'.cap) w' /\ ByRow w0 w' s' (l ++ [b]) /\ Pu w0 w' := by
  rcases h with h | h
  · obtain ⟨g, cur, fz, h1, _, _, _, _, _, _, _, h9⟩ := id h
    obtain ⟨s', w', e, h2, f⟩ := h.push hp.size hr hc hb
    exact ⟨s', w', e, h2, hp.andNew f fun i hi => by simp [blkOf, h1] at hi; omega⟩
  · obtain ⟨s', w', e, h2, f⟩ := h.one hp.size hr hc (by omega)
    exact ⟨s', w', e, .inr h2, hp.andNew f fun i hi => h.2 i hi⟩
end Go.Proofs.YtecmfdfhpldmmaaGreatDoor

/- Table: the reference's header and row. No condition. -/
set_option maxRecDepth 100000
set_option linter.unusedVariables false
set_option linter.unusedSimpArgs false
namespace Go.Proofs.YtecmfdfhpldmmaaGreatDoor
open Go.Sh Go.RowKit
theorem NewRow.cat {w1 w : World} {s m : SV} {l news : List UInt8} (h : NewRow w1 w s l) (hp : Pu w1 w) (hl : m.len = news.length) (hn : ∀ (j : Nat) (b : UInt8), news[j]? = some b -> ∃ a, m.a = some a /\ w.cell? (a.add j) = some (u8V b)) (hb : l.length + news.length <= 2000000) :
    ∃ (s' : SV) (w' : World), (Builtin.append_ #[37, 37] 37 #[.slice s.a s.len s.cap, .slice m.a m.len m.cap]).run Tryz.prog w = .ok (.slice s'.a s'.len s'.cap) w' /\ NewRow w1 w' s' (l ++ news) /\ Pu w1 w' := by
  obtain ⟨s', w', e, h2, f⟩ := h.app hp.size hl hn (by omega)
  exact ⟨s', w', e, h2, hp.andNew f fun i hi => h.2 i hi⟩
theorem box_cells {w : World} {r : Nat} {c : Array Value} {news : List UInt8} (hr : w.heap[r]? = some (.cells c 5)) (hc : c = (news.map u8V).toArray) : ∀ (j : Nat) (b : UInt8), news[j]? = some b -> ∃ a, (some (⟨r, 0, none⟩ : Addr)) = some a /\ w.cell? (a.add j) = some (u8V b) := fun j b hj => by
  refine ⟨_, rfl, ?_⟩
  rw [cl hr, hc]; simp [hj]
end Go.Proofs.YtecmfdfhpldmmaaGreatDoor

/- Table: the bytes of a table; the law on them. No condition. -/
set_option maxRecDepth 100000
set_option linter.unusedVariables false
set_option linter.unusedSimpArgs false
namespace Go.Proofs.YtecmfdfhpldmmaaGreatDoor
open Go.Sh Go.RowKit
noncomputable def bytesS (t : Tbl) : List UInt8 := headS t ++ t.recs.flatMap (rowS shownS t.fields) ++ [26]
noncomputable def bytesOut (t : Tbl) : List UInt8 := if validT t = 0 then bytesS t else []
structure Okay (t : Tbl) : Prop where
  page : pageB t.page = true
  vf : validF t.fields = 0
  ne : t.fields ≠ []
  all : t.fields.all fieldB = true
  n16 : t.fields.length <= 16
  w2 : wide t.fields <= 2000
  m300 : t.recs.length <= 300
  recs : ∀ x ∈ t.recs, RightR t.fields t.page x.v
theorem Okay.of {t : Tbl} (h : validT t = 0) : Okay t := by
  obtain ⟨hpg, hvf, h300, hfb⟩ := validT_ok h
  obtain ⟨h0, hall, _, h16, hw⟩ := validF_ok hvf
  exact ⟨hpg, hvf, h0, hall, h16, hw, h300, fun x hx => RightR.of hall (firstBad_all hfb x hx)⟩
theorem headS_le {t : Tbl} (h : Okay t) : (headS t).length = 13 + 16 * t.fields.length := by
  have : ∀ {l : List Fld}, l.all fieldB = true -> (l.flatMap fieldS).length = 16 * l.length := by
    intro l
    induction l with
    | nil => intro _; rfl
    | cons f l ih =>
      intro hl
      rw [List.flatMap_cons, List.length_append, fieldS_len (field_parts (List.all_eq_true.1 hl f (by simp))).2.1, ih (List.all_eq_true.2 fun g hg => List.all_eq_true.1 hl g (by simp [hg])), List.length_cons]
      omega
  unfold headS
  simp only [List.length_append, lowN_len, List.length_cons, List.length_nil, this h.all]
  omega
theorem rows_len {t : Tbl} (h : Okay t) : ∀ k, k <= t.recs.length -> (((t.recs.take k).flatMap (rowS shownS t.fields)).length : Int) = k * wide t.fields
  | 0, _ => by simp
  | k + 1, hk => by
    obtain ⟨x, hx⟩ := at_k (show k < t.recs.length by omega)
    rw [take_at hx, List.flatMap_append, List.length_append, List.flatMap_cons, List.flatMap_nil, List.append_nil]
    have h1 := rows_len h k (by omega)
    have h2 := rowS_len h.all (h.recs x (List.mem_of_getElem? hx))
    rw [Int.natCast_add, h1, h2, Int.natCast_add, Int.add_mul]; omega
theorem flatMap_snoc {α β : Type} (g : α -> List β) {l : List α} {k : Nat} {x : α} (h : l[k]? = some x) : (l.take (k + 1)).flatMap g = (l.take k).flatMap g ++ g x := by
  rw [take_at h, List.flatMap_append]; simp
theorem rows_le {t : Tbl} (h : Okay t) (k : Nat) (hk : k <= t.recs.length) : ((t.recs.take k).flatMap (rowS shownS t.fields)).length <= 600000 := by
  have h1 := rows_len h k hk
  have h2 := h.m300
  have h3 := h.w2
  have h4 : (k : Int) * wide t.fields <= 300 * 2000 := by
    have hw : 0 <= wide t.fields := by have := sum_le (WOk.of h.all); unfold wide; omega
    exact Int.mul_le_mul (by omega) h3 hw (by omega)
  omega
theorem tblBytes_c {w : World} {t : Tbl} {f r : SV} (h : RdTbl w t f r) (ho : Okay t) : Calls Tryz.prog 59 #[tblA t f r] w fun e w' => ∃ q : SV, e = .returned (.slice q.a q.len q.cap) /\ NewRow w w' q (bytesS t) /\ Pu w w' := by
  have hm := ho.m300
  have h16 := ho.n16
  have hrl := h.recs.len
  have hh := headS_le ho
  refine F59_calls _ _ _ w _ (alB fun w1 hp1 hb1 => ⟨_, cl hb1 0, _, cl hb1 1, _, cl hb1 2, (header_c (h.pu hp1) ho.vf (by omega)).mono ?_⟩)
  rintro e w2 ⟨q, rfl, hq, hp2⟩
  refine ⟨q, rfl, _, cl (hp2.blk hb1) 2, ?_⟩
  refine loopUp t.recs.length (fun k u w' => u.2 = (k : Int) /\ NewRow w1 w' u.1 (headS t ++ (t.recs.take k).flatMap (rowS shownS t.fields)) /\ Pu w1 w') ⟨rfl, by simpa using hq, hp2⟩ ?_
  rintro k J ⟨u1, u2⟩ w3 hk ⟨hu2, hr, hp⟩ hJ
  obtain rfl : u2 = (k : Int) := hu2
  have hr : NewRow w1 w3 u1 (headS t ++ (t.recs.take k).flatMap (rowS shownS t.fields)) := hr
  have hrs := rows_le ho k hk
  dsimp only
  refine Br.of (fun d => ?_) (fun d => ?_)
  · have hk2 : k < t.recs.length := by have := dtrue d; omega
    obtain ⟨x, hx⟩ := at_k hk2
    have hR := ho.recs x (List.mem_of_getElem? hx)
    obtain ⟨a, s, ha, hi, hs, c0, c1⟩ := recAt (h.recs.pu (hp1.trans hp)) hx
    refine ⟨a, ha, by omega, by omega, _, c0, s, c1, boxA rfl s46.symm rfl fun w4 hp4 hs4 hb4 => ⟨_, cl ((hp.trans hp4).blk hb1) 1, _, cl hb4 0, s, cl hb4 1, ?_⟩⟩
    refine (row_c (sh := shownS) (r := x) (h.fields.pu (hp1.trans (hp.trans hp4))) (hs.pu hp4) hR.1 h16 (WOk.of ho.all) (hR.writes ho.all) (hR.ne ho.all ho.ne)).mono ?_
    rintro e w5 ⟨m, rfl, hm5, hp5⟩
    have hl5 := rowS_len ho.all hR
    have hw2 := ho.w2
    obtain ⟨q', w6, e6, r6, p6⟩ := ((hr.pu hp4).pu hp5).cat ((hp.trans hp4).trans hp5) (m := m) hm5.len (fun j b hj => hm5.cell hj) (by rw [List.length_append]; omega)
    refine ⟨m, rfl, q', w6, e6, ?_⟩
    rw [wrap_in (by omega) (by omega)]
    refine hJ _ _ hk2 ⟨by dsimp only; omega, ?_, p6⟩
    dsimp only
    rw [flatMap_snoc _ hx, ← List.append_assoc]; exact r6
  · have hk2 : k = t.recs.length := by have := dfalse d; omega
    subst hk2
    rw [List.take_length] at hr hrs
    refine alB fun w4 hp4 hb4 => ?_
    obtain ⟨q', w5, e5, r5, p5⟩ := (hr.pu hp4).cat (hp.trans hp4) (m := ⟨some ⟨w3.heap.size, 0, none⟩, 1, 1⟩) (news := [26]) rfl (box_cells hb4 rfl) (by rw [List.length_append, List.length_singleton]; omega)
    exact ⟨q', w5, e5, q', rfl, r5.low hp1.size, hp1.trans p5⟩
theorem bytesE_c {w : World} {t : Tbl} {f r : SV} (h : RdTbl w t f r) (hl : Lim.ok t.fields) : Calls Tryz.prog 17 #[tblA t f r] w fun e w' => ∃ q : SV, e = .returned (.tuple #[.slice q.a q.len q.cap, .int .i64 (validT t)]) /\ NewRow w w' q (bytesOut t) /\ Pu w w' := by
  refine F17_calls _ _ _ w _ (alB fun w1 hp1 hb1 => ⟨_, cl hb1 0, _, cl hb1 1, _, cl hb1 2, (validTbl_c (h.pu hp1) hl).mono ?_⟩)
  rintro e w2 ⟨rfl, hp2⟩
  have b2 := hp2.blk hb1
  refine ⟨_, rfl, Br.of (fun d => ⟨⟨none, 0, 0⟩, rfl, by unfold bytesOut; rw [if_neg (bntrue d)]; exact NewRow.nil w w2, hp1.trans hp2⟩) (fun d => ?_)⟩
  have hv := bnfalse d
  refine ⟨_, cl b2 0, _, cl b2 1, _, cl b2 2, (tblBytes_c (h.pu (hp1.trans hp2)) (Okay.of hv)).mono ?_⟩
  rintro e w3 ⟨q, rfl, hq, hp3⟩
  exact ⟨q, rfl, q, by rw [hv], by unfold bytesOut; rw [if_pos hv]; exact hq.low (hp1.trans hp2).size, (hp1.trans hp2).trans hp3⟩
theorem same_c {w w0 w1 : World} {s t : SV} {a b : List UInt8} (ha : NewRow w0 w s a) (hb : NewRow w1 w t b) : Calls Tryz.prog 23 #[.slice s.a s.len s.cap, .slice t.a t.len t.cap] w fun e w' => e = .returned (.bool (decide (a = b))) /\ Pu w w' := by
  refine F23_calls _ _ w _ ⟨_, w, conv_str ha, _, w, conv_str hb, ?_, Pu.refl w⟩
  rw [toList_beq]
  congr 2
  exact dec_eq ⟨fun h => by rw [← bs_list a, h, bs_list], fun h => by rw [h]⟩
end Go.Proofs.YtecmfdfhpldmmaaGreatDoor

/- Table: bytes that are handed in; parts of a row's bytes. No condition. -/
set_option maxRecDepth 100000
set_option linter.unusedVariables false
set_option linter.unusedSimpArgs false
namespace Go.Proofs.YtecmfdfhpldmmaaGreatDoor
open Go.Sh Go.RowKit
theorem addr2 (a : Addr) (i j : Nat) : (a.add i).add j = a.add (i + j) := by
  unfold Addr.add
  by_cases hi : i = 0
  · subst hi; simp
  · by_cases hj : j = 0
    · subst hj; simp [hi]
    · simp [hi, hj, Nat.add_assoc]
structure ByV (w : World) (s : SV) (d : List UInt8) : Prop where
  len : s.len = d.length
  cap : s.len <= s.cap
  lim : s.len <= 140737488355328
  get : ∀ (j : Nat) (b : UInt8), d[j]? = some b -> ∃ a, s.a = some a /\ w.cell? (a.add (j * 1)) = some (u8V b)
theorem ByV.pu {w w' : World} {s : SV} {d : List UInt8} (h : ByV w s d) (hp : Pu w w') : ByV w' s d := ⟨h.len, h.cap, h.lim, fun j b hj => by
  obtain ⟨a, h1, h2⟩ := h.get j b hj
  exact ⟨a, h1, hp.cell h2⟩⟩
theorem ByV.of {w : World} {s : SV} {d : List UInt8} (h : RdSl w s d) : ByV w s d := ⟨h.len, h.cap, h.lim, fun j b hj => by
  obtain ⟨a, h1, _, h2⟩ := h.u8 hj
  exact ⟨a, h1, h2⟩⟩
theorem NewRow.by {w0 w : World} {s : SV} {d : List UInt8} (h : NewRow w0 w s d) (hb : d.length <= 140737488355328) : ByV w s d := ⟨h.len, h.1.le_cap.1, by have := h.len; omega, fun j b hj => by
  obtain ⟨a, h1, h2⟩ := h.cell hj
  exact ⟨a, h1, by rw [Nat.mul_one]; exact h2⟩⟩
theorem part_at {d : List UInt8} {lo n j : Nat} {b : UInt8} (h : ((d.drop lo).take n)[j]? = some b) : d[lo + j]? = some b := by
  rw [List.getElem?_take] at h
  split at h
  · rw [List.getElem?_drop] at h; exact h
  · cases h
theorem ByV.sub {w : World} {s : SV} {d : List UInt8} (h : ByV w s d) {lo hi : Nat} (h1 : lo <= hi) (h2 : hi <= d.length) : ByV w ⟨if s.cap = lo then s.a else s.a.map (fun x => x.add (lo * 1)), hi - lo, s.cap - lo⟩ ((d.drop lo).take (hi - lo)) := by
  have hl := h.len
  have hc := h.cap
  have hm := h.lim
  refine ⟨by rw [List.length_take, List.length_drop]; show hi - lo = _; omega, by show hi - lo <= s.cap - lo; omega, by show hi - lo <= _; omega, fun j b hj => ?_⟩
  have hj2 := part_at hj
  obtain ⟨a, ha, hcell⟩ := h.get _ _ hj2
  have hlt := (List.getElem?_eq_some_iff.1 hj2).1
  have hlt2 := (List.getElem?_eq_some_iff.1 hj).1
  rw [List.length_take, List.length_drop] at hlt2
  refine ⟨a.add (lo * 1), ?_, ?_⟩
  · show (if s.cap = lo then s.a else s.a.map (fun x => x.add (lo * 1))) = _
    rw [if_neg (by omega), ha]; rfl
  · rw [addr2, show lo * 1 + j * 1 = (lo + j) * 1 by omega]; exact hcell
theorem ByV.part3 {w : World} {s : SV} {d : List UInt8} (h : ByV w s d) {lo hi : Nat} (h1 : lo <= hi) (h2 : hi <= d.length) : ∃ l : SV, (Instr.sliceAt 37 (.slice s.a s.len s.cap) (some (.int .i64 (lo : Int))) (some (.int .i64 (hi : Int))) (some (.int .i64 (hi : Int)))).run Tryz.prog w = .ok (.slice l.a l.len l.cap) w /\ ByV w l ((d.drop lo).take (hi - lo)) := by
  have hl := h.len
  have hc := h.cap
  have hm := h.lim
  have hs : (sizeOf 5).run Tryz.prog w = .ok 1 w := Tryz.sizeOf5 w
  refine ⟨⟨if hi = lo then s.a else s.a.map (fun x => x.add (lo * 1)), hi - lo, hi - lo⟩, ?_, by rw [List.length_take, List.length_drop]; show hi - lo = _; omega, Nat.le_refl _, by show hi - lo <= _; omega, fun j b hj => ?_⟩
  · simp [Instr.sliceAt, run_under u37, Instr.slice, hs, Instr.sliceBounds, Instr.sliceBound, asIntOf, show hi <= s.cap by omega, h1]
  · have hj2 := part_at hj
    obtain ⟨a, ha, hcell⟩ := h.get _ _ hj2
    have hlt2 := (List.getElem?_eq_some_iff.1 hj).1
    rw [List.length_take, List.length_drop] at hlt2
    refine ⟨a.add (lo * 1), ?_, ?_⟩
    · show (if hi = lo then s.a else s.a.map (fun x => x.add (lo * 1))) = _
      rw [if_neg (by omega), ha]; rfl
    · rw [addr2, show lo * 1 + j * 1 = (lo + j) * 1 by omega]; exact hcell
theorem conv_by {w : World} {s : SV} {d : List UInt8} (h : ByV w s d) : (convert 37 9 (.slice s.a s.len s.cap)).run Tryz.prog w = .ok (.string (bs d)) w := by
  have hl := h.len
  rw [run_convert_bytes_string w 37 9 5 _ _ _ u37 u5 u9]
  cases ha : s.a with
  | none =>
    have hd : d = [] := by
      cases d with
      | nil => rfl
      | cons b d => obtain ⟨a, h1, _⟩ := h.get 0 b rfl; rw [ha] at h1; cases h1
    subst hd
    simp [Conv.bytesToString]; rfl
  | some a =>
    have hld : (loadCells a s.len).run Tryz.prog w = .ok ((d.map fun b => ((b.toNat : Nat) : Int)).map (Value.int .u8)).toArray w := by
      have := run_loadCells_list (P := Tryz.prog) w a ((d.map fun b => ((b.toNat : Nat) : Int)).map (Value.int .u8)) (fun j v hj => by
        simp only [List.getElem?_map, Option.map_map, Option.map_eq_some_iff] at hj
        obtain ⟨b, hb, rfl⟩ := hj
        obtain ⟨a', h1, h2⟩ := h.get j b hb
        rw [ha] at h1; cases h1
        rw [Nat.mul_one] at h2; exact h2)
      simpa [hl] using this
    rw [run_bytesToString w a s.len s.cap _ hld, foldl_push_bytes]
    congr 2
    apply bytes_ext
    have e0 : ((⟨ByteArray.empty.data ++ (List.map (fun n : Int => UInt8.ofNat n.toNat) (d.map fun b => ((b.toNat : Nat) : Int))).toArray⟩ : ByteArray)).data.toList = d.map ((fun n : Int => UInt8.ofNat n.toNat) ∘ fun b => ((b.toNat : Nat) : Int)) := by
      simp [ByteArray.empty, ByteArray.emptyWithCapacity]; rfl
    refine e0.trans ?_
    show _ = d
    conv => rhs; rw [← List.map_id d]
    apply List.map_congr_left
    intro x _
    simp
def numN (d : List UInt8) : Nat := d.foldr (fun b a => a * 256 + b.toNat) 0
theorem numN_cons (b : UInt8) (d : List UInt8) : numN (b :: d) = numN d * 256 + b.toNat := rfl
theorem numN_lt : ∀ d : List UInt8, numN d < 256 ^ d.length
  | [] => by simp [numN]
  | b :: d => by
    rw [numN_cons, List.length_cons, Nat.pow_succ]
    have := numN_lt d
    have := b.toNat_lt
    omega
theorem numN_low {m : Nat} (h : m < 4294967296) : numN (lowN m 4) = m := by
  unfold lowN
  simp only [List.range, List.range.loop, List.map_cons, List.map_nil, numN_cons]
  have e : ∀ x : Nat, (UInt8.ofNat (x % 256)).toNat = x % 256 := fun x => by simp
  simp only [e, numN, List.foldr_nil]
  omega
theorem or_low {a b : Nat} (ha : a < 16777216) (hb : b < 256) : IntKind.i64.wrap ((BitVec.ofInt 64 (IntKind.i64.wrap ((a : Int) * 2 ^ 8)) ||| BitVec.ofInt 64 (IntKind.i64.wrap (b : Int))).toNat : Nat) = ((a * 256 + b : Nat) : Int) := by
  rw [wrap_in (n := (a : Int) * 2 ^ 8) (by omega) (by omega), wrap_in (n := (b : Int)) (by omega) (by omega)]
  have e1 : ((a : Int) * 2 ^ 8) = ((a * 256 : Nat) : Int) := by omega
  have e2 : (BitVec.ofInt 64 ((a * 256 : Nat) : Int) ||| BitVec.ofInt 64 (b : Int)).toNat = a * 256 + b := by
    rw [BitVec.toNat_or]
    have h1 : (BitVec.ofInt 64 ((a * 256 : Nat) : Int)).toNat = a * 256 := by rw [BitVec.ofInt_natCast, BitVec.toNat_ofNat]; omega
    have h2 : (BitVec.ofInt 64 (b : Int)).toNat = b := by rw [BitVec.ofInt_natCast, BitVec.toNat_ofNat]; omega
    rw [h1, h2]
    have := Nat.shiftLeft_add_eq_or_of_lt (i := 8) (b := b) (by omega) a
    rw [Nat.shiftLeft_eq] at this
    exact this.symm
  rw [e1, e2, wrap_in (by omega) (by omega)]
theorem number_c {w : World} {s : SV} {d : List UInt8} (h : ByV w s d) (h4 : d.length = 4) : Calls Tryz.prog 114 #[.slice s.a s.len s.cap] w fun e w' => e = .returned (.int .i64 (numN d : Nat)) /\ Pu w w' := by
  refine F114_calls _ w _ ?_
  have hl := h.len
  rw [F114_5, wrap_in (by omega) (by omega)]
  refine loopUp 4 (fun k t w' => t.1 = (numN (d.drop (4 - k)) : Nat) /\ t.2 = 3 - (k : Int) /\ Pu w w') ⟨by rw [List.drop_eq_nil_of_le (by omega)]; rfl, by dsimp only; omega, Pu.refl _⟩ ?_
  rintro k J ⟨t1, t2⟩ w2 hk ⟨h1, h2, hp⟩ hJ
  obtain rfl : t1 = (numN (d.drop (4 - k)) : Nat) := h1
  obtain rfl : t2 = 3 - (k : Int) := h2
  dsimp only
  refine Br.of (fun q => ?_) (fun q => ?_)
  · have hk2 : k < 4 := by have := dtrue q; omega
    obtain ⟨b, hb⟩ := at_k (l := d) (k := 3 - k) (by omega)
    obtain ⟨a, ha, hc⟩ := (h.pu hp).get _ _ hb
    have hlt := numN_lt (d.drop (4 - k))
    rw [List.length_drop, h4] at hlt
    have hlt3 : numN (d.drop (4 - k)) < 16777216 := Nat.lt_of_lt_of_le hlt (by
      rcases (by omega : k = 0 ∨ k = 1 ∨ k = 2 ∨ k = 3) with rfl | rfl | rfl | rfl <;> decide)
    have hbl := b.toNat_lt
    refine ⟨by omega, a, ha, by omega, by omega, _, by rw [show (3 - (k : Int)).toNat = 3 - k by omega]; exact hc, ?_⟩
    rw [or_low hlt3 hbl, wrap_in (by omega) (by omega)]
    refine hJ _ _ hk2 ⟨?_, by dsimp only; omega, hp⟩
    dsimp only
    rw [show 4 - (k + 1) = 3 - k by omega, drop_at hb, numN_cons, show 3 - k + 1 = 4 - k by omega]
  · have hk2 : k = 4 := by have := dfalse q; omega
    subst hk2
    exact ⟨rfl, hp⟩
theorem bit_p : ∀ x : Nat, x < 256 -> ∀ r : Nat, r < 8 -> ((IntKind.u8.wrap ((BitVec.ofInt 8 (((x : Nat) : Int).fdiv (2 ^ (min r 8))) &&& BitVec.ofInt 8 1).toNat : Nat)) == 1) = x.testBit r := by decide +kernel
def sum8 (c0 c1 c2 c3 c4 c5 c6 c7 : Bool) : Nat := (if c0 then 2 ^ 0 else 0) + (if c1 then 2 ^ 1 else 0) + (if c2 then 2 ^ 2 else 0) + (if c3 then 2 ^ 3 else 0) + (if c4 then 2 ^ 4 else 0) + (if c5 then 2 ^ 5 else 0) + (if c6 then 2 ^ 6 else 0) + (if c7 then 2 ^ 7 else 0)
theorem sum8_bit : ∀ c0 c1 c2 c3 c4 c5 c6 c7 : Bool, ∀ r : Nat, r < 8 -> (UInt8.ofNat (sum8 c0 c1 c2 c3 c4 c5 c6 c7)).toNat.testBit r = [c0, c1, c2, c3, c4, c5, c6, c7].getD r false := by decide +kernel
theorem byteAt_bit (bits : List Bool) (q : Nat) {r : Nat} (hr : r < 8) : (UInt8.ofNat (byteAt bits q)).toNat.testBit r = decide (bits[8 * q + r]? = some true) := by
  have e : byteAt bits q = sum8 (decide (bits[8 * q + 0]? = some true)) (decide (bits[8 * q + 1]? = some true)) (decide (bits[8 * q + 2]? = some true)) (decide (bits[8 * q + 3]? = some true)) (decide (bits[8 * q + 4]? = some true)) (decide (bits[8 * q + 5]? = some true)) (decide (bits[8 * q + 6]? = some true)) (decide (bits[8 * q + 7]? = some true)) := by
    unfold byteAt sum8 bit01
    simp only [decide_eq_true_eq]
  rw [e, sum8_bit _ _ _ _ _ _ _ _ r hr]
  rcases (by omega : r = 0 ∨ r = 1 ∨ r = 2 ∨ r = 3 ∨ r = 4 ∨ r = 5 ∨ r = 6 ∨ r = 7) with rfl | rfl | rfl | rfl | rfl | rfl | rfl | rfl <;> rfl
def nullK (l : List Fld) (k : Nat) : Nat := ((l.take k).filter (·.null)).length
theorem nullK_le (l : List Fld) (k : Nat) : nullK l k <= (l.filter (·.null)).length := filter_take_le l k
theorem nbits_count : ∀ {l : List Fld} {vs : List Val}, vs.length = l.length -> (nbits l vs).length = (l.filter (·.null)).length
  | [], _, _ => by simp [nbits]
  | f :: l, [], h => by simp at h
  | f :: l, v :: vs, h => by
    have ih := nbits_count (l := l) (vs := vs) (by simpa using h)
    unfold nbits
    rw [List.filter_cons]
    by_cases hn : f.null = true
    · rw [if_pos hn, if_pos hn]; simp only [List.length_cons]; omega
    · rw [if_neg hn, if_neg hn]; exact ih
theorem nbits_split : ∀ (l : List Fld) (vs : List Val) (k : Nat), nbits l vs = nbits (l.take k) (vs.take k) ++ nbits (l.drop k) (vs.drop k)
  | [], _, _ => by simp [nbits]
  | f :: l, [], k => by
    have : nbits (f :: l) [] = [] := rfl
    rw [this]
    cases k with
    | zero => simp [nbits]
    | succ k => cases h : List.drop (k + 1) (f :: l) <;> simp [nbits]
  | f :: l, v :: vs, 0 => by simp [nbits]
  | f :: l, v :: vs, k + 1 => by
    have ih := nbits_split l vs k
    simp only [List.take_succ_cons, List.drop_succ_cons]
    have e1 : nbits (f :: l) (v :: vs) = if f.null then decide (v.kind = 0) :: nbits l vs else nbits l vs := rfl
    have e2 : nbits (f :: l.take k) (v :: vs.take k) = if f.null then decide (v.kind = 0) :: nbits (l.take k) (vs.take k) else nbits (l.take k) (vs.take k) := rfl
    rw [e1, e2]
    split
    · rw [ih]; rfl
    · exact ih
theorem nbits_at {l : List Fld} {vs : List Val} (hl : vs.length = l.length) {k : Nat} {f : Fld} {v : Val} (hf : l[k]? = some f) (hv : vs[k]? = some v) (hn : f.null = true) : (nbits l vs)[nullK l k]? = some (decide (v.kind = 0)) := by
  have hk := (List.getElem?_eq_some_iff.1 hf).1
  have h1 : (nbits (l.take k) (vs.take k)).length = nullK l k := nbits_count (by rw [List.length_take, List.length_take]; omega)
  rw [nbits_split l vs k, List.getElem?_append_right (by omega), h1, Nat.sub_self, drop_at hf, drop_at hv]
  unfold nbits; rw [if_pos hn]; rfl
theorem cellsS_split (sh : Fld -> Val -> List UInt8) (l : List Fld) (vs : List Val) (h : vs.length = l.length) (k : Nat) : cellsS sh l vs = cellsS sh (l.take k) (vs.take k) ++ cellsS sh (l.drop k) (vs.drop k) := by
  unfold cellsS
  rw [← List.flatMap_append, ← List.zip_append (by rw [List.length_take, List.length_take]; omega), List.take_append_drop, List.take_append_drop]
theorem row_gone {l : List Fld} {r : Rec} {d : List UInt8} (hd : rowS shownS l r = d) {b : UInt8} (hb : d[0]? = some b) : b = goneB r.gone := by
  rw [← hd] at hb
  unfold rowS at hb
  simpa using hb.symm
def offK (l : List Fld) (k : Nat) : Nat := 1 + nulls l + ((l.take k).map (fun x : Fld => x.width)).sum.toNat
theorem row_part {l : List Fld} {p : Int} {r : Rec} {d : List UInt8} (hall : l.all fieldB = true) (hR : RightR l p r.v) (hd : rowS shownS l r = d) {k : Nat} {f : Fld} {v : Val} (hf : l[k]? = some f) (hv : r.v[k]? = some v) : (d.drop (offK l k)).take f.width.toNat = shownS f v := by
  have hk := (List.getElem?_eq_some_iff.1 hf).1
  have h1 := cellsS_shown_len hall hR k (by omega)
  have hw := (hR.2 k f v hf hv).len
  rw [← hd]
  unfold rowS offK
  have hlen : ([goneB r.gone] ++ flN (nulls l) (nbits l r.v) ++ cellsS shownS (l.take k) (r.v.take k)).length = 1 + nulls l + ((l.take k).map (fun x : Fld => x.width)).sum.toNat := by
    simp only [List.length_append, flN_len, List.length_singleton]; omega
  rw [cellsS_split shownS l r.v hR.1 k, ← List.append_assoc, List.drop_append, List.drop_eq_nil_of_le (by omega), hlen, Nat.sub_self, List.drop_zero, List.nil_append, drop_at hf, drop_at hv]
  unfold cellsS
  rw [List.zip_cons_cons, List.flatMap_cons]
  dsimp only
  rw [cellS_shown, List.take_append_of_le_length (by omega), List.take_of_length_le (by omega)]
theorem row_flag {l : List Fld} {p : Int} {r : Rec} {d : List UInt8} (hR : RightR l p r.v) (hd : rowS shownS l r = d) {k : Nat} {f : Fld} {v : Val} (hf : l[k]? = some f) (hv : r.v[k]? = some v) (hn : f.null = true) {b : UInt8} (hb : d[1 + nullK l k / 8]? = some b) : b.toNat.testBit (nullK l k % 8) = decide (v.kind = 0) := by
  have hc := nbits_at hR.1 hf hv hn
  have hlt := (List.getElem?_eq_some_iff.1 hc).1
  rw [nbits_count hR.1] at hlt
  have hq : nullK l k / 8 < nulls l := by unfold nulls; omega
  have e : b = UInt8.ofNat (byteAt (nbits l r.v) (nullK l k / 8)) := by
    rw [← hd] at hb
    unfold rowS at hb
    rw [List.append_assoc, List.getElem?_append_right (by simp), List.getElem?_append_left (by simp [flN_len]; exact hq)] at hb
    simp only [List.length_singleton, Nat.add_sub_cancel_left] at hb
    rw [flN_at hq] at hb
    exact (Option.some.inj hb).symm
  rw [e, byteAt_bit _ _ (Nat.mod_lt _ (by decide)), show 8 * (nullK l k / 8) + nullK l k % 8 = nullK l k by omega, hc]
  simp
theorem nullK_succ {l : List Fld} {k : Nat} {f : Fld} (hf : l[k]? = some f) : nullK l (k + 1) = if f.null then nullK l k + 1 else nullK l k := nullN_take' hf
theorem offK_succ {l : List Fld} (hall : l.all fieldB = true) {k : Nat} {f : Fld} (hf : l[k]? = some f) : offK l (k + 1) = offK l k + f.width.toNat := by
  have h1 := sum_take hf
  have h2 := sum_le ((WOk.of hall).take k)
  have h3 := WOk.of hall f (List.mem_of_getElem? hf)
  unfold offK; rw [h1]; omega
theorem offK_le {l : List Fld} (hall : l.all fieldB = true) {k : Nat} {f : Fld} (hf : l[k]? = some f) : ((offK l k + f.width.toNat : Nat) : Int) <= wide l := by
  have hk := (List.getElem?_eq_some_iff.1 hf).1
  have h1 := sum_take hf
  have h2 := sum_le ((WOk.of hall).take k)
  have h3 := WOk.of hall f (List.mem_of_getElem? hf)
  have h4 : ((l.take (k + 1)).map (·.width)).sum <= (l.map (·.width)).sum := by
    have e : l.map (·.width) = (l.take (k + 1)).map (·.width) ++ (l.drop (k + 1)).map (·.width) := by rw [← List.map_append, List.take_append_drop]
    have h5 := sum_le (l := l.drop (k + 1)) fun g hg => WOk.of hall g (List.mem_of_mem_drop hg)
    rw [e, List.sum_append]; omega
  unfold offK wide; omega
end Go.Proofs.YtecmfdfhpldmmaaGreatDoor
