import Derived.Test.YtcnenlmhbpijlaaLkA
/- Link: names; what the library's searches tell; which modules are too large, which are right. No condition. -/
set_option maxRecDepth 100000
set_option linter.unusedVariables false
set_option linter.unusedSimpArgs false
namespace Go.Proofs.Ytcnenlmhbpijlaa
open Go.Sh Go.RowKit

theorem u3 : Try.prog.underlying 3 = some (.int .i64) := by kernel_rfl
theorem u5 : Try.prog.underlying 5 = some (.int .u8) := by kernel_rfl
theorem u9 : Try.prog.underlying 9 = some .string := by kernel_rfl
theorem u133 : Try.prog.underlying 133 = some (.slice 5) := by kernel_rfl

theorem okFrom_at {i : Nat} {l : List UInt8} {b : UInt8} (h : l[i]? = some b) : okFrom i (l.drop i) = (nameAt i b && okFrom (i + 1) (l.drop (i + 1))) := by
  rw [drop_at h]; rfl

theorem isName_c (w : World) (s : ByteArray) (hs : s.size ≤ 140737488355328) : Calls Try.prog 94 #[.string s] w fun e w' => e = .returned (.bool (nameB s)) ∧ Pu w w' := by
  refine F94_calls s w _ ?_
  obtain ⟨l, w1, hr, hp, hl⟩ := conv_bytes u9 u133 u5 s hs w
  refine ⟨l, w1, hr, ?_⟩
  have hlen : l.len = s.data.toList.length := hl.len
  have hsz : s.data.toList.length = s.size := by first | (simp; done) | (simp; rfl)
  refine loopUp l.len (fun k t w' => w' = w1 ∧ t = (k : Int) ∧ okFrom 0 s.data.toList = okFrom k (s.data.toList.drop k)) ⟨rfl, rfl, rfl⟩ ?_
  rintro k J t w' hk ⟨rfl, rfl, hok⟩ hJ
  refine Br.of (fun hlt => ?_) (fun hge => ?_)
  · have hlt' : k < s.data.toList.length := by have := dtrue hlt; omega
    obtain ⟨b, hb⟩ := at_k hlt'
    obtain ⟨a, ha, hi, hc⟩ := hl.u8 hb
    rw [okFrom_at hb] at hok
    have good : nameAt k b = true → J (IntKind.i64.wrap ((k : Int) + 1)) w' := fun hn => by
      rw [wrap_in (by omega) (by have := hl.lim; omega)]
      exact hJ _ _ hi ⟨rfl, rfl, by rw [hok, hn]; rfl⟩
    have bad : nameAt k b = false → (Ending.returned (Value.bool false) = .returned (.bool (nameB s)) ∧ Pu w w') := fun hn => by
      rw [hn] at hok
      exact ⟨by simp [nameB, hok], hp⟩
    have hbl : b.toNat < 256 := b.toNat_lt
    refine ⟨a, ha, by omega, by omega, _, by simpa using hc, ?_⟩
    repeat' (refine Br.of (fun _ => ?_) (fun _ => ?_))
    all_goals
      simp only [decide_eq_true_eq, decide_eq_false_iff_not, Bool.not_eq_true', Bool.not_eq_false', beq_iff_eq, beq_eq_false_iff_ne, bne_iff_ne, bne_eq_false_iff_eq, ne_eq, Decidable.not_not] at *
      first
        | exact good (by simp only [nameAt, letter, Bool.or_eq_true, Bool.and_eq_true, decide_eq_true_eq]; omega)
        | exact bad (by rw [← Bool.not_eq_true]; simp only [nameAt, letter, Bool.or_eq_true, Bool.and_eq_true, decide_eq_true_eq]; omega)
  · have hge' : ¬ k < s.data.toList.length := by have := dfalse hge; omega
    rw [drop_end hge'] at hok
    refine Br.of (fun h1 => ?_) (fun h1 => ?_)
    · refine ⟨?_, hp⟩
      have h1 : 1 ≤ s.size := by have := dtrue h1; omega
      have : decide (((s.size : Nat) : Int) ≤ 10) = decide (s.size ≤ 10) := by congr 1; exact propext ⟨fun h => by omega, fun h => by omega⟩
      rw [this]; simp [nameB, hok, okFrom, h1]
    · refine ⟨?_, hp⟩
      have h1 : ¬ 1 ≤ s.size := by have := dfalse h1; omega
      simp [nameB, h1]

/-! ### The library's searches -/
def idxF {α : Type} (p : α → Bool) (l : List α) : Int := if l.any p then ((l.findIdx p : Nat) : Int) else -1
theorem idxF_nonneg {α : Type} (p : α → Bool) (l : List α) : decide (idxF p l ≥ 0) = l.any p := by
  unfold idxF
  split
  · rename_i h; rw [h]; exact decide_eq_true (by omega)
  · rename_i h
    have : l.any p = false := by simpa using h
    rw [this]; exact decide_eq_false (by omega)

theorem indexFunc_lists (w : World) (s : SV) (l : List (List ByteArray)) (hl : RdSl w s l) (f : FuncId) (cap : Array Value) (p : (List ByteArray) → Bool) (hb : hasBody Try.prog f = true)
    (hf : ∀ w' (t : SV) x, x ∈ l → Pu w w' → RdSl w' t x → Calls Try.prog f (([.slice t.a t.len t.cap] : List Value) ++ cap.toList).toArray w' fun e w'' => e = .returned (.bool (p x)) ∧ Pu w' w'') :
    Calls Try.prog 111 #[.slice s.a s.len s.cap, .func (.func f) #[] cap] w fun e w' => e = .returned (.int .i64 (idxF p l)) ∧ Pu w w' := by
  refine F111_calls s _ w _ ?_
  have hlen := hl.len
  have hlim := hl.lim
  refine loopUp l.length (fun k t w' => Pu w w' ∧ t = (k : Int) ∧ l.any p = (l.drop k).any p ∧ (l.any p = true → l.findIdx p = k + (l.drop k).findIdx p)) ⟨Pu.refl w, rfl, rfl, fun _ => by simp⟩ ?_
  rintro k J t w' hk ⟨hp, rfl, hany, hidx⟩ hJ
  refine Br.of (fun hlt => ?_) (fun hge => ?_)
  · have hlt' : k < l.length := by have := dtrue hlt; omega
    obtain ⟨x, hx⟩ := at_k hlt'
    obtain ⟨a, t, ha, hi, hc, ht⟩ := listAt (hl.pu hp) hx
    rw [drop_at hx] at hany hidx
    refine ⟨a, ha, by omega, by omega, t, by simpa using hc, ?_⟩
    refine ⟨hb, ?_⟩
    refine Calls.mono (hf w' t x (List.mem_of_getElem? hx) hp ht) ?_
    rintro e w'' ⟨rfl, hp2⟩
    refine ⟨_, rfl, Br.of (fun h1 => ?_) (fun h1 => ?_)⟩
    · refine ⟨?_, hp.trans hp2⟩
      rw [List.any_cons, h1, Bool.true_or] at hany
      have := hidx hany
      simp only [List.findIdx_cons, h1, cond_true] at this
      simp only [idxF, hany, if_true, this]; rfl
    · show J _ _
      rw [wrap_in (by omega) (by omega)]
      rw [List.any_cons, h1, Bool.false_or] at hany
      refine hJ _ _ hlt' ⟨hp.trans hp2, rfl, hany, fun h => ?_⟩
      have := hidx h
      simp only [List.findIdx_cons, h1, cond_false] at this
      omega
  · have hge' : ¬ k < l.length := by have := dfalse hge; omega
    rw [drop_end hge'] at hany
    refine ⟨?_, hp⟩
    have : l.any p = false := by simpa using hany
    simp [idxF, this]
theorem containsFunc_lists (w : World) (s : SV) (l : List (List ByteArray)) (hl : RdSl w s l) (f : FuncId) (cap : Array Value) (p : (List ByteArray) → Bool) (hb : hasBody Try.prog f = true)
    (hf : ∀ w' (t : SV) x, x ∈ l → Pu w w' → RdSl w' t x → Calls Try.prog f (([.slice t.a t.len t.cap] : List Value) ++ cap.toList).toArray w' fun e w'' => e = .returned (.bool (p x)) ∧ Pu w' w'') :
    Calls Try.prog 91 #[.slice s.a s.len s.cap, .func (.func f) #[] cap] w fun e w' => e = .returned (.bool (l.any p)) ∧ Pu w w' := by
  refine F91_calls s _ w _ ?_
  refine Calls.mono (indexFunc_lists w s l hl f cap p hb hf) ?_
  rintro e w' ⟨rfl, hp⟩
  exact ⟨_, rfl, by rw [idxF_nonneg], hp⟩

theorem indexFunc_ints (w : World) (s : SV) (l : List Int) (hl : RdSl w s l) (f : FuncId) (cap : Array Value) (p : Int → Bool) (hb : hasBody Try.prog f = true)
    (hf : ∀ w'  x, x ∈ l → Pu w w' → Calls Try.prog f (([.int .i64 x] : List Value) ++ cap.toList).toArray w' fun e w'' => e = .returned (.bool (p x)) ∧ Pu w' w'') :
    Calls Try.prog 112 #[.slice s.a s.len s.cap, .func (.func f) #[] cap] w fun e w' => e = .returned (.int .i64 (idxF p l)) ∧ Pu w w' := by
  refine F112_calls s _ w _ ?_
  have hlen := hl.len
  have hlim := hl.lim
  refine loopUp l.length (fun k t w' => Pu w w' ∧ t = (k : Int) ∧ l.any p = (l.drop k).any p ∧ (l.any p = true → l.findIdx p = k + (l.drop k).findIdx p)) ⟨Pu.refl w, rfl, rfl, fun _ => by simp⟩ ?_
  rintro k J t w' hk ⟨hp, rfl, hany, hidx⟩ hJ
  refine Br.of (fun hlt => ?_) (fun hge => ?_)
  · have hlt' : k < l.length := by have := dtrue hlt; omega
    obtain ⟨x, hx⟩ := at_k hlt'
    obtain ⟨a, ha, hi, hc, _⟩ := (hl.pu hp).int hx
    rw [drop_at hx] at hany hidx
    refine ⟨a, ha, by omega, by omega, x, by simpa using hc, ?_⟩
    refine ⟨hb, ?_⟩
    refine Calls.mono (hf w'  x (List.mem_of_getElem? hx) hp) ?_
    rintro e w'' ⟨rfl, hp2⟩
    refine ⟨_, rfl, Br.of (fun h1 => ?_) (fun h1 => ?_)⟩
    · refine ⟨?_, hp.trans hp2⟩
      rw [List.any_cons, h1, Bool.true_or] at hany
      have := hidx hany
      simp only [List.findIdx_cons, h1, cond_true] at this
      simp only [idxF, hany, if_true, this]; rfl
    · show J _ _
      rw [wrap_in (by omega) (by omega)]
      rw [List.any_cons, h1, Bool.false_or] at hany
      refine hJ _ _ hlt' ⟨hp.trans hp2, rfl, hany, fun h => ?_⟩
      have := hidx h
      simp only [List.findIdx_cons, h1, cond_false] at this
      omega
  · have hge' : ¬ k < l.length := by have := dfalse hge; omega
    rw [drop_end hge'] at hany
    refine ⟨?_, hp⟩
    have : l.any p = false := by simpa using hany
    simp [idxF, this]
theorem containsFunc_ints (w : World) (s : SV) (l : List Int) (hl : RdSl w s l) (f : FuncId) (cap : Array Value) (p : Int → Bool) (hb : hasBody Try.prog f = true)
    (hf : ∀ w'  x, x ∈ l → Pu w w' → Calls Try.prog f (([.int .i64 x] : List Value) ++ cap.toList).toArray w' fun e w'' => e = .returned (.bool (p x)) ∧ Pu w' w'') :
    Calls Try.prog 95 #[.slice s.a s.len s.cap, .func (.func f) #[] cap] w fun e w' => e = .returned (.bool (l.any p)) ∧ Pu w w' := by
  refine F95_calls s _ w _ ?_
  refine Calls.mono (indexFunc_ints w s l hl f cap p hb hf) ?_
  rintro e w' ⟨rfl, hp⟩
  exact ⟨_, rfl, by rw [idxF_nonneg], hp⟩

theorem indexFunc_strs (w : World) (s : SV) (l : List ByteArray) (hl : RdSl w s l) (f : FuncId) (cap : Array Value) (p : ByteArray → Bool) (hb : hasBody Try.prog f = true)
    (hf : ∀ w'  x, x ∈ l → Pu w w' → Calls Try.prog f (([.string x] : List Value) ++ cap.toList).toArray w' fun e w'' => e = .returned (.bool (p x)) ∧ Pu w' w'') :
    Calls Try.prog 78 #[.slice s.a s.len s.cap, .func (.func f) #[] cap] w fun e w' => e = .returned (.int .i64 (idxF p l)) ∧ Pu w w' := by
  refine F78_calls s _ w _ ?_
  have hlen := hl.len
  have hlim := hl.lim
  refine loopUp l.length (fun k t w' => Pu w w' ∧ t = (k : Int) ∧ l.any p = (l.drop k).any p ∧ (l.any p = true → l.findIdx p = k + (l.drop k).findIdx p)) ⟨Pu.refl w, rfl, rfl, fun _ => by simp⟩ ?_
  rintro k J t w' hk ⟨hp, rfl, hany, hidx⟩ hJ
  refine Br.of (fun hlt => ?_) (fun hge => ?_)
  · have hlt' : k < l.length := by have := dtrue hlt; omega
    obtain ⟨x, hx⟩ := at_k hlt'
    obtain ⟨a, ha, hi, hc⟩ := (hl.pu hp).str hx
    rw [drop_at hx] at hany hidx
    refine ⟨a, ha, by omega, by omega, x, by simpa using hc, ?_⟩
    refine ⟨hb, ?_⟩
    refine Calls.mono (hf w'  x (List.mem_of_getElem? hx) hp) ?_
    rintro e w'' ⟨rfl, hp2⟩
    refine ⟨_, rfl, Br.of (fun h1 => ?_) (fun h1 => ?_)⟩
    · refine ⟨?_, hp.trans hp2⟩
      rw [List.any_cons, h1, Bool.true_or] at hany
      have := hidx hany
      simp only [List.findIdx_cons, h1, cond_true] at this
      simp only [idxF, hany, if_true, this]; rfl
    · show J _ _
      rw [wrap_in (by omega) (by omega)]
      rw [List.any_cons, h1, Bool.false_or] at hany
      refine hJ _ _ hlt' ⟨hp.trans hp2, rfl, hany, fun h => ?_⟩
      have := hidx h
      simp only [List.findIdx_cons, h1, cond_false] at this
      omega
  · have hge' : ¬ k < l.length := by have := dfalse hge; omega
    rw [drop_end hge'] at hany
    refine ⟨?_, hp⟩
    have : l.any p = false := by simpa using hany
    simp [idxF, this]
theorem containsFunc_strs (w : World) (s : SV) (l : List ByteArray) (hl : RdSl w s l) (f : FuncId) (cap : Array Value) (p : ByteArray → Bool) (hb : hasBody Try.prog f = true)
    (hf : ∀ w'  x, x ∈ l → Pu w w' → Calls Try.prog f (([.string x] : List Value) ++ cap.toList).toArray w' fun e w'' => e = .returned (.bool (p x)) ∧ Pu w' w'') :
    Calls Try.prog 80 #[.slice s.a s.len s.cap, .func (.func f) #[] cap] w fun e w' => e = .returned (.bool (l.any p)) ∧ Pu w w' := by
  refine F80_calls s _ w _ ?_
  refine Calls.mono (indexFunc_strs w s l hl f cap p hb hf) ?_
  rintro e w' ⟨rfl, hp⟩
  exact ⟨_, rfl, by rw [idxF_nonneg], hp⟩

/-! ### Too large? -/
theorem longCall_c (w : World) (t : SV) (x : List ByteArray) (ht : RdSl w t x) : Calls Try.prog 92 #[.slice t.a t.len t.cap] w fun e w' => e = .returned (.bool (decide (100 < x.length))) ∧ Pu w w' := by
  refine F92_calls t w _ ⟨?_, Pu.refl w⟩
  rw [ht.len]
  congr 2
  by_cases h : 100 < x.length
  · rw [decide_eq_true h]; exact decide_eq_true (by omega)
  · rw [decide_eq_false h]; exact decide_eq_false (by omega)
theorem nprocs_take {l : List Mod} {k : Nat} {m : Mod} (h : l[k]? = some m) : nprocs (l.take (k + 1)) = nprocs (l.take k) + m.procs.length := by
  rw [take_at h]; simp [nprocs]

theorem isLarge_c (w : World) (s : SV) (l : List Mod) (hl : RdSl w s l) : Calls Try.prog 48 #[.slice s.a s.len s.cap] w fun e w' => e = .returned (.bool (largeB l)) ∧ Pu w w' := by
  refine F48_calls s w _ ?_
  have hlen := hl.len
  have hlim := hl.lim
  refine loopUp l.length (fun k t w' => Pu w w' ∧ t.2 = (k : Int) ∧ (l.any fun m => m.calls.any fun c => decide (100 < c.length)) = ((l.drop k).any fun m => m.calls.any fun c => decide (100 < c.length)) ∧ (k ≤ 32 → t.1 = ((nprocs (l.take k) : Nat) : Int) ∧ nprocs (l.take k) ≤ k * 140737488355328)) ⟨Pu.refl w, rfl, rfl, fun _ => ⟨rfl, by simp [nprocs]⟩⟩ ?_
  rintro k J ⟨n3, t⟩ w' hk ⟨hp, ht, hany, hn⟩ hJ
  have ht : t = (k : Int) := ht
  subst ht
  refine Br.of (fun hlt => ?_) (fun hge => ?_)
  · have hlt' : k < l.length := by have := dtrue hlt; omega
    obtain ⟨m, hm⟩ := at_k hlt'
    obtain ⟨a, p, z, c, ha, hi, hM, c0, c1, c2, c3, c4⟩ := modAt (hl.pu hp) hm
    rw [drop_at hm, List.any_cons] at hany
    refine ⟨a, ha, by omega, by omega, m.name, by simpa using c0, m.ov, by simpa using c1, p, by simpa using c2, z, by simpa using c3, c, by simpa using c4, ?_⟩
    refine boxA (by rfl) (by kernel_rfl) (by rfl) fun w1 hp1 hs1 hb1 => ?_
    have hM1 := hM.pu hp1
    refine ⟨p, by rw [add_def, cell_blk hb1]; rfl, c, by rw [add_def, cell_blk hb1]; rfl, ?_⟩
    refine Calls.mono (containsFunc_lists w1 c m.calls hM1.calls 92 #[] (fun c => decide (100 < c.length)) (by kernel_rfl) fun w' t x _ _ ht => longCall_c w' t x ht) ?_
    rintro e w2 ⟨rfl, hp2⟩
    refine ⟨_, rfl, Br.of (fun h1 => ?_) (fun h1 => ?_)⟩
    · refine ⟨?_, (hp.trans hp1).trans hp2⟩
      rw [h1, Bool.true_or] at hany
      simp [largeB, hany]
    · rw [h1, Bool.false_or] at hany
      have hpl := hM1.procs.len
      have hpm := hM1.procs.lim
      show J _ _
      rw [wrap_in (n := (k : Int) + 1) (by omega) (by omega)]
      refine hJ _ _ hlt' ⟨(hp.trans hp1).trans hp2, rfl, hany, fun h32 => ?_⟩
      obtain ⟨e1, e2⟩ := hn (by omega)
      have e1 : n3 = ((nprocs (l.take k) : Nat) : Int) := e1
      rw [nprocs_take hm]
      refine ⟨?_, by omega⟩
      show IntKind.i64.wrap _ = _
      rw [e1, wrap_in (by omega) (by omega)]
      omega
  · have hge' : ¬ k < l.length := by have := dfalse hge; omega
    rw [drop_end hge', List.any_nil] at hany
    refine Br.of (fun h1 => ?_) (fun h1 => ?_)
    · refine ⟨?_, hp⟩
      have h1 : 32 < l.length := by have := dtrue h1; omega
      simp [largeB, h1]
    · refine ⟨?_, hp⟩
      have h1 : ¬ 32 < l.length := by have := dfalse h1; omega
      obtain ⟨e1, _⟩ := hn (by omega)
      have e1 : n3 = ((nprocs (l.take k) : Nat) : Int) := e1
      rw [take_end hk hge'] at e1
      have : decide (n3 > 100) = decide (100 < nprocs l) := by rw [e1]; congr 1; exact propext ⟨fun h => by omega, fun h => by omega⟩
      rw [this]; simp [largeB, hany, h1]

/-! ### Right? -/
theorem wrongName_c (w : World) (s : ByteArray) (hs : s.size ≤ 140737488355328) : Calls Try.prog 93 #[.string s] w fun e w' => e = .returned (.bool (!nameB s)) ∧ Pu w w' := by
  refine F93_calls s w _ ?_
  refine Calls.mono (isName_c w s hs) ?_
  rintro e w' ⟨rfl, hp⟩
  exact ⟨_, rfl, rfl, hp⟩
theorem wrongSize_c (w : World) (n : Int) : Calls Try.prog 96 #[.int .i64 n] w fun e w' => e = .returned (.bool (!sizeOk n)) ∧ Pu w w' := by
  refine F96_calls n w _ ?_
  refine Br.of (fun h1 => ?_) (fun h1 => ?_)
  · refine ⟨?_, Pu.refl w⟩
    have h1 := dtrue h1
    have : ¬ 1 ≤ n := by omega
    simp [sizeOk, this]
  · refine ⟨?_, Pu.refl w⟩
    have h1 := dfalse h1
    have : 1 ≤ n := by omega
    by_cases h2 : n ≤ 10000
    · simp [sizeOk, this, h2]
    · simp [sizeOk, this, h2]; omega
theorem any_not {α : Type} (p : α → Bool) (l : List α) : (l.any fun x => !p x) = !l.all p := by
  induction l with
  | nil => rfl
  | cons x r ih => simp [ih, Bool.not_and]

theorem isRight_c (w : World) (m : Mod) (p z c : SV) (hM : RdMod w m p z c) (hL : Lim.ok m) : Calls Try.prog 49 #[.agg #[.string m.name, .int .i64 m.ov, .slice p.a p.len p.cap, .slice z.a z.len z.cap, .slice c.a c.len c.cap]] w fun e w' => e = .returned (.bool (rightB m)) ∧ Pu w w' := by
  refine F49_calls _ _ _ _ _ w _ ?_
  obtain ⟨hl0, hl1, hl2, hl3⟩ : Lim.ok m.name ∧ Lim.ok m.procs ∧ Lim.ok m.sizes ∧ Lim.ok m.calls := hL
  refine alE_intro fun w1 hw1 => ?_
  have hp1 : Pu w w1 := by rw [hw1]; exact Pu.alloc w _
  have hb1 : w1.heap[w.heap.size]? = some (.cells #[.string m.name, .int .i64 m.ov, .slice p.a p.len p.cap, .slice z.a z.len z.cap, .slice c.a c.len c.cap] 33) := by rw [hw1]; exact alloc_new w _
  refine ⟨c, by rw [add_def, cell_blk hb1]; rfl, ?_⟩
  have hlen := hM.calls.len
  have hlim := hM.calls.lim
  refine loopUp m.calls.length (fun k t w' => Pu w1 w' ∧ t = (k : Int) ∧ m.calls.all (·.all nameB) = (m.calls.drop k).all (·.all nameB)) ⟨Pu.refl w1, rfl, rfl⟩ ?_
  rintro k J t w' hk ⟨hp, rfl, hall⟩ hJ
  refine Br.of (fun hlt => ?_) (fun hge => ?_)
  · have hlt' : k < m.calls.length := by have := dtrue hlt; omega
    obtain ⟨x, hx⟩ := at_k hlt'
    obtain ⟨a, t, ha, hi, hc, ht⟩ := listAt (hM.calls.pu (hp1.trans hp)) hx
    rw [drop_at hx, List.all_cons] at hall
    refine ⟨a, ha, by omega, by omega, t, by simpa using hc, ?_⟩
    refine Calls.mono (containsFunc_strs w' t x ht 93 #[] (fun s => !nameB s) (by kernel_rfl) fun w'' s hs _ => wrongName_c w'' s (hl3 x (List.mem_of_getElem? hx) s hs)) ?_
    rintro e w2 ⟨rfl, hp2⟩
    refine ⟨_, rfl, ?_⟩
    rw [any_not]
    refine Br.of (fun h1 => ?_) (fun h1 => ?_)
    · refine ⟨?_, hp1.trans (hp.trans hp2)⟩
      have h1 : x.all nameB = false := by simpa using h1
      rw [h1, Bool.false_and] at hall
      rw [rightB, hall, Bool.and_false]
    · have h1 : x.all nameB = true := by simpa using h1
      rw [h1, Bool.true_and] at hall
      show J _ _
      rw [wrap_in (by omega) (by omega)]
      exact hJ _ _ hlt' ⟨hp.trans hp2, rfl, hall⟩
  · have hge' : ¬ k < m.calls.length := by have := dfalse hge; omega
    rw [drop_end hge', List.all_nil] at hall
    have hP : Pu w w' := hp1.trans hp
    have hb := hp.blk hb1
    refine ⟨m.name, by rw [cell_blk hb]; rfl, ?_⟩
    refine Calls.mono (isName_c w' m.name hl0) ?_
    rintro e w2 ⟨rfl, hp2⟩
    have hb2 := hp2.blk hb
    refine ⟨_, rfl, Br.of (fun h1 => ?_) (fun h1 => ⟨by simp [rightB, h1], hP.trans hp2⟩)⟩
    refine ⟨m.ov, by rw [add_def, cell_blk hb2]; rfl, Br.of (fun h2 => ?_) (fun h2 => ⟨?_, hP.trans hp2⟩)⟩
    · have h2 := dtrue h2
      refine ⟨m.ov, by rw [add_def, cell_blk hb2]; rfl, Br.of (fun h3 => ?_) (fun h3 => ⟨?_, hP.trans hp2⟩)⟩
      · have h3 := dtrue h3
        refine ⟨p, by rw [add_def, cell_blk hb2]; rfl, ?_⟩
        refine Calls.mono (containsFunc_strs w2 p m.procs (hM.procs.pu (hP.trans hp2)) 93 #[] (fun s => !nameB s) (by kernel_rfl) fun w'' s hs _ => wrongName_c w'' s (hl1 s hs)) ?_
        rintro e w3 ⟨rfl, hp3⟩
        have hb3 := hp3.blk hb2
        refine ⟨_, rfl, ?_⟩
        rw [any_not, Bool.not_not]
        refine Br.of (fun h4 => ?_) (fun h4 => ⟨by simp [rightB, h4], (hP.trans hp2).trans hp3⟩)
        refine ⟨z, by rw [add_def, cell_blk hb3]; rfl, ?_⟩
        refine Calls.mono (containsFunc_ints w3 z m.sizes (hM.sizes.pu ((hP.trans hp2).trans hp3)) 96 #[] (fun n => !sizeOk n) (by kernel_rfl) fun w'' n hn _ => wrongSize_c w'' n) ?_
        rintro e w4 ⟨rfl, hp4⟩
        refine ⟨_, rfl, ?_, ((hP.trans hp2).trans hp3).trans hp4⟩
        rw [any_not, Bool.not_not]
        simp [rightB, h1, h2, h3, h4, hall]
      · have h3 := dfalse h3
        have : ¬ m.ov ≤ 15 := by omega
        simp [rightB, this]
    · have h2 := dfalse h2
      have : ¬ 0 ≤ m.ov := by omega
      simp [rightB, this]
end Go.Proofs.Ytcnenlmhbpijlaa
