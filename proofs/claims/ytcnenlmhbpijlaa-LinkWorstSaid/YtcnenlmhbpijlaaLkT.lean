import Derived.Test.YtcnenlmhbpijlaaLkS
import Derived.Test.YtcnenlmhbpijlaaLkFloads
/- Link: the reference's Loads. No condition but the reach's. -/
set_option maxRecDepth 100000
set_option linter.unusedVariables false
set_option linter.unusedSimpArgs false
namespace Go.Proofs.Ytcnenlmhbpijlaa
open Go.Sh Go.RowKit

theorem u30 : Try.prog.underlying 30 = some (.slice 3) := by kernel_rfl
theorem info3 : (Try.prog.info? 3).map (fun i => (i.zero, i.size, i.bytes)) = some (some (.int .i64 0), 1, 8) := by kernel_rfl

/-- Of modules that fit whatever is called is there, and no overlay is below 0. -/
theorem open_in {l : List Mod} (h : openE l = 0) {x y : ByteArray} (hy : y ∈ (getD (PL l) x).2) : isIn (PL l) y = true := by
  have hv := open_valid h
  have hm : (missS (PL l)).length = 0 := by
    unfold openE at h
    rw [if_pos hv] at h
    split at h
    · assumption
    · cases h
  cases hi : isIn (PL l) y with
  | true => rfl
  | false =>
    exfalso
    have : y ∈ missL (PL l) := by
      rw [mem_missL]
      unfold getD at hy
      cases hg : AL.get (PL l) x with
      | none => rw [hg] at hy; simp at hy
      | some p =>
        rw [hg] at hy
        exact ⟨(x, p), AL.get_mem hg, hy, hi⟩
    have h2 : y ∈ missS (PL l) := mem_setS.2 this
    rw [List.eq_nil_of_length_eq_zero hm] at h2
    simp at h2
theorem getD_ov {l : List Mod} (h : validS l = 0) (x : ByteArray) : 0 ≤ (getD (PL l) x).1 ∧ (getD (PL l) x).1 ≤ 15 := by
  unfold getD
  cases hg : AL.get (PL l) x with
  | none => simp
  | some p =>
    obtain ⟨m, hm, _, ho, _⟩ := PL_mem (AL.get_mem hg)
    have := right_size ((fits_of h).right m hm)
    have ho : p.1 = m.ov := ho
    show 0 ≤ p.1 ∧ p.1 ≤ 15
    omega

abbrev stV (R : List RP) (stk : List ByteArray) : List Value := stk.reverse.map fun x => Value.int .i64 (findS R x)
theorem stV_cons (R : List RP) (x : ByteArray) (stk : List ByteArray) : stV R (x :: stk) = stV R stk ++ [.int .i64 (findS R x)] := by simp [stV]
theorem row_pop' {w : World} {s : SV} {vs : List Value} {v : Value} (h : RowAt w 3 1 s (vs ++ [v])) : RowAt w 3 1 ⟨s.a, s.len - 1, s.cap⟩ vs := row_pop h
theorem topInt {w : World} {s : SV} {R : List RP} {rest : List ByteArray} {top : ByteArray} (h : RowAt w 3 1 s (stV R (top :: rest))) (hr : rest.length ≤ 100000) : s.len = rest.length + 1 ∧ (IntKind.i64.wrap (((s.len : Nat) : Int) - 1)) = ((rest.length : Nat) : Int) ∧ ∃ a, s.a = some a ∧ w.cell? (a.add (rest.length * 1)) = some (.int .i64 (findS R top)) := by
  have hl : s.len = rest.length + 1 := by have := h.1; simp at this; omega
  obtain ⟨a, ha, hc, _⟩ := h.cell (j := rest.length) (v := .int .i64 (findS R top)) (by simp)
  exact ⟨hl, by rw [wrap_in (by omega) (by omega)]; omega, a, ha, by rw [Nat.mul_one]; exact hc⟩

set_option maxHeartbeats 2000000 in
theorem rLoads_c (w : World) (s : SV) (l : List Mod) (hl : RdSl w s l) (name : ByteArray) (sw : SV) (walk : List ByteArray) (hw : RdSl w sw walk) :
    Calls Try.prog 19 #[.slice s.a s.len s.cap, .string name, .slice sw.a sw.len sw.cap] w fun e w' => e = .returned (.tuple #[.int .i64 (loadsS l name walk).1, .int .i64 (loadsS l name walk).2]) ∧ Pu w w' := by
  refine F19_calls s name sw w _ ?_
  refine Calls.mono (rFrom_c w s l hl name) ?_
  rintro e w1 ⟨t8, n0, rfl, hp1, hO⟩
  refine ⟨t8, n0, _, rfl, Br.of (fun h1 => ?_) (fun h1 => ?_)⟩
  · have h1 : fromE l name ≠ 0 := by simpa using h1
    exact ⟨by rw [loadsS, if_neg h1], hp1⟩
  have h1 : fromE l name = 0 := by simpa using h1
  have hwl := hw.len
  refine Br.of (fun h2 => ?_) (fun h2 => ?_)
  · have h2 := dtrue h2
    exact ⟨by rw [loadsS, if_pos h1, if_pos (by omega)], hp1⟩
  have h2 := dfalse h2
  have hS : loadsS l name walk = match walkS (PL l) [name] (enterR (getD (PL l) name).1 (0, 0)) walk with
    | some r => (r.2, 0)
    | none => (0, 7) := by rw [loadsS, if_pos h1, if_neg (by omega)]; rfl
  obtain ⟨hR, rfl⟩ := hO h1
  obtain ⟨ho, hin0⟩ := from_open h1
  have hv := open_valid ho
  have hF := fits_of hv
  have hdat := RL_dat hF.sizes
  have hRl : (RL l).length ≤ 100 := by rw [RL_len hF]; exact hF.procs
  have hRlen := hR.len
  refine alE_intro fun w2 hw2 => ?_
  have hp2 : Pu w1 w2 := by rw [hw2]; exact Pu.alloc w1 _
  have hb2 : w2.heap[w1.heap.size]? = some (.cells #[.int .i64 (findS (RL l) name)] 3) := by rw [hw2]; exact alloc_new w1 _
  have hrow2 : RowAt w2 3 1 ⟨some ⟨w1.heap.size, 0, none⟩, 1, 1⟩ (stV (RL l) [name]) := ⟨by simp, .inr ⟨w1.heap.size, _, rfl, hb2, Nat.le_refl _, by show 1 ≤ maxLen; unfold maxLen; omega, rfl, rfl⟩⟩
  -- a procedure by its number
  have proc : ∀ {w' : World}, Pu w1 w' → ∀ x, isIn (PL l) x = true → ∃ k : Nat, findS (RL l) x = (k : Int) ∧ k < t8.len ∧ ∃ a t, t8.a = some a ∧ RdSl w' t (getD (PL l) x).2 ∧ w'.cell? ((a.add (k * 4)).add 1) = some (.int .i64 (getD (PL l) x).1) ∧ w'.cell? ((a.add (k * 4)).add 3) = some (.slice t.a t.len t.cap) := fun {w'} hp x hx => by
    rw [← hdat] at hx
    obtain ⟨k, r, e1, e2, _, e4⟩ := findS_at hx
    obtain ⟨a, t, ha, hi, ht, c0, c1, c2, c3⟩ := rpAt (hR.pu hp) e2
    rw [hdat] at e4
    have e5 : r.ov = (getD (PL l) x).1 := by rw [← e4]
    have e6 : r.calls = (getD (PL l) x).2 := by rw [← e4]
    rw [e5] at c1
    rw [e6] at ht
    exact ⟨k, e1, hi, a, t, ha, ht, c1, c3⟩
  refine loopUp (walk.length + 1) (fun k t w' => ∃ (stk : List ByteArray) (r : Int × Int), t.2.1 = r.1 ∧ t.2.2.1 = r.2 ∧ t.2.2.2 = (k : Int) - 1 ∧ Pu w1 w' ∧ RowAt w' 3 1 t.1 (stV (RL l) stk) ∧ stk ≠ [] ∧ stk.length ≤ k + 1 ∧ (∀ x ∈ stk, isIn (PL l) x = true) ∧ (∀ i ∈ blkOf t.1, w1.heap.size ≤ i) ∧ 0 ≤ r.2 ∧ r.2 ≤ k ∧
      ((k = 0 ∧ stk = [name] ∧ r = (0, 0)) ∨ (k ≠ 0 ∧ walkS (PL l) [name] (enterR (getD (PL l) name).1 (0, 0)) walk = walkS (PL l) stk r (walk.drop (k - 1)))))
    ⟨[name], (0, 0), rfl, rfl, by simp, hp2, hrow2, by simp, by simp, by simpa using hin0, by simp [blkOf], by simp, by simp, .inl ⟨rfl, rfl, rfl⟩⟩ ?_
  rintro k J ⟨l11, n12, n13, t⟩ w3 hk ⟨stk, r, e12, e13, ht, hp3, hrow3, hne, hsl, hins, hf3, hr0, hr1, hcase⟩ hJ
  obtain rfl : n12 = r.1 := e12
  obtain rfl : n13 = r.2 := e13
  obtain rfl : t = (k : Int) - 1 := ht
  have hrow3 : RowAt w3 3 1 l11 (stV (RL l) stk) := hrow3
  have hf3 : ∀ i ∈ blkOf l11, w1.heap.size ≤ i := hf3
  dsimp only
  refine Br.of (fun hlt => ?_) (fun hge => ?_)
  · have hlt' : k < walk.length + 1 := by have := dtrue hlt; omega
    obtain ⟨top, rest, rfl⟩ : ∃ top rest, stk = top :: rest := by cases stk with
      | nil => exact absurd rfl hne
      | cons t r => exact ⟨t, r, rfl⟩
    have hsl : rest.length + 1 ≤ k + 1 := hsl
    obtain ⟨hl11, hwr, a16, ha16, hc16⟩ := topInt hrow3 (by omega)
    have hl11 : l11.len = rest.length + 1 := hl11
    have htop := hins top List.mem_cons_self
    refine ⟨a16, ha16, by rw [hwr]; omega, by rw [hwr]; omega, findS (RL l) top, by rw [hwr, Int.toNat_natCast]; exact hc16, ?_⟩
    -- the round's end
    have fin : ∀ (w4 : World) (l' : SV) (t2 : ByteArray) (rest2 : List ByteArray), Pu w1 w4 → RowAt w4 3 1 l' (stV (RL l) (t2 :: rest2)) → rest2.length + 1 ≤ k + 2 → (∀ x ∈ t2 :: rest2, isIn (PL l) x = true) → (∀ i ∈ blkOf l', w1.heap.size ≤ i) →
        walkS (PL l) [name] (enterR (getD (PL l) name).1 (0, 0)) walk = walkS (PL l) (t2 :: rest2) (enterR (getD (PL l) t2).1 r) (walk.drop k) →
        F19_3 (fun e w' => e = .returned (.tuple #[.int .i64 (loadsS l name walk).1, .int .i64 (loadsS l name walk).2]) ∧ Pu w w') J sw t8 l' r.1 r.2 ((k : Int) - 1) [] w4 := fun w4 l' t2 rest2 hp4 hrow4 hlen4 hin4 hf4 hwk => by
      obtain ⟨hl', hwr', a2, ha2, hc2⟩ := topInt hrow4 (by omega)
      have hl' : l'.len = rest2.length + 1 := hl'
      obtain ⟨kk, hkk, hklt, a3, t3, ha3, ht3, hc3, _⟩ := proc hp4 t2 (hin4 t2 List.mem_cons_self)
      have hov := getD_ov hv t2
      refine ⟨a2, ha2, by rw [hwr']; omega, by rw [hwr']; omega, findS (RL l) t2, by rw [hwr', Int.toNat_natCast]; exact hc2, a3, ha3, by omega, by omega, (getD (PL l) t2).1, by rw [hkk, Int.toNat_natCast]; exact hc3, ?_⟩
      have go : ∀ q : Int × Int, enterR (getD (PL l) t2).1 r = q → J (l', q.1, q.2, IntKind.i64.wrap ((k : Int) - 1 + 1)) w4 := fun q hq => by
        rw [wrap_in (by omega) (by omega)]
        have hs := enterR_snd (ov := (getD (PL l) t2).1) hr0
        rw [hq] at hs hwk
        refine hJ _ _ hlt' ⟨t2 :: rest2, q, rfl, rfl, ?_, hp4, hrow4, by simp, ?_, hin4, hf4, by omega, ?_, .inr ⟨by omega, ?_⟩⟩
        · show (k : Int) - 1 + 1 = ((k + 1 : Nat) : Int) - 1; omega
        · show rest2.length + 1 ≤ k + 1 + 1; omega
        · show q.2 ≤ ((k + 1 : Nat) : Int); omega
        · rw [hwk, Nat.add_sub_cancel]
      refine Br.of (fun h3 => ?_) (fun h3 => ?_)
      · have h3 := dtrue h3
        refine Br.of (fun h4 => ?_) (fun h4 => ?_)
        · have h4 : (getD (PL l) t2).1 ≠ r.1 := by simpa using h4
          show J _ _
          rw [wrap_in (n := r.2 + 1) (by omega) (by omega)]
          exact go _ (by rw [enterR, if_neg (by omega), if_neg h4])
        · have h4 : (getD (PL l) t2).1 = r.1 := by simpa using h4
          exact go r (by rw [enterR, if_neg (by omega), if_pos h4])
      · have h3 := dfalse h3
        exact go r (by rw [enterR, if_pos (by omega)])
    refine Br.of (fun h3 => ?_) (fun h3 => ?_)
    · have h3 := dtrue h3
      have hk0 : k = 0 := by omega
      rcases hcase with ⟨_, e1, e2⟩ | ⟨h, _⟩
      case inr => exact absurd hk0 h
      obtain ⟨rfl, rfl⟩ : top = name ∧ rest = [] := by simpa using e1
      subst hk0
      exact fin w3 l11 top [] hp3 hrow3 (by simp) hins hf3 (by rw [e2]; rfl)
    have h3 := dfalse h3
    have hk1 : 1 ≤ k := by omega
    rcases hcase with ⟨h, _⟩ | ⟨_, hres⟩
    · omega
    have hkm : k - 1 < walk.length := by omega
    obtain ⟨x, hx⟩ := at_k hkm
    have hdr := drop_at hx
    rw [show k - 1 + 1 = k by omega] at hdr
    rw [hdr, walkS_cons] at hres
    obtain ⟨a15, ha15, hi15, hc15⟩ := (hw.pu (hp1.trans hp3)).str hx
    have hkt : ((k : Int) - 1).toNat = k - 1 := by omega
    refine ⟨a15, ha15, by omega, by omega, x, by rw [hkt]; exact hc15, ?_⟩
    have bad : ∀ w4, Pu w1 w4 → walkS (PL l) [name] (enterR (getD (PL l) name).1 (0, 0)) walk = none → (Ending.returned (.tuple #[.int .i64 0, .int .i64 7]) = .returned (.tuple #[.int .i64 (loadsS l name walk).1, .int .i64 (loadsS l name walk).2]) ∧ Pu w w4) := fun w4 h4 hn => by
      rw [hn] at hS
      exact ⟨by rw [hS], hp1.trans h4⟩
    rw [beq_bytes']
    refine Br.of (fun h4 => ?_) (fun h4 => ?_)
    · have hx0 : x = noName := dtrue h4
      rw [if_pos hx0] at hres
      have hcap := hrow3.le_cap
      have hcap : l11.len ≤ l11.cap ∧ l11.cap ≤ maxLen := hcap
      have eA : (if l11.cap = 0 then l11.a else l11.a.map (fun x => x.add (0 * 1))) = l11.a := by
        split
        · rfl
        · simp [Addr.add]
      refine ⟨by rw [hwr]; omega, by rw [hwr]; omega, by omega, ?_⟩
      rw [hwr, eA]
      refine Br.of (fun h5 => ?_) (fun h5 => ?_)
      · have h5 : rest.length = 0 := by
          have : (((((rest.length : Nat) : Int).toNat - 0 : Nat)) : Int) = 0 := by simpa using h5
          omega
        have : rest = [] := List.eq_nil_of_length_eq_zero h5
        subst this
        exact bad w3 hp3 hres
      · have h5 : rest.length ≠ 0 := by
          have : ¬ (((((rest.length : Nat) : Int).toNat - 0 : Nat)) : Int) = 0 := by simpa using h5
          omega
        obtain ⟨t2, r2, rfl⟩ : ∃ t2 r2, rest = t2 :: r2 := by cases rest with
          | nil => exact absurd rfl h5
          | cons t r => exact ⟨t, r, rfl⟩
        have hlc : (((t2 :: r2).length : Nat) : Int).toNat - 0 = l11.len - 1 := by simp only [Int.toNat_natCast]; omega
        rw [hlc]
        exact fin w3 ⟨l11.a, l11.len - 1, l11.cap⟩ t2 r2 hp3 (by
          rw [stV_cons] at hrow3
          exact row_pop' hrow3) (by simp only [List.length_cons] at hsl; omega) (fun y hy => hins y (List.mem_cons_of_mem _ hy)) hf3 hres
    · have hx0 : x ≠ noName := dfalse h4
      rw [if_neg hx0] at hres
      obtain ⟨kk, hkk, hklt, a10, t10, ha10, ht10, _, hc10⟩ := proc hp3 top htop
      rw [hkk]
      have htl := ht10.len
      have htlim := ht10.lim
      refine loopUp (getD (PL l) top).2.length (fun j t w' => Pu w3 w' ∧ t.2 = (j : Int) ∧ t.1 = has ((getD (PL l) top).2.take j) x) ⟨Pu.refl _, rfl, rfl⟩ ?_
      rintro j J2 ⟨b16, t⟩ w4 hj ⟨hp4, ht, hb16⟩ hJ2
      obtain rfl : t = (j : Int) := ht
      obtain rfl : b16 = has ((getD (PL l) top).2.take j) x := hb16
      dsimp only
      have has_snoc : ∀ (L : List ByteArray) (y : ByteArray), has (L ++ [y]) x = (has L x || decide (y = x)) := fun L y => by simp [has, List.any_append]
      refine ⟨a10, ha10, by omega, by omega, t10, by rw [Int.toNat_natCast]; exact hp4.cell hc10, Br.of (fun hlt2 => ?_) (fun hge2 => ?_)⟩
      · have hlt2' : j < (getD (PL l) top).2.length := by have := dtrue hlt2; omega
        obtain ⟨y, hy⟩ := at_k hlt2'
        obtain ⟨a13, ha13, hi13, hc13⟩ := ht10.str hy
        refine dwE_intro fun w5 hp5 hh5 => ?_
        have hP5 := hp4.trans hp5
        rw [wrap_in (by omega) (by omega)]
        refine Br.of (fun h5 => ?_) (fun h5 => ?_)
        · exact hJ2 _ _ hlt2' ⟨hP5, rfl, by rw [take_at hy, has_snoc, h5]; rfl⟩
        · refine ⟨a10, ha10, by omega, by omega, t10, by rw [Int.toNat_natCast]; exact hP5.cell hc10, a13, ha13, by omega, by omega, y, by simpa using hP5.cell hc13, a15, ha15, by omega, by omega, x, by rw [hkt]; exact hP5.cell hc15, ?_⟩
          rw [beq_bytes']
          exact hJ2 _ _ hlt2' ⟨hP5, rfl, by rw [take_at hy, has_snoc, h5]; rfl⟩
      · have hge2' : ¬ j < (getD (PL l) top).2.length := by have := dfalse hge2; omega
        rw [take_end hj hge2']
        have hP4 := hp3.trans hp4
        refine Br.of (fun h5 => ?_) (fun h5 => ?_)
        · have h5 : has (getD (PL l) top).2 x = false := by simpa using h5
          rw [h5, if_neg (by simp)] at hres
          exact bad w4 hP4 hres
        · have h5 : has (getD (PL l) top).2 x = true := by simpa using h5
          rw [h5, if_pos rfl] at hres
          refine ⟨a15, ha15, by omega, by omega, x, by rw [hkt]; exact hp4.cell hc15, ?_⟩
          refine Calls.mono (find_c w4 t8 (RL l) (hR.pu hP4) x) ?_
          rintro e w5 ⟨rfl, rfl⟩
          refine ⟨_, rfl, ?_⟩
          refine alE_intro fun w6 hw6 => ?_
          have hp6 : Pu w5 w6 := by rw [hw6]; exact Pu.alloc w5 _
          have hn6 : w6.heap[w5.heap.size]? = some (.cells #[.int .i64 (findS (RL l) x)] 3) := by rw [hw6]; exact alloc_new w5 _
          obtain ⟨l82, w7, hra, hrow7, hf7, hblk7, hlen7⟩ := row_push (P := Try.prog) (ty := 30) (t := 30) u30 info3 rfl (s := l11) ((hrow3.pu hp4).pu hp6) (a := ⟨w5.heap.size, 0, none⟩) (u := .int .i64 (findS (RL l) x)) (by rw [cell_blk hn6]; rfl) rfl (by omega)
          refine ⟨l82, w7, hra, ?_⟩
          have hs4 := hP4.size
          have hs6 := hp6.size
          have hinx : isIn (PL l) x = true := open_in ho (has_iff.1 h5)
          refine fin w7 l82 x (top :: rest) (Pu.andNew (hP4.trans hp6) hf7 hf3) (by rw [stV_cons]; exact hrow7) (by simp only [List.length_cons]; omega) (fun y hy => ?_) (fun i hi => ?_) hres
          · rcases List.mem_cons.1 hy with rfl | h
            · exact hinx
            · exact hins y h
          · rcases hblk7 i hi with h | h
            · exact hf3 i h
            · omega
  · have hge' : ¬ k < walk.length + 1 := by have := dfalse hge; omega
    have hk' : k = walk.length + 1 := by omega
    rcases hcase with ⟨h, _⟩ | ⟨_, hres⟩
    · omega
    rw [hk', Nat.add_sub_cancel, List.drop_length, walkS] at hres
    rw [hres] at hS
    exact ⟨by rw [hS], hp1.trans hp3⟩

theorem loads_k (w : World) (s : SV) (l : List Mod) (hl : RdSl w s l) (hL : Lim.ok l) (name : ByteArray) (hn : Lim.ok name) (sw : SV) (walk : List ByteArray) (hw : RdSl w sw walk) (_ : Lim.ok walk) :
    Calls Try.prog 4 #[.slice s.a s.len s.cap, .string name, .slice sw.a sw.len sw.cap] w fun e w' => e = .returned (.bool true) ∧ Pu w w' := by
  refine F4_calls s name sw w _ ?_
  have kn : ∀ w1, Pu w w1 → Calls Try.prog 16 #[] w1 fun e w2 => ∃ b99 : Bool, e = .returned (.bool b99) ∧ runD Try.prog [] w2 fun w3 => (Ending.returned (.bool b99) = .returned (.bool true) ∧ Pu w w3) := fun w1 hp => by
    refine Calls.mono (known_c w1) ?_
    rintro e w2 ⟨rfl, hp2⟩
    exact ⟨true, rfl, rfl, hp.trans hp2⟩
  refine Calls.mono (over_c w s l hl) ?_
  rintro e w1 ⟨b, rfl, hp1, hov⟩
  refine ⟨b, rfl, Br.of (fun _ => kn w1 hp1) (fun h1 => ?_)⟩
  refine Br.of (fun _ => kn w1 hp1) (fun _ => ?_)
  refine Calls.mono (heavy_c w1 sw walk (hw.pu hp1)) ?_
  rintro e w1' ⟨⟨n26, rfl⟩, rfl⟩
  refine ⟨n26, rfl, Br.of (fun _ => kn w1' hp1) (fun _ => ?_)⟩
  refine Calls.mono (loads_c w1' s l (hl.pu hp1) hL name sw walk (hw.pu hp1)) ?_
  rintro e w2 ⟨rfl, hp2⟩
  refine ⟨_, _, rfl, ?_⟩
  refine Calls.mono (rLoads_c w2 s l (hl.pu (hp1.trans hp2)) name sw walk (hw.pu (hp1.trans hp2))) ?_
  rintro e w3 ⟨rfl, hp3⟩
  exact ⟨_, _, rfl, Br.t (by simp) (Br.t (by simp) (kn w3 ((hp1.trans hp2).trans hp3)))⟩
end Go.Proofs.Ytcnenlmhbpijlaa
