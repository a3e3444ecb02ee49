import Derived.Test.YtcnenlmhbpijlaaLkH
/- Link: the loads of a walk. No condition but the reach's. -/
set_option maxRecDepth 100000
set_option linter.unusedVariables false
set_option linter.unusedSimpArgs false
namespace Go.Proofs.Ytcnenlmhbpijlaa
open Go.Sh Go.RowKit

abbrev noName : ByteArray := ⟨#[]⟩
/-- A walk from a stack (the top first) and a room. -/
def walkS (D : List PDat) : List ByteArray → Int × Int → List ByteArray → Option (Int × Int)
  | _, r, [] => some r
  | [], _, _ :: _ => none
  | top :: rest, r, s :: ws => if s = noName then (match rest with
      | [] => none
      | t2 :: r2 => walkS D (t2 :: r2) (enterR (getD D t2).1 r) ws)
    else if has (getD D top).2 s then walkS D (s :: top :: rest) (enterR (getD D s).1 r) ws else none
theorem walkS_cons (D : List PDat) (top : ByteArray) (rest : List ByteArray) (r : Int × Int) (s : ByteArray) (ws : List ByteArray) : walkS D (top :: rest) r (s :: ws) = if s = noName then (match rest with
      | [] => none
      | t2 :: r2 => walkS D (t2 :: r2) (enterR (getD D t2).1 r) ws)
    else if has (getD D top).2 s then walkS D (s :: top :: rest) (enterR (getD D s).1 r) ws else none := by
  cases rest <;> rfl
def loadsS (l : List Mod) (name : ByteArray) (walk : List ByteArray) : Int × Int :=
  if fromE l name = 0 then (if 1000 < walk.length then (0, 3) else match walkS (PL l) [name] (enterR (getD (PL l) name).1 (0, 0)) walk with
    | some r => (r.2, 0)
    | none => (0, 7))
  else (0, fromE l name)

theorem beq_bytes' (s t : ByteArray) : (s.toList == t.toList) = decide (s = t) := by rw [← beq_toListBytes, beq_bytes]
theorem row_pop {w : World} {e : TypeId} {s : SV} {vs : List Value} {v : Value} (h : RowAt w e 1 s (vs ++ [v])) : RowAt w e 1 ⟨s.a, s.len - 1, s.cap⟩ vs := by
  obtain ⟨h1, rfl | ⟨g, cur, h3, h4, h5, h6, h7, h8⟩⟩ := h
  · simp at h1
  · have hl : s.len = vs.length + 1 := by simp at h1; omega
    refine ⟨by simp; omega, .inr ⟨g, cur, h3, h4, by show s.len - 1 ≤ s.cap; omega, h6, h7, ?_⟩⟩
    have := congrArg (fun l => l.take vs.length) h8
    simp only [List.take_take, List.take_left] at this
    show List.take ((s.len - 1) * 1) _ = _
    rw [Nat.min_eq_left (by omega)] at this
    rw [show (s.len - 1) * 1 = vs.length by omega]
    exact this
theorem enterR_snd {ov : Int} {r : Int × Int} (h : 0 ≤ r.2) : r.2 ≤ (enterR ov r).2 ∧ (enterR ov r).2 ≤ r.2 + 1 := by
  unfold enterR
  split
  · omega
  · split
    · omega
    · simp; omega

theorem top_of {w : World} {s : SV} {rest : List ByteArray} {top : ByteArray} (h : RowAt w 9 1 s (strV (top :: rest).reverse)) : s.len = rest.length + 1 ∧ ∃ a, s.a = some a ∧ w.cell? (a.add ((IntKind.i64.wrap (((s.len : Nat) : Int) - 1)).toNat * 1)) = some (.string top) := by
  have hl : s.len = rest.length + 1 := by have := h.1; simp at this; omega
  have hm := h.le_cap
  have hml : maxLen = 9223372036854775807 := by unfold maxLen; omega
  obtain ⟨a, ha, hc, _⟩ := h.cell (j := rest.length) (v := .string top) (by simp)
  refine ⟨hl, a, ha, ?_⟩
  rw [wrap_in (by omega) (by omega), show (((s.len : Nat) : Int) - 1).toNat * 1 = rest.length by omega]
  exact hc

set_option maxHeartbeats 2000000 in
theorem loads_c (w : World) (s : SV) (l : List Mod) (hl : RdSl w s l) (hL : Lim.ok l) (name : ByteArray) (sw : SV) (walk : List ByteArray) (hw : RdSl w sw walk) :
    Calls Try.prog 17 #[.slice s.a s.len s.cap, .string name, .slice sw.a sw.len sw.cap] w fun e w' => e = .returned (.tuple #[.int .i64 (loadsS l name walk).1, .int .i64 (loadsS l name walk).2]) ∧ Pu w w' := by
  refine F17_calls s name sw w _ ?_
  refine Calls.mono (openFrom_c w s l hl hL name) ?_
  rintro e w1 ⟨m, rfl, hp1, hO⟩
  refine ⟨m, _, rfl, Br.of (fun h1 => ?_) (fun h1 => ?_)⟩
  · have h1 : fromE l name ≠ 0 := by simpa using h1
    exact ⟨by rw [loadsS, if_neg h1], hp1⟩
  have h1 : fromE l name = 0 := by simpa using h1
  have hwl := hw.len
  refine Br.of (fun h2 => ?_) (fun h2 => ?_)
  · have h2 := dtrue h2
    exact ⟨by rw [loadsS, if_pos h1, if_pos (by omega)], hp1⟩
  have h2 := dfalse h2
  have hS : loadsS l name walk = match walkS (PL l) [name] (enterR (getD (PL l) name).1 (0, 0)) walk with
    | some r => (r.2, 0)
    | none => (0, 7) := by rw [loadsS, if_pos h1, if_neg (by omega)]
  obtain ⟨b, L, rfl, hM, hR⟩ := hO h1
  refine alE_intro fun w2 hw2 => ?_
  have hp2 : Pu w1 w2 := by rw [hw2]; exact Pu.alloc w1 _
  have hb2 : w2.heap[w1.heap.size]? = some (.cells #[.string name] 9) := by rw [hw2]; exact alloc_new w1 _
  refine ⟨_, _, w2, (look57 (hM.pu hp2) name).2, ?_⟩
  have hov : ∀ x, (getL L x).1 = (getD (PL l) x).1 := fun x => (hR.get x).2.1
  rw [hov]
  refine Calls.mono (enter_c w2 (0, 0) (getD (PL l) name).1 (by simp) (by simp)) ?_
  rintro e w3 ⟨rfl, hp3⟩
  refine ⟨_, _, rfl, ?_⟩
  refine boxA (by rfl) (by kernel_rfl) (by rfl) fun w4 hp4 hs4 hb4 => ?_
  have hbl := hM.lt
  have hs12 := hp2.size
  have hs23 := hp3.size
  have hs2 : w2.heap.size = w1.heap.size + 1 := by rw [hw2]; simp
  have hs01 := hp1.size
  have hP4 : Pu w1 w4 := (hp2.trans hp3).trans hp4
  have he0 := enterR_snd (ov := (getD (PL l) name).1) (r := (0, 0)) (by simp)
  refine loopUp walk.length (fun k t w' => ∃ (stk : List ByteArray) (r : Int × Int), t.2.1 = true ∧ t.2.2 = (k : Int) ∧ Pu w1 w' ∧ MapAt w' ekS evP b L ∧ RowAt w' 9 1 t.1 (strV stk.reverse) ∧ stk ≠ [] ∧ stk.length ≤ k + 1 ∧ (∀ i ∈ blkOf t.1, w1.heap.size ≤ i ∧ i ≠ w3.heap.size) ∧
      w'.heap[w3.heap.size]? = some (.cells #[.int .i64 r.1, .int .i64 r.2] 61) ∧ 0 ≤ r.2 ∧ r.2 ≤ k + 1 ∧ walkS (PL l) [name] (enterR (getD (PL l) name).1 (0, 0)) walk = walkS (PL l) stk r (walk.drop k))
    ⟨[name], enterR (getD (PL l) name).1 (0, 0), rfl, rfl, hP4, ((hM.pu hp2).pu hp3).pu hp4, ?_, by simp, by simp, ?_, hb4, by omega, by simp at he0 ⊢; omega, by simp⟩ ?_
  · have hb4' := hp4.blk (hp3.blk hb2)
    exact ⟨by simp, .inr ⟨w1.heap.size, _, rfl, hb4', Nat.le_refl _, by show 1 ≤ maxLen; unfold maxLen; omega, rfl, rfl⟩⟩
  · intro i hi
    have hi : i = w1.heap.size := by simpa [blkOf] using hi
    omega
  rintro k J ⟨l10, b12, t⟩ w5 hk ⟨stk, r, hb12, ht, hp5, hM5, hrow5, hne, hsl, hf5, hb5, hr0, hr1, hres⟩ hJ
  have hb12 : b12 = true := hb12
  have ht : t = (k : Int) := ht
  have hrow5 : RowAt w5 9 1 l10 (strV stk.reverse) := hrow5
  have hf5 : ∀ i ∈ blkOf l10, w1.heap.size ≤ i ∧ i ≠ w3.heap.size := hf5
  subst hb12
  subst ht
  dsimp only
  refine Br.of (fun hlt => ?_) (fun hge => ?_)
  · have hlt' : k < walk.length := by have := dtrue hlt; omega
    obtain ⟨x, hx⟩ := at_k hlt'
    rw [drop_at hx] at hres
    obtain ⟨a, ha, hi, hca⟩ := (hw.pu (hp1.trans hp5)).str hx
    obtain ⟨top, rest, rfl⟩ : ∃ top rest, stk = top :: rest := by cases stk with
      | nil => exact absurd rfl hne
      | cons t r => exact ⟨t, r, rfl⟩
    obtain ⟨hl10, a4, ha4, hc4⟩ := top_of hrow5
    have hl10 : l10.len = rest.length + 1 := hl10
    have hsl : rest.length + 1 ≤ k + 1 := hsl
    have hwr : IntKind.i64.wrap (((l10.len : Nat) : Int) - 1) = ((rest.length : Nat) : Int) := by rw [wrap_in (by omega) (by omega)]; omega
    refine ⟨a, ha, by omega, by omega, x, by simpa using hca, a4, ha4, by rw [hwr]; omega, by rw [hwr]; omega, top, hc4, ?_⟩
    have bad : ∀ w6, Pu w1 w6 → walkS (PL l) (top :: rest) r (x :: walk.drop (k + 1)) = none → (Ending.returned (.tuple #[.int .i64 0, .int .i64 7]) = .returned (.tuple #[.int .i64 (loadsS l name walk).1, .int .i64 (loadsS l name walk).2]) ∧ Pu w w6) := fun w6 h6 hn => by
      rw [hn] at hres
      rw [hres] at hS
      exact ⟨by rw [hS], hp1.trans h6⟩
    -- the round's end: the room is entered
    have fin : ∀ (w6 : World) (l75 : SV) (t2 : ByteArray) (rest2 : List ByteArray), Pu w1 w6 → MapAt w6 ekS evP b L → RowAt w6 9 1 l75 (strV (t2 :: rest2).reverse) → (t2 :: rest2).length ≤ k + 2 → (∀ i ∈ blkOf l75, w1.heap.size ≤ i ∧ i ≠ w3.heap.size) →
        w6.heap[w3.heap.size]? = some (.cells #[.int .i64 r.1, .int .i64 r.2] 61) → walkS (PL l) (top :: rest) r (x :: walk.drop (k + 1)) = walkS (PL l) (t2 :: rest2) (enterR (getD (PL l) t2).1 r) (walk.drop (k + 1)) →
        dwE w6 fun w17 => ptrE (some (⟨w3.heap.size, 0, none⟩ : Addr)) fun a18 => ∃ n78_0 : Int, w17.cell? (a18.add 0) = some (.int .i64 n78_0) ∧ ∃ n78_1 : Int, w17.cell? (a18.add 1) = some (.int .i64 n78_1) ∧
          ∃ a19 : Addr, l75.a = some a19 ∧ 0 ≤ (IntKind.i64.wrap (((l75.len : Nat) : Int) - 1)) ∧ (IntKind.i64.wrap (((l75.len : Nat) : Int) - 1)) < ((l75.len : Nat) : Int) ∧
          ∃ s85 : ByteArray, w17.cell? (a19.add ((IntKind.i64.wrap (((l75.len : Nat) : Int) - 1)).toNat * 1)) = some (.string s85) ∧
          ∃ n86_0 : Int, ∃ l86_1 : SV, (Instr.lookup 57 (.map (some b)) (.string s85) false).run Try.prog w17 = .ok (.agg #[.int .i64 n86_0, .slice l86_1.a l86_1.len l86_1.cap]) w17 ∧
          Calls Try.prog 46 #[.agg #[.int .i64 n78_0, .int .i64 n78_1], .int .i64 n86_0] w17 fun e w20 => ∃ n88_0 : Int, ∃ n88_1 : Int, e = .returned (.agg #[.int .i64 n88_0, .int .i64 n88_1]) ∧
          ptrE (some (⟨w3.heap.size, 0, none⟩ : Addr)) fun a21 => stA Try.prog 61 a21 #[.int .i64 n88_0, .int .i64 n88_1] w20 fun w22 => J (l75, true, IntKind.i64.wrap ((k : Int) + 1)) w22 := fun w6 l75 t2 rest2 h6 hM6 hrow6 hlen6 hf6 hb6 hwk => by
      refine dwE_intro fun w7 hp7 hh7 => ?_
      have hb7 := hp7.blk hb6
      obtain ⟨hl75, a19, ha19, hc19⟩ := top_of (hrow6.pu hp7)
      simp only [List.length_cons] at hlen6
      have hwr : IntKind.i64.wrap (((l75.len : Nat) : Int) - 1) = ((rest2.length : Nat) : Int) := by rw [wrap_in (by omega) (by omega)]; omega
      refine ⟨r.1, by rw [add_def, cell_blk hb7]; rfl, r.2, by rw [add_def, cell_blk hb7]; rfl, a19, ha19, by rw [hwr]; omega, by rw [hwr]; omega, t2, hc19, _, _, (look57 (hM6.pu hp7) t2).2, ?_⟩
      rw [hov]
      refine Calls.mono (enter_c w7 r (getD (PL l) t2).1 hr0 (by omega)) ?_
      rintro e w8 ⟨rfl, hp8⟩
      refine ⟨_, _, rfl, ?_⟩
      have hb8 := hp8.blk hb7
      refine stA_fill hb8 (by kernel_rfl) rfl rfl fun w9 hb9 hf9 hs9 => ?_
      rw [wrap_in (by omega) (by omega)]
      have hes := enterR_snd (ov := (getD (PL l) t2).1) hr0
      refine hJ _ _ hlt' ⟨t2 :: rest2, enterR (getD (PL l) t2).1 r, rfl, rfl, Pu.andNew ((h6.trans hp7).trans hp8) hf9 fun i hi => by omega, ((hM6.pu hp7).pu hp8).fr hf9 (fun e => by omega), ((hrow6.pu hp7).pu hp8).fr hf9 (fun i hi e => (hf6 i hi).2 e), by simp, by simp; omega, hf6, hb9, by omega, by omega, ?_⟩
      rw [hres, hwk]
    -- a step back
    have push : x ≠ noName → ∃ n67_0 : Int, ∃ l67_1 : SV, ∃ w12 : World, (Instr.lookup 57 (.map (some b)) (.string top) false).run Try.prog w5 = .ok (.agg #[.int .i64 n67_0, .slice l67_1.a l67_1.len l67_1.cap]) w12 ∧
        Calls Try.prog 47 #[.slice l67_1.a l67_1.len l67_1.cap, .string x] w12 fun e w13 => ∃ b70 : Bool, e = .returned (.bool b70) ∧ Br b70 (
          alE (.cells #[.string x] 9) w13 fun r74 w14 => ∃ l75 : SV, ∃ w15 : World, (Builtin.append_ #[23, 23] 23 #[.slice l10.a l10.len l10.cap, .slice (some ⟨r74, 0, none⟩) 1 1]).run Try.prog w14 = .ok (.slice l75.a l75.len l75.cap) w15 ∧
          Br (!true) (runD Try.prog [] w15 fun w16 => (Ending.returned (.tuple #[.int .i64 0, .int .i64 7]) = .returned (.tuple #[.int .i64 (loadsS l name walk).1, .int .i64 (loadsS l name walk).2]) ∧ Pu w w16)) (
          dwE w15 fun w17 => ptrE (some (⟨w3.heap.size, 0, none⟩ : Addr)) fun a18 => ∃ n78_0 : Int, w17.cell? (a18.add 0) = some (.int .i64 n78_0) ∧ ∃ n78_1 : Int, w17.cell? (a18.add 1) = some (.int .i64 n78_1) ∧
          ∃ a19 : Addr, l75.a = some a19 ∧ 0 ≤ (IntKind.i64.wrap (((l75.len : Nat) : Int) - 1)) ∧ (IntKind.i64.wrap (((l75.len : Nat) : Int) - 1)) < ((l75.len : Nat) : Int) ∧
          ∃ s85 : ByteArray, w17.cell? (a19.add ((IntKind.i64.wrap (((l75.len : Nat) : Int) - 1)).toNat * 1)) = some (.string s85) ∧
          ∃ n86_0 : Int, ∃ l86_1 : SV, (Instr.lookup 57 (.map (some b)) (.string s85) false).run Try.prog w17 = .ok (.agg #[.int .i64 n86_0, .slice l86_1.a l86_1.len l86_1.cap]) w17 ∧
          Calls Try.prog 46 #[.agg #[.int .i64 n78_0, .int .i64 n78_1], .int .i64 n86_0] w17 fun e w20 => ∃ n88_0 : Int, ∃ n88_1 : Int, e = .returned (.agg #[.int .i64 n88_0, .int .i64 n88_1]) ∧
          ptrE (some (⟨w3.heap.size, 0, none⟩ : Addr)) fun a21 => stA Try.prog 61 a21 #[.int .i64 n88_0, .int .i64 n88_1] w20 fun w22 => J (l75, true, IntKind.i64.wrap ((k : Int) + 1)) w22)) (
          runD Try.prog [] w13 fun w23 => (Ending.returned (.tuple #[.int .i64 0, .int .i64 7]) = .returned (.tuple #[.int .i64 (loadsS l name walk).1, .int .i64 (loadsS l name walk).2]) ∧ Pu w w23)) := fun hx0 => by
      refine ⟨_, _, w5, (look57 hM5 top).2, ?_⟩
      have hrd := (hR.get top).2.2
      refine Calls.mono (contains_c w5 _ _ (hrd.pu hp5) x) ?_
      rintro e w6 ⟨rfl, hp6⟩
      refine ⟨_, rfl, Br.of (fun h3 => ?_) (fun h3 => bad w6 (hp5.trans hp6) (by rw [walkS_cons, if_neg hx0, if_neg (by rw [h3]; simp)]))⟩
      refine alE_intro fun w7 hw7 => ?_
      have hp7 : Pu w6 w7 := by rw [hw7]; exact Pu.alloc w6 _
      have hn7 : w7.heap[w6.heap.size]? = some (.cells #[.string x] 9) := by rw [hw7]; exact alloc_new w6 _
      obtain ⟨l75, w8, hra, hrow8, hf8, hblk8, hlen8⟩ := row_push (P := Try.prog) (ty := 23) (t := 23) u23 info_str rfl (s := l10) ((hrow5.pu hp6).pu hp7) (a := ⟨w6.heap.size, 0, none⟩) (u := .string x) (by rw [cell_blk hn7]; rfl) rfl (by omega)
      have hlt3 := blk_lt hb5
      have hs56 := hp6.size
      have hs67 := hp7.size
      refine ⟨l75, w8, hra, Br.f rfl (fin w8 l75 x (top :: rest) (Pu.andNew ((hp5.trans hp6).trans hp7) hf8 fun i hi => by have := (hf5 i hi).1; omega) ((hM5.pu (hp6.trans hp7)).fr hf8 (fun h => by have := (hf5 _ h).1; omega)) ?_ (by simp; omega) ?_ ((hp6.trans hp7).blk hb5 |> fun h => hf8.blk h (fun hx => (hf5 _ hx).2 rfl)) ?_)⟩
      · have e : strV (x :: top :: rest).reverse = strV (top :: rest).reverse ++ [Value.string x] := by simp [strV]
        rw [e]; exact hrow8
      · intro i hi
        rcases hblk8 i hi with h | h
        · exact hf5 i h
        · omega
      · rw [walkS_cons, if_neg hx0, if_pos h3]
    rw [beq_bytes']
    refine Br.of (fun h3 => ?_) (fun h3 => ?_)
    · have hx0 : x = noName := dtrue h3
      refine Br.of (fun h4 => ?_) (fun h4 => ?_)
      · have h4 := dtrue h4
        obtain ⟨t2, r2, rfl⟩ : ∃ t2 r2, rest = t2 :: r2 := by cases rest with
          | nil => simp at hl10; omega
          | cons t r => exact ⟨t, r, rfl⟩
        rw [hwr]
        have hcap : l10.len ≤ l10.cap ∧ l10.cap ≤ maxLen := hrow5.le_cap
        have eA : (if l10.cap = 0 then l10.a else l10.a.map (fun x => x.add (0 * 1))) = l10.a := by
          split
          · rfl
          · simp [Addr.add]
        rw [eA]
        have hl10' : l10.len = r2.length + 2 := hl10
        have hlc : (((t2 :: r2).length : Nat) : Int).toNat - 0 = l10.len - 1 := by simp only [List.length_cons]; omega
        refine ⟨by omega, by simp only [List.length_cons]; omega, by omega, Br.f rfl ?_⟩
        rw [hlc]
        exact fin w5 ⟨l10.a, l10.len - 1, l10.cap⟩ t2 r2 hp5 hM5 (by
          have e : strV (top :: t2 :: r2).reverse = strV (t2 :: r2).reverse ++ [Value.string top] := by simp [strV]
          rw [e] at hrow5
          exact row_pop hrow5) (by simp only [List.length_cons] at hsl ⊢; omega) (fun i hi => hf5 i hi) hb5 (by rw [walkS_cons, if_pos hx0])
      · have h4 := dfalse h4
        have hr0' : rest = [] := List.eq_nil_of_length_eq_zero (by omega)
        subst hr0'
        exact Br.f (by rw [h3]; rfl) (bad w5 hp5 (by rw [walkS_cons, if_pos hx0]))
    · have hx0 : x ≠ noName := dfalse h3
      exact Br.t (by rw [h3]; rfl) (push hx0)
  · have hge' : ¬ k < walk.length := by have := dfalse hge; omega
    rw [drop_end hge'] at hres
    rw [walkS] at hres
    rw [hres] at hS
    refine ⟨r.2, by rw [add_def, cell_blk hb5]; rfl, ?_, hp1.trans hp5⟩
    rw [hS]
end Go.Proofs.Ytcnenlmhbpijlaa
