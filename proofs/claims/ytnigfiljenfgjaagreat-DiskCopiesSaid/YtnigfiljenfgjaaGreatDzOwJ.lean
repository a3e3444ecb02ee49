import Derived.Test.YtnigfiljenfgjaaGreatDzOwI
import Derived.Test.YtnigfiljenfgjaaGreatDzOwH
/- The disk's reference: two systems held against each other. No condition but those stated. -/
set_option maxRecDepth 100000
set_option linter.unusedVariables false
set_option linter.unusedSimpArgs false
namespace Go.Proofs.YtnigfiljenfgjaaGreat
open Go.Sh Go.RowKit
variable {w w' : World} {r s : RLay} {ρ τ : RSys}
theorem k116 : structK Tryz.prog 116 [.bool, .bool, .int .u8] = true := by kernel_rfl
theorem guard116 : Tryz.prog.eqGuardType Tryz.prog.depth 116 = false := by kernel_rfl
def B3.val (x : B3) : Value := .agg #[.bool x.is, .bool x.di, .int .u8 ((x.b.toNat : Nat) : Int)]
theorem b3_ne (x y : B3) (a b : Operand) (w : World) : (eqS .neq 116 a b x.val y.val).run Tryz.prog w = .ok (.bool (!decide (x = y))) w :=
  neS_rowK (P := Tryz.prog) k116 guard116 (xs := [.bool x.is, .bool x.di, .int .u8 ((x.b.toNat : Nat) : Int)]) (ys := [.bool y.is, .bool y.di, .int .u8 ((y.b.toNat : Nat) : Int)]) rfl rfl (b := decide (x = y)) (by
    obtain ⟨a, b, c⟩ := x
    obtain ⟨a', b', c'⟩ := y
    have : ((c.toNat : Int) = c'.toNat) ↔ c = c' := ⟨fun h => UInt8.toNat_inj.1 (by omega), fun h => by rw [h]⟩
    simp [this]) w
theorem byteAt_c {l : SV} {c : List B3} (h : RowAt w 116 3 l (c.flatMap B3.cells)) (k : Nat) : Calls Tryz.prog 66 #[.slice l.a l.len l.cap, .int .i64 (k : Int)] w fun e w' => e = .returned (c.getD k B3.zero).val /\ Pu w w' := by
  have hl := h.len B3.len (by omega)
  refine F66_calls _ _ w _ (alE_intro fun w1 hw1 => ?_)
  have hp1 : Pu w w1 := by rw [hw1]; exact Pu.alloc w _
  have hb1 : w1.heap[w.heap.size]? = some (.cells #[.bool false, .bool false, .int .u8 0] 116) := by rw [hw1]; exact alloc_new w _
  refine Br.of (fun d => ?_) (fun d => ?_)
  · have hk : k < c.length := by have := dtrue d; omega
    obtain ⟨x, hx⟩ := at_k hk
    obtain ⟨a, ha, hi, c0⟩ := (h.pu hp1).elem B3.len hx (o := 0) (v := .bool x.is) rfl
    obtain ⟨a1, ha1, _, c1⟩ := (h.pu hp1).elem B3.len hx (o := 1) (v := .bool x.di) rfl
    obtain ⟨a2, ha2, _, c2⟩ := (h.pu hp1).elem B3.len hx (o := 2) (v := u8V x.b) rfl
    rw [ha] at ha1 ha2; cases ha1; cases ha2
    refine ⟨a, ha, by omega, by omega, x.is, by rw [Int.toNat_natCast]; exact c0, x.di, by rw [Int.toNat_natCast]; exact c1, _, by rw [Int.toNat_natCast]; exact c2, ?_⟩
    refine stA_fill hb1 size116.symm rfl rfl fun w2 hb2 hf2 hs2 => ?_
    refine ⟨_, by rw [add_def, cell_blk hb2]; rfl, _, by rw [add_def, cell_blk hb2]; rfl, _, by rw [add_def, cell_blk hb2]; rfl, ?_, hp1.andNew hf2 fun i hi => by rw [show i = _ from hi]; exact Nat.le_refl _⟩
    have : c.getD k B3.zero = x := by simp [List.getD, hx]
    rw [this]; rfl
  · have hk : c.length <= k := by have := dfalse d; omega
    refine stA_fill hb1 size116.symm rfl rfl fun w2 hb2 hf2 hs2 => ?_
    refine ⟨_, by rw [add_def, cell_blk hb2]; rfl, _, by rw [add_def, cell_blk hb2]; rfl, _, by rw [add_def, cell_blk hb2]; rfl, ?_, hp1.andNew hf2 fun i hi => by rw [show i = _ from hi]; exact Nat.le_refl _⟩
    have : c.getD k B3.zero = B3.zero := by simp [List.getD, List.getElem?_eq_none hk]
    rw [this]; rfl
def RSame (ρ τ : RSys) : Prop := ρ.files = τ.files /\ (∀ f ∈ ρ.files, ∀ u, u < 4 -> ∀ i, (ρ.cOf u f.1).getD i B3.zero = (τ.cOf u f.1).getD i B3.zero) /\ LkEq (ρ.files.map Prod.fst) (τ.files.map Prod.fst) ρ.held τ.held
set_option maxHeartbeats 2000000 in
theorem rSame_c (hA : RSysAt w r ρ) (hB : RSysAt w s τ) (gA : RGood ρ) (gB : RGood τ) (hf1 : ρ.files.length <= 1000) (hf2 : τ.files.length <= 1000) (hl1 : ρ.held.length <= 1000) (hl2 : τ.held.length <= 1000) :
    Calls Tryz.prog 23 #[r.ptr, s.ptr] w fun e w' => ∃ b : Bool, e = .returned (.bool b) /\ (b = true ↔ RSame ρ τ) /\ Pu w w' := by
  refine F23_calls _ _ w _ (Calls.mono (rFiles_c hA hf1) ?_)
  rintro e w1 ⟨l1, rfl, hr1, _, hp1⟩
  refine ⟨l1, rfl, Calls.mono (rFiles_c (hB.pu hp1) hf2) ?_⟩
  rintro e w2 ⟨l2, rfl, hr2, _, hp2⟩
  refine ⟨l2, rfl, Calls.mono (sameTexts_c (hr1.pu hp2) hr2) ?_⟩
  rintro e w3 ⟨c, rfl, hc, hp3⟩
  have hp03 := (hp1.trans hp2).trans hp3
  have no : ∀ {w' : World}, Pu w w' -> ¬ RSame ρ τ -> ∃ b : Bool, Ending.returned (.bool false) = .returned (.bool b) /\ (b = true ↔ RSame ρ τ) /\ Pu w w' := fun {w'} hp hn => ⟨false, rfl, ⟨fun h => (by cases h), fun h => absurd h hn⟩, hp⟩
  refine ⟨c, rfl, Br.of (fun d => ?_) (fun d => ?_)⟩
  · have d : c = false := by simpa using d
    exact no hp03 fun h => by have := hc.2 (congrArg (List.map Prod.fst) h.1); rw [d] at this; cases this
  have d : c = true := by simpa using d
  have hnm := hc.1 d
  have hlen : ρ.files.length = τ.files.length := by have := congrArg List.length hnm; simpa using this
  have hfl := hA.fl.len (fcells_len r.fb) (by omega)
  have hfs := hB.fl.len (fcells_len s.fb) (by omega)
  refine loopUp ρ.files.length (fun k t w' => t = (k : Int) /\ Pu w w' /\ (∀ (j : Nat) x y, j < k -> ρ.files[j]? = some x -> τ.files[j]? = some y -> x = y) /\ ∀ (j : Nat) x, j < k -> ρ.files[j]? = some x -> ∀ u, u < 4 -> ∀ i, (ρ.cOf u x.1).getD i B3.zero = (τ.cOf u x.1).getD i B3.zero) ⟨rfl, hp03, fun j x y hj => absurd hj (by omega), fun j x hj => absurd hj (by omega)⟩ ?_
  rintro k J _ w4 hk ⟨rfl, hp4, hall, hcall⟩ hJ
  have A4 := hA.pu hp4
  have B4 := hB.pu hp4
  refine ⟨r.fs, A4.cell0, Br.of (fun d1 => ?_) (fun d1 => ?_)⟩
  · have hkn : k < ρ.files.length := by have := dtrue d1; omega
    obtain ⟨⟨name, b⟩, hx⟩ := at_k hkn
    obtain ⟨⟨name', b'⟩, hy⟩ := at_k (l := τ.files) (k := k) (by omega)
    have hnn : name' = name := by
      have h1 : (ρ.files.map Prod.fst)[k]? = some name := by rw [List.getElem?_map, hx]; rfl
      rw [hnm, List.getElem?_map, hy] at h1
      simpa using h1
    subst hnn
    obtain ⟨a, ha, hi, c0⟩ := A4.fl.elem (fcells_len r.fb) hx (o := 0) (v := .string name') rfl
    obtain ⟨a', ha', _, c1, hrow, hbl⟩ := A4.file hx
    rw [ha] at ha'; cases ha'
    refine ⟨r.fs, A4.cell0, a, ha, by omega, by omega, name', by rw [Int.toNat_natCast]; exact c0, r.fb name', by rw [Int.toNat_natCast]; exact c1, ?_⟩
    refine alE_intro fun w5 hw5 => ?_
    have hp5 : Pu w4 w5 := by rw [hw5]; exact Pu.alloc w4 _
    have hb5 : w5.heap[w4.heap.size]? = some (.cells #[.string (⟨#[]⟩ : ByteArray), .slice none 0 0] 80) := by rw [hw5]; exact alloc_new w4 _
    refine stA_fill hb5 (by kernel_rfl) rfl rfl fun w6 hb6 hf6 hs6 => ?_
    have hp6 : Pu w4 w6 := hp5.andNew hf6 fun i hi => by rw [show i = _ from hi]; exact Nat.le_refl _
    refine dwE_intro fun w7 hp7 _ => ?_
    have hb7 := hp7.blk hb6
    have hp47 := hp6.trans hp7
    have A7 := A4.pu hp47
    have B7 := B4.pu hp47
    obtain ⟨g, hg, hgi, hgc, hgrow, hgl⟩ := B7.file hy
    obtain ⟨s1, hs1, hd1⟩ := conv_str (hrow.pu hp47)
    obtain ⟨s2, hs2, hd2⟩ := conv_str hgrow
    refine ⟨fun wx => wx = w7, rfl, r.fb name', fun wx e => by rw [e, add_def, cell_blk hb7]; rfl, s.fs, fun wx e => by rw [e]; exact B7.cell0, g, hg, by omega, by omega, s.fb name', fun wx e => by rw [e, Int.toNat_natCast]; exact hgc, ?_⟩
    have hp07 := hp4.trans hp47
    have hss : s1 = s2 ↔ b = b' := by
      constructor
      · intro e; rw [← hd1, ← hd2, e]
      · intro e
        have : s1.data.toList = s2.data.toList := by rw [hd1, hd2, e]
        obtain ⟨⟨x⟩⟩ := s1; obtain ⟨⟨y⟩⟩ := s2
        simp at this; rw [this]
    have body : Br (!(s1.toList == s2.toList)) (runD Tryz.prog [] w7 fun w31 => ∃ b : Bool, Ending.returned (.bool false) = .returned (.bool b) /\ (b = true ↔ RSame ρ τ) /\ Pu w w31) (F23_14 (fun e w' => ∃ b : Bool, e = .returned (.bool b) /\ (b = true ↔ RSame ρ τ) /\ Pu w w') J (some ⟨r.S, 0, none⟩) (some ⟨s.S, 0, none⟩) (k : Int) (some (⟨w4.heap.size, 0, none⟩ : Addr)) 0 [] w7) := by
      rw [toList_beq]
      refine Br.of (fun d2 => ?_) (fun d2 => ?_)
      · have d2 : s1 ≠ s2 := by simpa using d2
        refine no hp07 fun h => d2 (hss.2 ?_)
        have h1 := hx
        rw [h.1, hy] at h1
        cases h1; rfl
      have d2 : s1 = s2 := by simpa using d2
      have hbb := hss.1 d2
      subst hbb
      have hgA := AL.get_of_mem hA.fnd (List.mem_of_getElem? hx)
      have hgB := AL.get_of_mem hB.fnd (List.mem_of_getElem? hy)
      have hsz := gA.fsz _ _ hgA
      refine loopUp 4 (fun j t w' => t = (j : Int) /\ Pu w7 w' /\ ∀ u, u < j -> ∀ i, (ρ.cOf u name').getD i B3.zero = (τ.cOf u name').getD i B3.zero) ⟨rfl, Pu.refl _, fun u hu => absurd hu (by omega)⟩ ?_
      rintro j J2 _ w8 hj ⟨rfl, hp8, hu⟩ hJ2
      refine Br.of (fun d3 => ?_) (fun d3 => ?_)
      · have hj4 : j < 4 := by have := dtrue d3; omega
        refine dwE_intro fun w9 hp9 _ => ?_
        have hp79 := hp8.trans hp9
        have A9 := A7.pu hp79
        have B9 := B7.pu hp79
        have hb9 := hp79.blk hb7
        obtain ⟨m1, k1, q1, _, _⟩ := A9.cache hj4 name'
        obtain ⟨m2, k2, q2, _, _⟩ := B9.cache hj4 name'
        have e1 := q1.len B3.len (by omega)
        have e2 := q2.len B3.len (by omega)
        have n1 := gA.cin j hj4 name' b hgA
        have n2 := gB.cin j hj4 name' b hgB
        refine ⟨by omega, by omega, some (r.c j), A9.cellC hj4, name', by rw [cell_blk hb9]; rfl, m1, k1, by omega, by omega, some (s.c j), B9.cellC hj4, name', by rw [cell_blk hb9]; rfl, m2, k2, ?_⟩
        refine loopUp (max (ρ.cOf j name').length (τ.cOf j name').length) (fun i t w' => t = (i : Int) /\ Pu w9 w' /\ ∀ x, x < i -> (ρ.cOf j name').getD x B3.zero = (τ.cOf j name').getD x B3.zero) ⟨rfl, Pu.refl _, fun x hx => absurd hx (by omega)⟩ ?_
        rintro i J3 _ w10 hi ⟨rfl, hp10, hcs⟩ hJ3
        have one : i < max (ρ.cOf j name').length (τ.cOf j name').length -> Calls Tryz.prog 66 #[.slice m1.a m1.len m1.cap, .int .i64 (i : Int)] w10 fun e w9 =>
            ∃ b85_0 : Bool, ∃ b85_1 : Bool, ∃ n85_2 : Int, e = .returned (.agg #[.bool b85_0, .bool b85_1, .int .u8 n85_2]) /\
            Calls Tryz.prog 66 #[.slice m2.a m2.len m2.cap, .int .i64 (i : Int)] w9 fun e w10 =>
            ∃ b88_0 : Bool, ∃ b88_1 : Bool, ∃ n88_2 : Int, e = .returned (.agg #[.bool b88_0, .bool b88_1, .int .u8 n88_2]) /\
            ∃ b89 : Bool, ∃ w11 : World, (eqS .neq 116 (.tmp 85) (.tmp 88) (.agg #[.bool b85_0, .bool b85_1, .int .u8 n85_2]) (.agg #[.bool b88_0, .bool b88_1, .int .u8 n88_2])).run Tryz.prog w10 = .ok (.bool b89) w11 /\
            Br b89 (runD Tryz.prog [] w11 fun w12 => ∃ b : Bool, Ending.returned (.bool false) = .returned (.bool b) /\ (b = true ↔ RSame ρ τ) /\ Pu w w12) (J3 (IntKind.i64.wrap ((i : Int) + 1)) w11) := fun hin => by
          refine Calls.mono (byteAt_c (q1.pu hp10) i) ?_
          rintro e w11 ⟨rfl, hp11⟩
          refine ⟨_, _, _, rfl, Calls.mono (byteAt_c ((q2.pu hp10).pu hp11) i) ?_⟩
          rintro e w12 ⟨rfl, hp12⟩
          refine ⟨_, _, _, rfl, _, w12, b3_ne _ _ _ _ w12, Br.of (fun d4 => ?_) (fun d4 => ?_)⟩
          · have d4 : (ρ.cOf j name').getD i B3.zero ≠ (τ.cOf j name').getD i B3.zero := by simpa using d4
            exact no ((((hp07.trans hp79).trans hp10).trans hp11).trans hp12) fun h => d4 (h.2.1 _ (List.mem_of_getElem? hx) j hj4 i)
          · have d4 : (ρ.cOf j name').getD i B3.zero = (τ.cOf j name').getD i B3.zero := by simpa using d4
            rw [wrap_in (by omega) (by omega)]
            refine hJ3 _ _ hin ⟨rfl, (hp10.trans hp11).trans hp12, fun x hx => ?_⟩
            by_cases e : x = i
            · rw [e]; exact d4
            · exact hcs x (by omega)
        refine Br.of (fun d4 => one (by have := dtrue d4; omega)) (fun d4 => Br.of (fun d5 => one (by have := dtrue d5; omega)) (fun d5 => ?_))
        have d4 := dfalse d4
        have d5 := dfalse d5
        show J2 (IntKind.i64.wrap ((j : Int) + 1)) w10
        rw [wrap_in (by omega) (by omega)]
        refine hJ2 _ _ hj4 ⟨rfl, hp79.trans hp10, fun u hu' x => ?_⟩
        by_cases e : u = j
        · subst e
          by_cases hxi : x < i
          · exact hcs x hxi
          · rw [List.getD, List.getD, List.getElem?_eq_none (by omega), List.getElem?_eq_none (by omega)]
        · exact hu u (by omega) x
      · have hj4 : j = 4 := by have := dfalse d3; omega
        subst hj4
        show J (IntKind.i64.wrap ((k : Int) + 1)) w8
        rw [wrap_in (by omega) (by omega)]
        refine hJ _ _ hkn ⟨rfl, hp07.trans hp8, fun i x y hi h1 h2 => ?_, fun i x hi h1 u hu' => ?_⟩
        · by_cases e : i = k
          · subst e; rw [hx] at h1; rw [hy] at h2; cases h1; cases h2; rfl
          · exact hall i x y (by omega) h1 h2
        · by_cases e : i = k
          · subst e; rw [hx] at h1; cases h1; exact hu u hu'
          · exact hcall i x (by omega) h1 u hu'
    exact ⟨⟨s1, w7, hs1, rfl, s2, w7, hs2, rfl, body⟩, ⟨s2, w7, hs2, rfl, s1, w7, hs1, rfl, body⟩⟩
  · have hkn : k = ρ.files.length := by have := dfalse d1; omega
    subst hkn
    have hfe : ρ.files = τ.files := at_all hlen fun j x y hj => hall j x y hj
    have hce : ∀ f ∈ ρ.files, ∀ u, u < 4 -> ∀ i, (ρ.cOf u f.1).getD i B3.zero = (τ.cOf u f.1).getD i B3.zero := fun f hf u hu i => by
      obtain ⟨j, hj, e⟩ := List.getElem_of_mem hf
      exact hcall j f hj (by rw [← e]; exact List.getElem?_eq_getElem hj) u hu i
    refine Calls.mono (rLocks_c A4 hl1 hf1) ?_
    rintro e w5 ⟨p, q, rfl, hrow, hsq, hpq, _, hp5⟩
    refine ⟨p, rfl, Calls.mono (rLocks_c (B4.pu hp5) hl2 hf2) ?_⟩
    rintro e w6 ⟨p', q', rfl, hrow', hsq', hpq', _, hp6⟩
    have hp06 := (hp4.trans hp5).trans hp6
    have hiff : q = q' ↔ RSame ρ τ := by
      constructor
      · intro h; subst h; exact ⟨hfe, hce, q, hsq, hpq, hpq'⟩
      · rintro ⟨_, _, q0, a1, a2, a3⟩
        rw [srtQ_uniq hsq a1 (hpq.trans a2.symm), srtQ_uniq hsq' a1 (hpq'.trans a3.symm)]
    have hrow6 := hrow.pu hp6
    have hql : q.length <= 1000 := by rw [hpq.length_eq, List.length_map]; omega
    have h1 := hrow6.len Q4.len (by omega)
    have h2 := hrow'.len Q4.len (by omega)
    refine ⟨p', rfl, Br.of (fun d2 => ?_) (fun d2 => ?_)⟩
    · refine no hp06 fun h => ?_
      have := hiff.2 h
      subst this
      rw [h1, h2] at d2; simp at d2
    have hqq : q.length = q'.length := by
      rw [h1, h2] at d2
      have : ((q.length : Nat) : Int) = q'.length := by simpa using d2
      omega
    refine loopUp q.length (fun k x w' => x = (k : Int) /\ Pu w6 w' /\ ∀ (j : Nat) x y, j < k -> q[j]? = some x -> q'[j]? = some y -> x = y) ⟨rfl, Pu.refl _, fun j x y hj => absurd hj (by omega)⟩ ?_
    rintro k J _ w7 hk ⟨rfl, hp7, hall⟩ hJ
    refine Br.of (fun d3 => ?_) (fun d3 => ?_)
    · have hkn : k < q.length := by have := dtrue d3; omega
      obtain ⟨x, hx⟩ := at_k hkn
      obtain ⟨y, hy⟩ := at_k (l := q') (k := k) (by omega)
      refine dwE_intro fun w8 hp8 _ => ?_
      obtain ⟨p, hp, i1, i2, c0, c1, c2, c3⟩ := q4At ((hrow6.pu hp7).pu hp8) hx
      obtain ⟨q, hq, j1, j2, g0, g1, g2, g3⟩ := q4At ((hrow'.pu hp7).pu hp8) hy
      refine ⟨p, hp, i1, i2, _, c0, _, c1, _, c2, _, c3, q, hq, j1, j2, _, g0, _, g1, _, g2, _, g3, _, fun wz => q4_ne x y _ _ wz, Br.of (fun d4 => ?_) (fun d4 => ?_)⟩
      · refine no ((hp06.trans hp7).trans hp8) fun h => ?_
        have := hiff.2 h
        subst this
        rw [hx] at hy; cases hy
        simp at d4
      · have hxy : x = y := by simpa using d4
        rw [wrap_in (by omega) (by omega)]
        refine hJ _ _ hkn ⟨rfl, hp7.trans hp8, fun j u v hj hu hv => ?_⟩
        by_cases e : j = k
        · subst e; rw [hx] at hu; rw [hy] at hv; cases hu; cases hv; exact hxy
        · exact hall j u v (by omega) hu hv
    · have hkn : k = q.length := by have := dfalse d3; omega
      subst hkn
      exact ⟨true, rfl, ⟨fun _ => hiff.1 (at_all hqq fun j x y hj => hall j x y hj), fun _ => rfl⟩, hp06.trans hp7⟩
end Go.Proofs.YtnigfiljenfgjaaGreat

/- The disk: what the program holds equal, the reference does; copies stand for copies. No condition but those stated. -/
set_option maxRecDepth 100000
set_option linter.unusedVariables false
set_option linter.unusedSimpArgs false
namespace Go.Proofs.YtnigfiljenfgjaaGreat
open Go.Sh Go.RowKit
variable {N M : Nat} {σ τ : Sys} {ρ υ : RSys}
theorem sortedF_uniq : ∀ {l l' : List (ByteArray × List UInt8)}, SortedF l -> SortedF l' -> (∀ name, AL.get l name = AL.get l' name) -> l = l'
  | [], [], _, _, _ => rfl
  | [], (k, v) :: t, _, _, h => by have := h k; simp [AL.get] at this
  | (k, v) :: t, [], _, _, h => by have := h k; simp [AL.get] at this
  | (k, v) :: t, (k', v') :: t', h1, h2, h => by
    have g1 := List.pairwise_cons.1 h1
    have g2 := List.pairwise_cons.1 h2
    have hkk : k = k' := by
      apply Classical.byContradiction
      intro hne
      have a1 : AL.get t' k = some v := by have := h k; simp only [AL.get, if_true] at this; rw [if_neg (Ne.symm hne)] at this; exact this.symm
      have a2 : AL.get t k' = some v' := by have := h k'; simp only [AL.get, if_true] at this; rw [if_neg hne] at this; exact this
      have b1 := g1.1 k' (List.mem_map_of_mem (AL.get_mem a2))
      have b2 := g2.1 k (List.mem_map_of_mem (AL.get_mem a1))
      exact bLt_ne (bLt_trans b1 (bLt_le b2)) rfl
    subst hkk
    have hv : v = v' := by have := h k; simpa [AL.get] using this
    subst hv
    have hn : ∀ {s : List (ByteArray × List UInt8)}, (∀ b ∈ s.map Prod.fst, bLt k b = true) -> AL.get s k = none := fun {s} hs => AL.get_none.2 fun hm => by
      exact bLt_ne (hs k hm) rfl
    rw [sortedF_uniq (l := t) (l' := t') g1.2 g2.2 fun x => ?_]
    have := h x
    simp only [AL.get] at this
    by_cases e : k = x
    · subst e; rw [hn g1.1, hn g2.1]
    · rw [if_neg e, if_neg e] at this; exact this
theorem B3.ext' {x y z : B3} (h1 : VE x y) (h2 : VE x z) : y = z := by
  obtain ⟨a1, a2, a3⟩ := h1
  obtain ⟨b1, b2, b3⟩ := h2
  obtain ⟨p, q, s⟩ := y
  obtain ⟨p', q', s'⟩ := z
  simp only at a1 a2 a3 b1 b2 b3
  rw [← a1, ← a2, ← a3, ← b1, ← b2, ← b3]
theorem vw_eq {p q : Page} (h : PgEq p q) {j : Nat} (hj : j < 32) : vw p j = vw q j := by
  obtain ⟨h1, h2, h3⟩ := h j hj
  simp only [vw, h1, h2, h3]
theorem same_iff (h1 : Ok N σ ρ) (h2 : Ok M τ υ) (s1 : SortedF ρ.files) (s2 : SortedF υ.files) : SameS σ τ ↔ RSame ρ υ := by
  have hfl : (∀ name, AL.get σ.files name = AL.get τ.files name) ↔ ρ.files = υ.files := by
    constructor
    · intro h
      exact sortedF_uniq s1 s2 fun name => by rw [← h1.sim.fg, ← h2.sim.fg, h name]
    · intro h name
      rw [h1.sim.fg, h2.sim.fg, h]
  have hlk : LkEq (srt (σ.files.map Prod.fst)) (srt (τ.files.map Prod.fst)) σ.locks τ.locks ↔ LkEq (ρ.files.map Prod.fst) (υ.files.map Prod.fst) ρ.held υ.held := by
    rw [h1.sim.names s1, h2.sim.names s2, h1.sim.lk, h2.sim.lk]
  constructor
  · rintro ⟨a, b, c⟩
    have hf := hfl.1 b
    refine ⟨hf, fun f hfm u hu i => ?_, hlk.1 c⟩
    have g1 := AL.get_of_mem (List.Pairwise.imp (fun h => bLt_ne h) s1) (k := f.1) (v := f.2) hfm
    have g2 : AL.get υ.files f.1 = some f.2 := by rw [← hf]; exact g1
    have v1 := h1.sim.v u hu _ _ g1 i
    have v2 := h2.sim.v u hu _ _ g2 i
    have e : Vw σ u f.1 i = Vw τ u f.1 i := by
      have := a u hu (f.1, ((i / 32 : Nat) : Int))
      simp only [Vw, pageOf]
      cases c1 : AL.get (σ.caches u) (f.1, ((i / 32 : Nat) : Int)) with
      | none =>
        cases c2 : AL.get (τ.caches u) (f.1, ((i / 32 : Nat) : Int)) with
        | none => rfl
        | some q => rw [c1, c2] at this; exact this.elim
      | some p =>
        cases c2 : AL.get (τ.caches u) (f.1, ((i / 32 : Nat) : Int)) with
        | none => rw [c1, c2] at this; exact this.elim
        | some q =>
          rw [c1, c2] at this
          exact vw_eq this (by omega)
    rw [← e] at v2
    exact B3.ext' v1 v2
  · rintro ⟨a, b, c⟩
    refine ⟨fun u hu p => ?_, hfl.2 a, hlk.2 c⟩
    obtain ⟨name, z⟩ := p
    cases hg : AL.get ρ.files name with
    | none =>
      rw [h1.good.noFile hu (by rw [h1.sim.fg]; exact hg), h2.good.noFile hu (by rw [h2.sim.fg, ← a]; exact hg)]
      trivial
    | some f =>
      have hg2 : AL.get υ.files name = some f := by rw [← a]; exact hg
      have hb := b _ (AL.get_mem hg) u hu
      simp only at hb
      by_cases hz : 0 <= z
      · obtain ⟨kk, rfl⟩ := Int.eq_ofNat_of_zero_le hz
        have p1 := h1.sim.p u hu name f hg kk
        have p2 := h2.sim.p u hu name f hg2 kk
        rw [hb] at p1
        have pp : Ps σ u name kk = Ps τ u name kk := by rw [p1, p2]
        unfold Ps at pp
        cases c1 : AL.get (σ.caches u) (name, (kk : Int)) with
        | none =>
          cases c2 : AL.get (τ.caches u) (name, (kk : Int)) with
          | none => trivial
          | some q => rw [c1, c2] at pp; cases pp
        | some p =>
          cases c2 : AL.get (τ.caches u) (name, (kk : Int)) with
          | none => rw [c1, c2] at pp; cases pp
          | some q =>
            intro j hj
            have v1 := h1.sim.v u hu name f hg (kk * 32 + j)
            have v2 := h2.sim.v u hu name f hg2 (kk * 32 + j)
            rw [hb] at v1
            have e1 : Vw σ u name (kk * 32 + j) = vw p j := by
              simp only [Vw, pageOf, show (kk * 32 + j) / 32 = kk by omega, show (kk * 32 + j) % 32 = j by omega, c1, Option.getD_some]
            have e2 : Vw τ u name (kk * 32 + j) = vw q j := by
              simp only [Vw, pageOf, show (kk * 32 + j) / 32 = kk by omega, show (kk * 32 + j) % 32 = j by omega, c2, Option.getD_some]
            rw [e1] at v1
            rw [e2] at v2
            obtain ⟨x1, x2, x3⟩ := v1
            obtain ⟨y1, y2, y3⟩ := v2
            simp only [vw] at x1 x2 x3 y1 y2 y3
            exact ⟨x3.trans y3.symm, x1.trans y1.symm, x2.trans y2.symm⟩
      · have n1 : AL.get (σ.caches u) (name, z) = none := by
          cases c1 : AL.get (σ.caches u) (name, z) with
          | none => rfl
          | some p => exact absurd (h1.good.near u hu _ (AL.get_mem c1)).1 hz
        have n2 : AL.get (τ.caches u) (name, z) = none := by
          cases c1 : AL.get (τ.caches u) (name, z) with
          | none => rfl
          | some p => exact absurd (h2.good.near u hu _ (AL.get_mem c1)).1 hz
        rw [n1, n2]; trivial
theorem Ok.copy (h : Ok N σ ρ) (E : SysEq σ τ) (R : REq ρ υ) : Ok N τ υ := by
  have hvw : ∀ u, u < 4 -> ∀ name i, Vw τ u name i = Vw σ u name i := fun u hu name i => by simp only [Vw, pageOf, E.ca u hu]
  have hps : ∀ u, u < 4 -> ∀ name kk, Ps τ u name kk = Ps σ u name kk := fun u hu name kk => by simp only [Ps, E.ca u hu]
  refine ⟨⟨fun name => by rw [E.fg, R.fl]; exact h.sim.fg name, by rw [E.fn, R.fl]; exact h.sim.fn, by rw [E.lk, R.lk]; exact h.sim.lk, fun u hu name b hb i => ?_, fun u hu name b hb kk => ?_, fun u hu name b hb i => ?_, fun u hu name hn => ?_, E.nd⟩, ⟨fun name f hf => h.good.small name f (by rw [← E.fg]; exact hf), fun u hu q hq => h.good.near u hu q (by rw [← E.ca u hu]; exact hq), fun u hu => by rw [E.ca u hu]; exact h.good.cnt u hu, fun u hu q hq => ?_⟩, ⟨fun name b hb => h.rgood.fsz name b (by rw [← R.fl]; exact hb), fun u hu name b hb => ?_⟩, fun u hu => by rw [E.ca u hu]; exact h.sizes u hu, by rw [R.lk]; exact h.locks, by rw [R.lk]; exact h.held, by rw [R.fl]; exact h.files⟩
  · rw [hvw u hu, R.ca u hu]; exact h.sim.v u hu name b (by rw [← R.fl]; exact hb) i
  · rw [hps u hu, R.ca u hu]; exact h.sim.p u hu name b (by rw [← R.fl]; exact hb) kk
  · rw [R.ca u hu]; exact h.sim.dk u hu name b (by rw [← R.fl]; exact hb) i
  · rw [R.ca u hu]; exact h.sim.nc u hu name (by rw [← R.fl]; exact hn)
  · obtain ⟨f, hf, hi⟩ := h.good.file u hu q (by rw [← E.ca u hu]; exact hq)
    exact ⟨f, by rw [E.fg]; exact hf, hi⟩
  · rw [R.ca u hu]; exact h.rgood.cin u hu name b (by rw [← R.fl]; exact hb)
end Go.Proofs.YtnigfiljenfgjaaGreat

/- The disk: both systems list the same files, bytes and locks; the law. No condition. -/
set_option maxRecDepth 100000
set_option linter.unusedVariables false
set_option linter.unusedSimpArgs false
namespace Go.Proofs.YtnigfiljenfgjaaGreat
open Go.Sh Go.RowKit
variable {w0 : Kp} {w w1 : World} {d d' : Lay} {r r' : RLay} {σ σ' : Sys} {ρ ρ' : RSys} {N : Nat}
set_option maxHeartbeats 1000000 in
theorem seen_c (B : Base w0 w d r σ ρ) (O : Ok N σ ρ) (hN : N + 40 <= 400) (hs : SortedF ρ.files) : Calls Tryz.prog 21 #[d.ptr, r.ptr] w fun e w' => e = .returned (.bool true) /\ Pu w0.w w' := by
  have hf8 := O.files
  have hsf := O.sim.fn
  refine F21_calls _ _ w _ (Calls.mono (rFiles_c B.b (by omega)) ?_)
  rintro e w1 ⟨ln, rfl, hrow1, hnew, hp1⟩
  have B1 := B.pure hp1
  refine ⟨ln, rfl, Calls.mono (listFiles_c B1.a (by omega)) ?_⟩
  rintro e w2 ⟨l14, rfl, L2, hrow14, hnew14⟩
  have B2 := B1.op L2
  have hown : ∀ b ∈ blkOf ln, b ∉ d.own := fun b hb hd => by have := hnew b hb; have := B.a.lt b hd; omega
  have hro : ∀ b ∈ blkOf ln, r.o b = none := fun b hb => by
    cases ho : r.o b with
    | none => rfl
    | some k => have := hnew b hb; have := B.b.lt b (by rw [ho]; simp); omega
  have hrow2 : RowAt w2 9 1 ln (strV (ρ.files.map Prod.fst)) := hrow1.fr L2.fr fun b hb hx => hown b hb hx
  rw [O.sim.names hs] at hrow14
  refine ⟨l14, rfl, Calls.mono (sameTexts_c hrow14 hrow2) ?_⟩
  rintro e w3 ⟨c, rfl, hc, hp3⟩
  have hc := hc.2 rfl
  subst hc
  refine ⟨true, rfl, Br.f rfl ?_⟩
  have hrow3 := hrow2.pu hp3
  have B3 := (B2.pure hp3).hold (· ∈ blkOf ln) fun b hb => ⟨hrow3.lt b hb, hown b hb, hro b hb⟩
  obtain ⟨names, hnm⟩ : ∃ names, names = ρ.files.map Prod.fst := ⟨_, rfl⟩
  rw [← hnm] at hrow3
  have hnl : names.length <= 8 := by rw [hnm, List.length_map]; exact hf8
  have hll : ln.len = names.length := by have := hrow3.1; simpa using this.symm
  obtain ⟨K, hK⟩ : ∃ K : Kp, K = ⟨w0.w, (· ∈ blkOf ln), w3⟩ := ⟨_, rfl⟩
  have hKw : K.w = w0.w := by rw [hK]
  have nameAt : ∀ {wz : World} {d' : Lay} {r' : RLay} {σ' : Sys} {ρ' : RSys} {k : Nat} {x : ByteArray}, Base K wz d' r' σ' ρ' -> names[k]? = some x -> ∃ a : Addr, ln.a = some a /\ wz.cell? (a.add ((k : Int).toNat * 1)) = some (.string x) := fun {wz d' r' σ' ρ' k x} Bz hx => by
    have hrz : RowAt wz 9 1 ln (strV names) := Bz.row (by rw [hK]; exact hrow3) (fun b hb => by rw [hK]; exact hb)
    obtain ⟨a, ha, hc, _⟩ := hrz.cell (j := k) (v := .string x) (by rw [List.getElem?_map, hx]; rfl)
    exact ⟨a, ha, by rw [Int.toNat_natCast, Nat.mul_one]; exact hc⟩
  rw [← hK] at B3
  refine loopUp names.length (fun k t w' => t = (k : Int) /\ ∃ d' r' σ' ρ', Base K w' d' r' σ' ρ' /\ Ok (N + 5 * k) σ' ρ' /\ SortedF ρ'.files /\ d'.S = d.S /\ r'.S = r.S) ⟨rfl, d, r, σ, ρ, B3, O, hs, rfl, rfl⟩ ?_
  rintro k J t w4 hk ⟨rfl, d4, r4, σ4, ρ4, B4, O4, hs4, hdS4, hrS4⟩ hJ
  refine Br.of (fun d1 => ?_) (fun d1 => ?_)
  · have hkn : k < names.length := by have := dtrue d1; omega
    obtain ⟨x, hx⟩ := at_k hkn
    refine loopUp 4 (fun j t w' => t = (j : Int) /\ ∃ d' r' σ' ρ', Base K w' d' r' σ' ρ' /\ Ok (N + 5 * k + j) σ' ρ' /\ SortedF ρ'.files /\ d'.S = d.S /\ r'.S = r.S) ⟨rfl, d4, r4, σ4, ρ4, B4, O4, hs4, hdS4, hrS4⟩ ?_
    rintro j J2 t w5 hj ⟨rfl, d5, r5, σ5, ρ5, B5, O5, hs5, hdS5, hrS5⟩ hJ2
    obtain ⟨a, ha, hc⟩ := nameAt B5 hx
    refine Br.of (fun d2 => ?_) (fun d2 => ?_)
    · have hj4 : j < 4 := by have := dtrue d2; omega
      refine ⟨a, ha, by omega, by omega, x, hc, ?_⟩
      have hcall := played_c B5 O5 (by omega) 12 (j : Int) 0 0 x ⟨#[]⟩ (by decide)
      rw [Lay.ptr, RLay.ptr, hdS5, hrS5] at hcall
      refine Calls.mono hcall ?_
      rintro e w6 ⟨rfl, d6, r6, σ6, ρ6, B6, O6, e1, e2, hs6⟩
      refine ⟨true, rfl, Br.f rfl ?_⟩
      rw [wrap_in (by omega) (by omega)]
      exact hJ2 _ _ hj4 ⟨rfl, d6, r6, σ6, ρ6, B6, O6, hs6 hs5, e1.trans hdS5, e2.trans hrS5⟩
    · have hj4 : j = 4 := by have := dfalse d2; omega
      subst hj4
      refine ⟨a, ha, by omega, by omega, x, hc, ?_⟩
      have hcall := files_c B5 O5 (by omega) 4 0 0 0 0 x ⟨#[]⟩
      rw [Lay.ptr, RLay.ptr, hdS5, hrS5] at hcall
      refine Calls.mono hcall ?_
      rintro e w6 ⟨rfl, d6, r6, σ6, ρ6, B6, O6, e1, e2, hs6⟩
      refine ⟨true, rfl, Br.f rfl ?_⟩
      show J _ w6
      rw [wrap_in (by omega) (by omega)]
      exact hJ _ _ hkn ⟨rfl, d6, r6, σ6, ρ6, B6, (by rw [show N + 5 * (k + 1) = N + 5 * k + 4 + 1 by omega]; exact O6), hs6 hs5, e1.trans hdS5, e2.trans hrS5⟩
  · have hkn : k = names.length := by have := dfalse d1; omega
    subst hkn
    have hh4 := O4.held
    have hlk4 := O4.sim.lk
    have hfn4 := O4.sim.fn
    have hf4 := O4.files
    have hcall := locks_c B4.a (by omega) (by rw [hlk4]; omega)
    rw [Lay.ptr, hdS4] at hcall
    refine Calls.mono hcall ?_
    rintro e w5 ⟨l48, q, rfl, L5, hr48, hsrt, hperm, hnb48⟩
    have B5 := B4.op L5
    have hcall := rLocks_c B5.b (by omega) (by omega)
    rw [RLay.ptr, hrS4] at hcall
    refine ⟨l48, rfl, Calls.mono hcall ?_⟩
    rintro e w6 ⟨l50, q', rfl, hr50, hsrt', hperm', hnb50, hp6⟩
    have B6 := B5.pure hp6
    rw [O4.sim.names hs4, hlk4] at hperm
    have hqq : q = q' := srtQ_uniq hsrt hsrt' (hperm.trans hperm'.symm)
    subst hqq
    have hl1 : l48.len = q.length := hr48.len Q4.len (by omega)
    have hl2 : l50.len = q.length := hr50.len Q4.len (by omega)
    have hql : q.length <= 400 := by have := hperm.length_eq; rw [List.length_map] at this; omega
    have hr48' := hr48.pu hp6
    refine ⟨l50, rfl, Br.f (by rw [hl1, hl2]; simp) ?_⟩
    refine loopUp q.length (fun i t w' => t = (i : Int) /\ Pu w6 w') ⟨rfl, Pu.refl _⟩ ?_
    rintro i J3 t w7 hi ⟨rfl, hp7⟩ hJ3
    refine Br.of (fun d3 => ?_) (fun d3 => ⟨rfl, ?_⟩)
    · have hi2 : i < q.length := by have := dtrue d3; omega
      obtain ⟨y, hy⟩ := at_k hi2
      refine dwE_intro fun w8 hp8 _ => ?_
      obtain ⟨a, ha, i1, i2, c0, c1, c2, c3⟩ := q4At ((hr48'.pu hp7).pu hp8) hy
      obtain ⟨b, hb, j1, j2, g0, g1, g2, g3⟩ := q4At ((hr50.pu hp7).pu hp8) hy
      refine ⟨a, ha, i1, i2, _, c0, _, c1, _, c2, _, c3, b, hb, j1, j2, _, g0, _, g1, _, g2, _, g3, _, fun wz => q4_ne y y _ _ wz, Br.f (by simp) ?_⟩
      rw [wrap_in (by omega) (by omega)]
      exact hJ3 _ _ hi2 ⟨rfl, hp7.trans hp8⟩
    · have := B6.pu
      rw [hKw] at this
      exact this.trans hp7
end Go.Proofs.YtnigfiljenfgjaaGreat

/- The disk: that a copy is equal and lives by itself: the law. No condition. -/
set_option maxRecDepth 100000
set_option linter.unusedVariables false
set_option linter.unusedSimpArgs false
namespace Go.Proofs.YtnigfiljenfgjaaGreat
open Go.Sh Go.RowKit
theorem srtQ_ex (l : List Q4) : ∃ q, SrtQ q /\ q.Perm l := by
  refine ⟨l.mergeSort fun a b => !q4Lt b a, ?_, List.mergeSort_perm _ _⟩
  have := List.pairwise_mergeSort (le := fun a b => !q4Lt b a) (fun a b c h1 h2 => by
    simp only [Bool.not_eq_true'] at h1 h2 ⊢
    rw [q4_no] at *; omega) (fun a b => by
    cases h : q4Lt b a with
    | false => rfl
    | true => rw [q4_asym h]; rfl) l
  exact this.imp fun h => by simpa using h
theorem rsame_copy {ρ υ : RSys} (R : REq ρ υ) : RSame ρ υ := by
  obtain ⟨q, h1, h2⟩ := srtQ_ex (ρ.held.map (rowQ (ρ.files.map Prod.fst)))
  exact ⟨R.fl.symm, fun f _ u hu i => by rw [R.ca u hu], q, h1, h2, by rw [R.fl, R.lk]; exact h2⟩
set_option maxHeartbeats 4000000 in
theorem diskCopies_c (w : World) (s1 : SV) (k : List Act) (h1 : RdSl w s1 k) (lim1 : Lim.ok k) (s2 : SV) (l : List Act) (h2 : RdSl w s2 l) (lim2 : Lim.ok l) :
    Calls Tryz.prog 6 #[.slice s1.a s1.len s1.cap, .slice s2.a s2.len s2.cap] w fun e w' => e = .returned (.bool true) /\ Pu w w' := by
  have fin : ∀ w2, Pu w w2 -> Calls Tryz.prog 8 #[] w2 fun e w11 => ∃ b18 : Bool, e = .returned (.bool b18) /\ runD Tryz.prog [] w11 fun w12 => (Ending.returned (.bool b18) = Ending.returned (.bool true) /\ Pu w w12) := fun w2 hp2 => by
    refine Calls.mono (known_c w2) ?_
    rintro e w3 ⟨rfl, hp3⟩
    exact ⟨true, rfl, rfl, hp2.trans hp3⟩
  refine F6_calls _ _ w _ (Calls.mono (over_c w s1 k h1 lim1) ?_)
  rintro e wa ⟨b, rfl, hpa, hb⟩
  refine ⟨b, rfl, Br.of (fun _ => fin wa hpa) (fun d1 => ?_)⟩
  obtain ⟨k200, kdat⟩ := hb d1
  refine Calls.mono (over_c wa s2 l (h2.pu hpa) lim2) ?_
  rintro e wb ⟨b, rfl, hpb, hb⟩
  refine ⟨b, rfl, Br.of (fun _ => fin wb (hpa.trans hpb)) (fun d2 => ?_)⟩
  obtain ⟨l200, ldat⟩ := hb d2
  have hp1 := hpa.trans hpb
  refine Calls.mono (new_c wb) ?_
  rintro e w2 ⟨rfl, hA, hp2⟩
  refine ⟨some ⟨(newLay wb.heap.size).S, 0, none⟩, rfl, ?_⟩
  refine Calls.mono (rNew_c w2) ?_
  rintro e w3 ⟨r, rfl, hB, hp3, hnB⟩
  refine ⟨some ⟨r.S, 0, none⟩, rfl, false, w3, eqS_ptr_nil u23 _ _ _ w3, ?_⟩
  refine Br.f rfl ?_
  have hz1 := hp1.size
  have hz2 := hp2.size
  generalize hd : newLay wb.heap.size = d at hA
  have hown : ∀ y ∈ d.own, wb.heap.size <= y := by rw [← hd]; exact newLay_own _
  have B0 : Base (Kp.of w) w3 d r Sys.new RSys.new := ⟨hA.pu hp3, hB, fun y hy => by
    cases ho : r.o y with
    | none => rfl
    | some k => have := hnB y (by rw [ho]; simp); have := hA.lt y hy; omega, (hp1.trans hp2).trans hp3, fun y hy => by have := hown y hy; show w.heap.size <= y; omega, fun y hy => by have := hnB y hy; show w.heap.size <= y; omega, fun b hb => hb.elim, fun x hx hb => hb.elim, fun x hx hb => hb.elim, ((hp1.trans hp2).trans hp3).size⟩
  have hlk := h1.len
  have hll := h2.len
  refine loopUp k.length (fun j t w' => t = (j : Int) /\ ∃ d' r' σ ρ, Base (Kp.of w) w' d' r' σ ρ /\ Ok j σ ρ /\ SortedF ρ.files /\ d'.S = d.S /\ r'.S = r.S) ⟨rfl, d, r, _, _, B0, Ok.new, List.Pairwise.nil, rfl, rfl⟩ ?_
  rintro j J t w4 hj ⟨rfl, d', r', σ, ρ, B, O, hso, hdS, hrS⟩ hJ
  refine Br.of (fun d3 => ?_) (fun d3 => ?_)
  · have hkn : j < k.length := by have := dtrue d3; omega
    obtain ⟨y, hy⟩ := at_k hkn
    obtain ⟨a, ha, hi, hok, c0, c1, c2, c3, c4, c5⟩ := actAt (h1.pu B.pu) hy
    refine ⟨a, ha, by omega, by omega, y.kind, by rw [Int.toNat_natCast]; exact c0, y.u, by rw [Int.toNat_natCast]; exact c1, y.at_, by rw [Int.toNat_natCast]; exact c2, y.n, by rw [Int.toNat_natCast]; exact c3, y.name, by rw [Int.toNat_natCast]; exact c4, y.data, by rw [Int.toNat_natCast]; exact c5, ?_⟩
    have hc := played_c B O (by omega) y.kind y.u y.at_ y.n y.name y.data (kdat y (List.mem_of_getElem? hy))
    rw [Lay.ptr, RLay.ptr, hdS, hrS] at hc
    refine Calls.mono hc ?_
    rintro e w5 ⟨rfl, d2, r2, σ2, ρ2, B2, O2, e1, e2, hs2⟩
    refine ⟨true, rfl, Br.f rfl ?_⟩
    rw [wrap_in (by omega) (by omega)]
    exact hJ _ _ hkn ⟨rfl, d2, r2, σ2, ρ2, B2, O2, hs2 hso, e1.trans hdS, e2.trans hrS⟩
  · have hkn : j = k.length := by have := dfalse d3; omega
    subst hkn
    -- both are copied
    have hf8 := O.files
    have hfn := O.sim.fn
    have hh := O.held
    have hlkk := O.sim.lk
    have hltd := B.a.lt
    have hltr := B.b.lt
    have hcp := copy_c B.a O.good.small (by rw [hlkk]; omega)
    rw [Lay.ptr, hdS] at hcp
    refine Calls.mono hcp ?_
    rintro e w5 ⟨dc, τ, rfl, L5, C5, E, nC⟩
    have B5 := B.op L5
    have hcp := rCopy_c B5.b O.rgood (by omega) (by omega) O.sim.nc
    rw [RLay.ptr, hrS] at hcp
    refine ⟨_, rfl, Calls.mono hcp ?_⟩
    rintro e w6 ⟨rc, υ, rfl, V6, R, hp6, nV⟩
    have Oc := O.copy E R
    have B6 := B5.pure hp6
    have C6 := C5.pu hp6
    have hz5 := L5.fr.size
    have hz6 := hp6.size
    have hsc : SortedF υ.files := by rw [R.fl]; exact hso
    refine ⟨_, rfl, false, w6, eqS_ptr_nil u23 _ _ _ w6, Br.f rfl ?_⟩
    have hdisC : ∀ b ∈ d'.own, b ∉ dc.own := fun b hb hc => by have := nC b hc; have := hltd b hb; omega
    have hrC : ∀ b ∈ dc.own, r'.o b = none := fun b hb => by
      cases ho : r'.o b with
      | none => rfl
      | some κ => have := nC b hb; have := hltr b (by rw [ho]; simp); omega
    have hrV : ∀ b, rc.o b ≠ none -> r'.o b = none /\ b ∉ d'.own /\ b ∉ dc.own := fun b hb => by
      have := nV b hb
      refine ⟨?_, fun h => by have := hltd b h; omega, fun h => by have := C5.lt b h; omega⟩
      cases ho : r'.o b with
      | none => rfl
      | some κ => have := hltr b (by rw [ho]; simp); omega
    have hsm := same_c B6.a C6 hdisC O.good.small Oc.good.small (by rw [hlkk]; omega) (by rw [E.lk, hlkk]; omega) (by omega) (by rw [E.fn]; omega) O.sim.nd E.nd O.good.cnt Oc.good.cnt
    rw [Lay.ptr, hdS] at hsm
    refine Calls.mono hsm ?_
    rintro e w7 ⟨b, rfl, hb, A7, C7, F7⟩
    have hb1 : b = true := hb.2 ((same_iff O Oc hso hsc).2 (rsame_copy R))
    subst hb1
    refine ⟨true, rfl, Br.f rfl ?_⟩
    have hz7 := F7.size
    have hww6 : w.heap.size <= w6.heap.size := B6.pu.size
    have hpuw7 : Pu w w7 := ((Fr.pu B6.pu : Fr (fun b => b ∈ d'.own ∨ b ∈ dc.own) w w6).trans F7 fun i hi _ => hi).toPu fun i hi => by
      rcases hi with hi | hi
      · exact B.newA i hi
      · have := nC i hi; have : w.heap.size <= w4.heap.size := B.pu.size; omega
    have R7 : RSysAt w7 r' ρ := B6.b.fr F7 fun b hb h => by
      rcases h with h | h
      · exact hb (B.dis b h)
      · exact hb (hrC b h)
    have V7 : RSysAt w7 rc υ := V6.fr F7 fun b hb h => by
      obtain ⟨_, h3, h4⟩ := hrV b hb
      rcases h with h | h
      · exact h3 h
      · exact h4 h
    have hw4 : w.heap.size <= w4.heap.size := B.pu.size
    -- the copies are played
    have BC : Base ⟨w, fun b => b ∈ d'.own ∨ r'.o b ≠ none, w7⟩ w7 dc rc τ υ := ⟨C7, V7, fun x hx => by
        cases ho : rc.o x with
        | none => rfl
        | some κ => exact absurd hx (hrV x (by rw [ho]; simp)).2.2, hpuw7, fun x hx => by have := nC x hx; show w.heap.size <= x; omega, fun x hx => by have := nV x hx; show w.heap.size <= x; omega,
      fun b hb => ⟨by
        rcases hb with h | h
        · exact A7.lt b h
        · exact R7.lt b h, rfl⟩, fun x hx h => by
        rcases h with h | h
        · exact hdisC x h hx
        · exact h (hrC x hx), fun x hx h => by
        obtain ⟨g1, g2, _⟩ := hrV x hx
        rcases h with h | h
        · exact g2 h
        · exact h g1, Nat.le_refl _⟩
    refine loopUp l.length (fun j t w' => t = (j : Int) /\ ∃ dd rd σ' ρ', Base ⟨w, fun b => b ∈ d'.own ∨ r'.o b ≠ none, w7⟩ w' dd rd σ' ρ' /\ Ok (k.length + j) σ' ρ' /\ SortedF ρ'.files /\ dd.S = dc.S /\ rd.S = rc.S) ⟨rfl, dc, rc, τ, υ, BC, Oc, hsc, rfl, rfl⟩ ?_
    rintro j J2 t w8 hj ⟨rfl, dd, rd, σ', ρ', BD, OD, hsD, hddS, hrdS⟩ hJ2
    refine Br.of (fun d4 => ?_) (fun d4 => ?_)
    · have hjn : j < l.length := by have := dtrue d4; omega
      obtain ⟨y, hy⟩ := at_k hjn
      obtain ⟨a, ha, hi, hok, c0, c1, c2, c3, c4, c5⟩ := actAt (h2.pu BD.pu) hy
      refine ⟨a, ha, by omega, by omega, y.kind, by rw [Int.toNat_natCast]; exact c0, y.u, by rw [Int.toNat_natCast]; exact c1, y.at_, by rw [Int.toNat_natCast]; exact c2, y.n, by rw [Int.toNat_natCast]; exact c3, y.name, by rw [Int.toNat_natCast]; exact c4, y.data, by rw [Int.toNat_natCast]; exact c5, ?_⟩
      have hc := played_c BD OD (by omega) y.kind y.u y.at_ y.n y.name y.data (ldat y (List.mem_of_getElem? hy))
      rw [Lay.ptr, RLay.ptr, hddS, hrdS] at hc
      refine Calls.mono hc ?_
      rintro e w9 ⟨rfl, d2, r2, σ2, ρ2, B2, O2, e1, e2, hs2⟩
      refine ⟨true, rfl, Br.f rfl ?_⟩
      rw [wrap_in (by omega) (by omega)]
      exact hJ2 _ _ hjn ⟨rfl, d2, r2, σ2, ρ2, B2, O2, hs2 hsD, e1.trans hddS, e2.trans hrdS⟩
    · have hjn : j = l.length := by have := dfalse d4; omega
      subst hjn
      have F8 := BD.fr hpuw7
      have A8 : SysAt w8 d' 0 σ := A7.fr F8 fun b hb h => h (.inl hb)
      have R8 : RSysAt w8 r' ρ := R7.fr F8 fun b hb h => h (.inr hb)
      have hdisD : ∀ b ∈ d'.own, b ∉ dd.own := fun b hb hc => BD.kA b hc (.inl hb)
      have hf8' := OD.files
      have hfn' := OD.sim.fn
      have hh' := OD.held
      have hlk' := OD.sim.lk
      have hsm := same_c A8 BD.a hdisD O.good.small OD.good.small (by rw [hlkk]; omega) (by rw [hlk']; omega) (by omega) (by omega) O.sim.nd OD.sim.nd O.good.cnt OD.good.cnt
      rw [Lay.ptr, Lay.ptr, hdS, hddS] at hsm
      refine Calls.mono hsm ?_
      rintro e w9 ⟨b, rfl, hb, A9, D9, F9⟩
      have R9 : RSysAt w9 r' ρ := R8.fr F9 fun b hb h => by
        rcases h with h | h
        · exact hb (B.dis b h)
        · exact BD.kA b h (.inr hb)
      have V9 : RSysAt w9 rd ρ' := BD.b.fr F9 fun b hb h => by
        rcases h with h | h
        · exact BD.kB b hb (.inl h)
        · exact hb (BD.dis b h)
      have hrs := rSame_c R9 V9 O.rgood OD.rgood (by omega) (by omega) (by omega) (by omega)
      rw [RLay.ptr, RLay.ptr, hrS, hrdS] at hrs
      refine ⟨b, rfl, Calls.mono hrs ?_⟩
      rintro e w10 ⟨b', rfl, hb', hp10⟩
      have hbb : (b == b') = true := by
        have : b = true ↔ b' = true := by rw [hb, hb']; exact same_iff O OD hso hsD
        cases b <;> cases b' <;> simp_all
      refine ⟨b', rfl, Br.t hbb ?_⟩
      have hpu9 : Pu w w9 := ((Fr.pu BD.pu : Fr (fun b => b ∈ d'.own ∨ b ∈ dd.own) w w8).trans F9 fun i hi _ => hi).toPu fun i hi => by
        rcases hi with hi | hi
        · exact B.newA i hi
        · exact BD.newA i hi
      have BF : Base (Kp.of w) w10 d' r' σ ρ := ⟨A9.pu hp10, R9.pu hp10, B.dis, hpu9.trans hp10, B.newA, B.newB, fun b hb => hb.elim, fun x hx hb => hb.elim, fun x hx hb => hb.elim, (hpu9.trans hp10).size⟩
      have hc := seen_c BF O (by omega) hso
      rw [Lay.ptr, RLay.ptr, hdS, hrS] at hc
      refine Calls.mono hc ?_
      rintro e w11 ⟨rfl, hp11⟩
      exact ⟨true, rfl, Br.t rfl (fin w11 hp11)⟩
end Go.Proofs.YtnigfiljenfgjaaGreat
