import Derived.Test.YtjbfehippchniaaGreatDoorPrOwG
import Derived.Test.YtjbfehippchniaaGreatDoorPrOwE
import Derived.Test.YtjbfehippchniaaGreatDoorPrOwC
import Derived.Test.YtjbfehippchniaaGreatDoorPrPrA
/- Pre: once, where there is one command: the range's body. No condition but those stated. -/
set_option maxRecDepth 100000
set_option linter.unusedVariables false
set_option linter.unusedSimpArgs false
namespace Go.Proofs.YtjbfehippchniaaGreatDoor
open Go.Sh Go.Sh.Lx Go.Sh.Pr Go.RowKit Go.Shelf
variable {w0 w w' : World}
structure Axo (w0 : World) (p : Addr) (q B : Nat) (s1 s2 : SV) (a : Act) (W : World) : Prop where
  sz : a.tmps.size = 119
  df : a.defers = []
  sl : Slt w0 p (envOf a)
  t15 : envOf a 15 = .pointer (some ⟨q, 0, none⟩)
  rule : ∃ r, B <= r /\ envOf a 17 = .pointer (some ⟨r, 0, none⟩) /\ W.heap[r]? = some (.cells (ruV true s1 s2).toArray 72)
def QAsg (w0 : World) (p : Addr) (q B : Nat) (s1 s2 : SV) (W : World) (e : Exit) (v0 v3 v4 v5 v6 v15 v17 : Value) (ds : Ds) (w' : World) : Prop :=
  e = .normal /\ ds = [] /\ Pu W w' /\ (v0 = .pointer (some p) /\ v3 = .pointer (some ⟨w0.heap.size, 0, none⟩) /\ v4 = .pointer (some ⟨w0.heap.size + 1, 0, none⟩) /\ v5 = .pointer (some ⟨w0.heap.size + 1 + 1, 0, none⟩) /\ v6 = .pointer (some ⟨w0.heap.size + 1 + 1 + 1, 0, none⟩)) /\ v15 = .pointer (some ⟨q, 0, none⟩) /\ ∃ r, B <= r /\ v17 = .pointer (some ⟨r, 0, none⟩) /\ w'.heap[r]? = some (.cells (ruV true s1 s2).toArray 72)
theorem asg_one {p : Addr} {q B r : Nat} {s1 s2 : SV} {a : Act} {W : World} {K : Act -> World -> Prop} (hsz : a.tmps.size = 119) (hdf : a.defers = []) (hsl : Slt w0 p (envOf a)) (h15 : envOf a 15 = .pointer (some ⟨q, 0, none⟩)) (h98 : envOf a 98 = .agg (ruV true s1 s2).toArray) (hB : B <= W.heap.size)
    (hK : ∀ a' W', Pu W W' -> Axo w0 p q B s1 s2 a' W' -> K a' W') : (asgOf rng49).wpIn (Fence.wide.inRound r) 2 Tryz.prog (Exit.then K (fun _ _ _ => False)) a W := by
  refine rd_in (n := 119) (l := [pS 0, pS 3, pS 4, pS 5, pS 6, pS 15, aS 98 [.bool, .slice, .slice]]) (Q := fun e ρ ds w' => QAsg w0 p q B s1 s2 W e (ρ 0) (ρ 3) (ρ 4) (ρ 5) (ρ 6) (ρ 15) (ρ 17) ds w')
    (F := fun (p0 p3 p4 p5 p6 p15 : Option Addr) (b98 : Bool) (l1 l2 : SV) (ds : Ds) (w1 : World) => alE (.cells #[.bool false, .slice none 0 0, .slice none 0 0] 72) w1 fun r17 w2 => stA Tryz.prog 72 (⟨r17, 0, none⟩ : Addr) #[.bool b98, .slice l1.a l1.len l1.cap, .slice l2.a l2.len l2.cap] w2 fun w3 => QAsg w0 p q B s1 s2 W .normal (.pointer p0) (.pointer p3) (.pointer p4) (.pointer p5) (.pointer p6) (.pointer p15) (.pointer (some ⟨r17, 0, none⟩)) ds w3)
    hsz (by kernel_rfl) ?_ (fun e a' w' h => ?_)
  · refine kof_t (ty := .ptr) (some p : Option Addr) hsl.s0 (kof_t (ty := .ptr) (some ⟨w0.heap.size, 0, none⟩ : Option Addr) hsl.s3 (kof_t (ty := .ptr) (some ⟨w0.heap.size + 1, 0, none⟩ : Option Addr) hsl.s4 (kof_t (ty := .ptr) (some ⟨w0.heap.size + 1 + 1, 0, none⟩ : Option Addr) hsl.s5 (kof_t (ty := .ptr) (some ⟨w0.heap.size + 1 + 1 + 1, 0, none⟩ : Option Addr) hsl.s6 (kof_t (ty := .ptr) (some ⟨q, 0, none⟩ : Option Addr) h15 ?_)))))
    show Shp.take (.agg [.bool, .slice, .slice]) (envOf a 98) _ _
    rw [h98]
    show alE (.cells #[.bool false, .slice none 0 0, .slice none 0 0] 72) W fun r17 w2 => stA Tryz.prog 72 (⟨r17, 0, none⟩ : Addr) (ruV true s1 s2).toArray w2 fun w3 => QAsg w0 p q B s1 s2 W .normal (.pointer (some p)) (.pointer (some ⟨w0.heap.size, 0, none⟩)) (.pointer (some ⟨w0.heap.size + 1, 0, none⟩)) (.pointer (some ⟨w0.heap.size + 1 + 1, 0, none⟩)) (.pointer (some ⟨w0.heap.size + 1 + 1 + 1, 0, none⟩)) (.pointer (some ⟨q, 0, none⟩)) (.pointer (some ⟨r17, 0, none⟩)) a.defers w3
    refine boxA (t := 72) (vs := (ruV true s1 s2).toArray) (zs := #[.bool false, .slice none 0 0, .slice none 0 0]) rfl (by rw [size72]; rfl) rfl fun w3 hp3 _ hb3 => ⟨rfl, hdf, hp3, ⟨rfl, rfl, rfl, rfl, rfl⟩, rfl, _, hB, rfl, hb3⟩
  · cases e with
    | normal =>
      obtain ⟨hs, _, hd, hp, ⟨e0, e3, e4, e5, e6⟩, e15, er⟩ := h
      exact hK a' w' hp ⟨hs, hd, ⟨e0, e3, e4, e5, e6⟩, e15, er⟩
    | ret => exact absurd h.2.1 (by simp)
    | exit id => exact absurd h.2.1 (by simp)
    | _ => exact h.elim
end Go.Proofs.YtjbfehippchniaaGreatDoor

/- Pre: once, where there is one command: the range's body. No condition but those stated. -/
set_option maxRecDepth 100000
set_option linter.unusedVariables false
set_option linter.unusedSimpArgs false
namespace Go.Proofs.YtjbfehippchniaaGreatDoor
open Go.Sh Go.Sh.Lx Go.Sh.Pr Go.RowKit Go.Shelf
variable {w0 w w' : World}
structure Sto49 (w0 W w' : World) (l : List (Tok × SV)) : Prop where
  fr : Fr (fun k => k = w0.heap.size + 1 ∨ k = w0.heap.size + 1 + 1 ∨ k = w0.heap.size + 1 + 1 + 1) W w'
  res : ∃ s' : SV, w'.heap[w0.heap.size + 1]? = some (.cells #[.slice s'.a s'.len s'.cap] 84) /\ RowAt w' 112 4 s' (l.flatMap ftV)
  b5 : w'.heap[w0.heap.size + 1 + 1]? = some (.cells #[.bool true] 4)
  b6 : w'.heap[w0.heap.size + 1 + 1 + 1]? = some (.cells #[.int .i64 0] 26)
def QBdy (w0 W : World) (bb : Bool) (o : Option (List (Tok × SV))) (e : Exit) (w' : World) : Prop :=
  ((bb = false ∨ o = none) /\ e = .normal /\ Pu W w') ∨ (bb = true /\ ∃ l, o = some l /\ e = .ret /\ Sto49 w0 W w' l)
theorem bdy_one {p : Addr} {q B r : Nat} {s s1 s2 : SV} {bb : Bool} {T : List (Tok × SV)} {pa pb : List Pt} {a : Act} {W : World} {X : Exit -> Act -> World -> Prop} (h : Axo w0 p q B s1 s2 a W) (hB : OnB w0 W s) (hq : W.heap[q]? = some (.cells #[.bool bb] 4))
    (hs : CellsR W s T) (hcap : s.len <= s.cap) (ha : RdSl W s1 pa) (hb : RdSl W s2 pb) (ka : ∀ p ∈ pa, p.kind = 0 ∨ p.kind = 1) (kb : ∀ p ∈ pb, p.kind = 0 ∨ p.kind = 1) (la : pa.length <= 1000) (lb : pb.length <= 1000)
    (hT : ∀ t ∈ T, t.1.text.size <= 140737488355328) (hTl : T.length <= 100000) (hf : ∀ l, cmdP pa pb T = some l -> l.length <= 50000)
    (hX : ∀ e a' w', QBdy w0 W bb (cmdP pa pb T) e w' -> X e a' w') : (bdyOf rng49).wpIn (Fence.wide.inRound r) 2 Tryz.prog X a W := by
  obtain ⟨k, hkB, h17, hk⟩ := h.rule
  refine rd_in (n := 119) (l := [pS 3, pS 4, pS 5, pS 6, pS 15, pS 17]) (Q := fun e ρ ds w' => QBdy w0 W bb (cmdP pa pb T) e w')
    (F := fun (p3 p4 p5 p6 p15 p17 : Option Addr) (ds : Ds) (w : World) => ptrE p17 fun a1 =>
      ∃ b100 : Bool, w.cell? a1 = some (.bool b100) /\
      ptrE p15 fun a2 =>
      ∃ b101 : Bool, w.cell? a2 = some (.bool b101) /\
      Br (!(b100 == b101)) (
      QBdy w0 W bb (cmdP pa pb T) .normal w) (
      ptrE p17 fun a3 =>
      ∃ b104_0 : Bool, w.cell? (a3.add 0) = some (.bool b104_0) /\
      ∃ l104_1 : SV, w.cell? (a3.add 1) = some (.slice l104_1.a l104_1.len l104_1.cap) /\
      ∃ l104_2 : SV, w.cell? (a3.add 2) = some (.slice l104_2.a l104_2.len l104_2.cap) /\
      ptrE p3 fun a4 =>
      ∃ l105 : SV, w.cell? a4 = some (.slice l105.a l105.len l105.cap) /\
      Calls Tryz.prog 87 #[.agg #[.bool b104_0, .slice l104_1.a l104_1.len l104_1.cap, .slice l104_2.a l104_2.len l104_2.cap], .slice l105.a l105.len l105.cap] w fun e w5 =>
      ∃ l106_0 : SV, ∃ b106_1 : Bool, ∃ n106_2 : Int, e = .returned (.tuple #[.slice l106_0.a l106_0.len l106_0.cap, .bool b106_1, .int .i64 n106_2]) /\
      Br b106_1 (
      ptrE p4 fun a6 =>
      st1 a6 (.slice l106_0.a l106_0.len l106_0.cap) w5 fun w7 =>
      ptrE p5 fun a8 =>
      st1 a8 (.bool b106_1) w7 fun w9 =>
      ptrE p6 fun a10 =>
      st1 a10 (.int .i64 n106_2) w9 fun w11 =>
      QBdy w0 W bb (cmdP pa pb T) .ret w11) (
      Br (n106_2 != 0) (
      ptrE p4 fun a12 =>
      st1 a12 (.slice l106_0.a l106_0.len l106_0.cap) w5 fun w13 =>
      ptrE p5 fun a14 =>
      st1 a14 (.bool b106_1) w13 fun w15 =>
      ptrE p6 fun a16 =>
      st1 a16 (.int .i64 n106_2) w15 fun w17 =>
      QBdy w0 W bb (cmdP pa pb T) .ret w17) (
      QBdy w0 W bb (cmdP pa pb T) .normal w5))))
    h.sz (by kernel_rfl) ?_ (fun e a' w' h => ?_)
  · refine kof_t (ty := .ptr) (some ⟨w0.heap.size, 0, none⟩ : Option Addr) h.sl.s3 (kof_t (ty := .ptr) (some ⟨w0.heap.size + 1, 0, none⟩ : Option Addr) h.sl.s4 (kof_t (ty := .ptr) (some ⟨w0.heap.size + 1 + 1, 0, none⟩ : Option Addr) h.sl.s5 (kof_t (ty := .ptr) (some ⟨w0.heap.size + 1 + 1 + 1, 0, none⟩ : Option Addr) h.sl.s6 (kof_t (ty := .ptr) (some ⟨q, 0, none⟩ : Option Addr) h.t15 (kof_t (ty := .ptr) (some ⟨k, 0, none⟩ : Option Addr) h17 (kof_nil ?_))))))
    refine ⟨_, cl0 hk, _, cl0 hq, ?_⟩
    cases bb with
    | false => exact Br.t rfl (.inl ⟨.inl rfl, rfl, Pu.refl _⟩)
    | true =>
      refine Br.f rfl ⟨_, cl hk 0, s1, cl hk 1, s2, cl hk 2, s, cl0 hB.b3, (apply_c hs hcap ha hb ka kb la lb hT hTl hf).mono ?_⟩
      rintro e w5 ⟨hp5, hn, hy⟩
      cases hc : cmdP pa pb T with
      | none =>
        exact ⟨⟨none, 0, 0⟩, false, 0, hn hc, Br.f rfl (Br.f rfl (.inl ⟨.inr rfl, rfl, hp5⟩))⟩
      | some l =>
        obtain ⟨s', rfl, hr⟩ := hy l hc
        refine ⟨s', true, 0, rfl, Br.t rfl ?_⟩
        have hB5 := hB.on hp5
        rw [ptrE_some]
        refine st1_intro (b := w0.heap.size + 1) (o := 0) hB5.b4 (by decide) fun w1 hw1 hb1 => ?_
        have f1 : Fr (· = w0.heap.size + 1) w5 w1 := by rw [hw1]; exact Fr.setCell w5 ⟨_, 0, none⟩ _
        have c5 := f1.blk hB5.b5 (by omega)
        have c6 := f1.blk hB5.b6 (by omega)
        rw [ptrE_some]
        refine st1_intro (b := w0.heap.size + 1 + 1) (o := 0) c5 (by decide) fun w2 hw2 hb2 => ?_
        have f2 : Fr (· = w0.heap.size + 1 + 1) w1 w2 := by rw [hw2]; exact Fr.setCell w1 ⟨_, 0, none⟩ _
        have d6 := f2.blk c6 (by omega)
        rw [ptrE_some]
        refine st1_intro (b := w0.heap.size + 1 + 1 + 1) (o := 0) d6 (by decide) fun w3 hw3 hb3 => ?_
        have f3 : Fr (· = w0.heap.size + 1 + 1 + 1) w2 w3 := by rw [hw3]; exact Fr.setCell w2 ⟨_, 0, none⟩ _
        have r1 := hr.fr f1 fun k hk e => by rw [show k = _ from e] at hk; exact hr.other hB5.b4 (by decide) hk
        have r2 := r1.fr f2 fun k hk e => by rw [show k = _ from e] at hk; exact r1.other c5 (by decide) hk
        have r3 := r2.fr f3 fun k hk e => by rw [show k = _ from e] at hk; exact r2.other d6 (by decide) hk
        refine .inr ⟨rfl, l, rfl, rfl, ⟨?_, ⟨s', f3.blk (f2.blk hb1 (by omega)) (by omega), r3⟩, f3.blk hb2 (by omega), hb3⟩⟩
        exact (((Fr.pu hp5 : Fr (fun k => k = w0.heap.size + 1 ∨ k = w0.heap.size + 1 + 1 ∨ k = w0.heap.size + 1 + 1 + 1) W w5).trans f1 fun i hi _ => .inl hi).trans f2 fun i hi _ => .inr (.inl hi)).trans f3 fun i hi _ => .inr (.inr hi)
  · have h : QBdy w0 W bb (cmdP pa pb T) e w' := by
      cases e with
      | normal => exact h.2
      | ret => exact h.2
      | exit id => exact h.2
      | _ => exact h.elim
    exact hX e a' w' h
end Go.Proofs.YtjbfehippchniaaGreatDoor

/- Pre: once, where there is one command: the range. No condition but those stated. -/
set_option maxRecDepth 100000
set_option linter.unusedVariables false
set_option linter.unusedSimpArgs false
namespace Go.Proofs.YtjbfehippchniaaGreatDoor
open Go.Sh Go.Sh.Lx Go.Sh.Pr Go.RowKit Go.Shelf
variable {w0 w w' : World}
theorem cells_own {W W' : World} {row : Option Nat} {B : Nat} (hg : W.grownBy W' row) (hr : ∀ r, row = some r -> B <= r /\ ∃ o : Obj, W.heap[r]? = some o /\ o.isCells = false) {k : Nat} {c : Array Value} {t : TypeId} {f : Nat × Nat} (h : W.heap[k]? = some (.cells c t f)) : W'.heap[k]? = some (.cells c t f) := by
  rw [hg.block k (blk_lt h) fun e => ?_]
  · exact h
  · obtain ⟨_, o, ho, hc⟩ := hr k e.symm
    rw [h] at ho; cases ho; cases hc
theorem Sto49.own {β : Type} {w : World} {l : List (Tok × SV)} : OwnFrom w.heap.size (fun (_ : β) W => Sto49 w0 w W l) := fun s W W' row hs hg hr => by
  obtain ⟨f, ⟨s', h1, h2⟩, h3, h4⟩ := hs
  refine ⟨⟨hg.os.trans f.os, hg.tape.trans f.tape, hg.output.trans f.output, Nat.le_trans f.size hg.size, fun k hk hn => (hg.block k (Nat.lt_of_lt_of_le hk f.size) fun e => ?_).trans (f.block k hk hn)⟩, ⟨s', cells_own hg hr h1, ?_⟩, cells_own hg hr h3, cells_own hg hr h4⟩
  · have := (hr k e.symm).1; omega
  · obtain ⟨h1, h2 | ⟨g, cur, g1, g2, g3⟩⟩ := h2
    · exact ⟨h1, .inl h2⟩
    · exact ⟨h1, .inr ⟨g, cur, g1, cells_own hg hr g2, g3⟩⟩
theorem Axo.own {p : Addr} {q B B' : Nat} {s1 s2 : SV} {a' : Act} : OwnFrom B' (fun (_ : Unit) W => Axo w0 p q B s1 s2 a' W) := fun s W W' row hs hg hr => by
  obtain ⟨r, h1, h2, h3⟩ := hs.rule
  exact ⟨hs.sz, hs.df, hs.sl, hs.t15, r, h1, h2, cells_own hg hr h3⟩
theorem envOf_set {a : Act} {n i : Nat} {v : Value} (hn : a.tmps.size = n) (hi : i < n) (ds : List Deferred) : envOf { tmps := a.tmps.setIfInBounds i v, defers := ds } i = v /\ ∀ j, j ≠ i -> envOf { tmps := a.tmps.setIfInBounds i v, defers := ds } j = envOf a j := by
  refine ⟨?_, fun j hj => ?_⟩
  · simp [envOf, Array.getElem?_setIfInBounds, hn, hi]
  · simp [envOf, Array.getElem?_setIfInBounds, Ne.symm hj]
end Go.Proofs.YtjbfehippchniaaGreatDoor

/- Pre: once, where there is one command: the range. No condition but those stated. -/
set_option maxRecDepth 100000
set_option linter.unusedVariables false
set_option linter.unusedSimpArgs false
namespace Go.Proofs.YtjbfehippchniaaGreatDoor
open Go.Sh Go.Sh.Lx Go.Sh.Pr Go.RowKit Go.Shelf
variable {w0 w w' : World}
theorem range_one {p : Addr} {s rs s1 s2 : SV} {i b c q : Nat} {T : List (Tok × SV)} {pa pb : List Pt} {a : Act} {w : World} {X : Exit -> Act -> World -> Prop} (h : Sti w0 p s i b c q rs a w) (hlen : rs.len = 1) (hrow : RowAt w 72 3 rs (ruV true s1 s2))
    (hs : CellsR w s T) (hcap : s.len <= s.cap) (ha : RdSl w s1 pa) (hb : RdSl w s2 pb) (ka : ∀ p ∈ pa, p.kind = 0 ∨ p.kind = 1) (kb : ∀ p ∈ pb, p.kind = 0 ∨ p.kind = 1) (la : pa.length <= 1000) (lb : pb.length <= 1000)
    (hT : ∀ t ∈ T, t.1.text.size <= 140737488355328) (hTl : T.length <= 100000) (hf : ∀ l, cmdP pa pb T = some l -> l.length <= 50000)
    (hN : i ≠ 1 ∨ cmdP pa pb T = none -> ∀ a' w', Stt w0 p s i b a' w' -> X .normal a' w')
    (hS : ∀ l, i = 1 -> cmdP pa pb T = some l -> ∀ D w', w.heap.size <= D -> Sto49 w0 w w' l -> w'.heap[D]? = some (.deferred (some [])) -> X .ret { a with defers := { target := .collected D, args := #[] } :: a.defers } w') :
    rng49.wpIn Fence.wide 4 Tryz.prog (Exit.inBlock 6 X) a w := by
  obtain ⟨_, rfl | ⟨g, cur, g1, g2, g3, g4, g5, g6⟩⟩ := hrow
  · cases hlen
  have hcell : ∀ (o : Nat) (v : Value), (ruV true s1 s2)[o]? = some v -> w.cell? ⟨g, 0 + o, none⟩ = some v := fun o v hv => by
    rw [cell_blk g2, Nat.zero_add]
    have ho : o < 3 := (List.getElem?_eq_some_iff.1 hv).1
    rw [← g6, List.getElem?_take, if_pos (by rw [hlen]; omega)] at hv
    simpa using hv
  have hc := cl0 h.bc
  rw [g1, hlen] at hc
  rw [rng49_eq]
  refine wpIn_rangeFunc_ownH (α := Unit) rfl (by omega) (gf := 123) (lb := #[.pointer (some ⟨c, 0, none⟩)]) (eval_env h.t96) trivial enters123 (back_one 3 (by omega) c g 0 rs.cap true s1 s2 w (blk_lt h.bc) (blk_lt g2) hc (hcell 0 _ rfl) (hcell 1 _ rfl) (hcell 2 _ rfl)) (fun _ _ => trivial) (fun _ _ _ _ _ _ _ _ => trivial) (Below.refl _ w) (fun x => rfl)
    (fun xs W => Pu w W /\ (xs ≠ [] -> i ≠ 1 ∨ cmdP pa pb T = none)) (fun cd _ W => cd = .ret /\ i = 1 /\ ∃ l, cmdP pa pb T = some l /\ Sto49 w0 w W l) ?_ ?_ ⟨Pu.refl _, fun h => absurd rfl h⟩ (fun _ a' W => Axo w0 p q w.heap.size s1 s2 a' W) (fun x a' => Axo.own) ?_ ?_ ?_ ?_
  · exact (ownFrom_below (Nat.le_refl _) (Nat.le_refl _)).and (ownFrom_pure _ _)
  · intro cd
    exact (ownFrom_pure _ (fun _ => cd = Code.ret)).and ((ownFrom_pure _ (fun _ => i = 1)).and fun s' W W' row ⟨l, h1, h2⟩ hg hr => ⟨l, h1, Sto49.own (β := Unit) () W W' row h2 hg hr⟩)
  · intro l pre x W K hI hK
    have e1 : ((#[97, 98] : Array Tmp).zip (encR true s1 s2 x)).foldl (fun t (p, v) => t.setIfInBounds p v) a.tmps = (a.tmps.setIfInBounds 97 (.int .i64 0)).setIfInBounds 98 (.agg (ruV true s1 s2).toArray) := by
      rw [← Array.foldl_toList, Array.toList_zip]; rfl
    rw [e1]
    obtain ⟨u1, u2⟩ := envOf_set (a := a) (i := 97) (v := .int .i64 0) h.st.sz (by decide) []
    obtain ⟨v1, v2⟩ := envOf_set (a := { tmps := a.tmps.setIfInBounds 97 (.int .i64 0), defers := [] }) (n := 119) (i := 98) (v := .agg (ruV true s1 s2).toArray) (by simp [h.st.sz]) (by decide) []
    have hk : ∀ j, j ≠ 97 -> j ≠ 98 -> envOf { tmps := (a.tmps.setIfInBounds 97 (.int .i64 0)).setIfInBounds 98 (.agg (ruV true s1 s2).toArray), defers := [] } j = envOf a j := fun j h1 h2 => (v2 j h2).trans (u2 j h1)
    refine asg_one (by simp [h.st.sz]) rfl ⟨(hk 0 (by decide) (by decide)).trans h.st.sl.s0, (hk 3 (by decide) (by decide)).trans h.st.sl.s3, (hk 4 (by decide) (by decide)).trans h.st.sl.s4, (hk 5 (by decide) (by decide)).trans h.st.sl.s5, (hk 6 (by decide) (by decide)).trans h.st.sl.s6⟩ ((hk 15 (by decide) (by decide)).trans h.t15) v1 hI.1.size fun a' W' hp hA => hK a' W' ⟨hp.size, fun k o _ hk _ => hp.blk hk⟩ trivial ⟨hI.1.trans hp, hI.2⟩ hA
  · intro l pre x a' W hBl hL hI hA hlt
    refine bdy_one hA (h.st.on.on hI.1) (hI.1.blk h.bq) (hs.pu hI.1) hcap (ha.pu hI.1) (hb.pu hI.1) ka kb la lb hT hTl hf fun e a'' w' hQ => ?_
    have hz := h.st.on.pu.size
    have hz6 := blk_lt h.st.on.b6
    rcases hQ with ⟨h1, rfl, hp⟩ | ⟨h1, l, h2, rfl, h3⟩
    · refine ⟨⟨hp.size, fun k o _ hk _ => hp.blk hk⟩, trivial, hI.1.trans hp, fun _ => ?_⟩
      rcases h1 with h1 | h1
      · exact .inl (of_decide_eq_false h1)
      · exact .inr h1
    · refine ⟨⟨h3.fr.size, fun k o hB hk _ => h3.fr.blk hk (by omega)⟩, rfl, of_decide_eq_true h1, l, h2, ⟨?_, h3.res, h3.b5, h3.b6⟩⟩
      exact (Fr.pu hI.1 : Fr _ w W).trans h3.fr fun i hi _ => hi
  · intro D xs W hD hxs hI hK
    cases hxs
    exact hN (hI.2 (by simp)) _ _ (h.st.mark hI.1 hD hK)
  · rintro D cd pre W hD _ ⟨rfl, hi, l, hl, hst⟩ hK
    exact wpIn_ret (hS l hi hl D W hD hst hK)
end Go.Proofs.YtjbfehippchniaaGreatDoor

/- Pre: once, where there is one command. No condition but those stated. -/
set_option maxRecDepth 100000
set_option linter.unusedVariables false
set_option linter.unusedSimpArgs false
namespace Go.Proofs.YtjbfehippchniaaGreatDoor
open Go.Sh Go.Sh.Lx Go.Sh.Pr Go.RowKit Go.Shelf
variable {w0 w w' : World}
theorem Mks.at : ∀ {ds : List Deferred}, Mks w ds -> ∀ k, mkB ds k -> w.heap[k]? = some (.deferred (some []))
  | [], _, k, hk => by cases hk
  | d :: ds, ⟨⟨D, e, h1, h2⟩, h3⟩, k, hk => by
    rcases List.mem_cons.1 hk with h | h
    · rw [e] at h
      cases h
      exact h1
    · exact Mks.at h3 k h
theorem CellsR.up {s : SV} {T : List (Tok × SV)} (h : CellsR w s T) (hp : Pu w w') : CellsR w' s T := h.pu hp
theorem tail_one {p : Addr} {D : Defs} {s rs s1 s2 : SV} {T : List (Tok × SV)} {pa pb : List Pt} {a : Act} {w : World} {R : Ending -> World -> Prop} (hS : StA w0 p D rs) (hlen : rs.len = 1) (hrow : RowAt w0 72 3 rs (ruV true s1 s2))
    (hcl : CellsR w0 s T) (hcap : s.len <= s.cap) (ha : RdSl w0 s1 pa) (hb : RdSl w0 s2 pb) (ka : ∀ p ∈ pa, p.kind = 0 ∨ p.kind = 1) (kb : ∀ p ∈ pb, p.kind = 0 ∨ p.kind = 1) (la : pa.length <= 1000) (lb : pb.length <= 1000)
    (hT : ∀ t ∈ T, t.1.text.size <= 140737488355328) (hTl : T.length <= 100000) (hf : ∀ l, cmdP pa pb T = some l -> l.length <= 50000)
    (hs : a.tmps.size = 119) (hd : a.defers = []) (hl : Slt w0 p (envOf a)) (hB : OnB w0 w s)
    (hN : cmdP pa pb T = none -> ∀ w', Pu w0 w' -> R (.returned (.tuple #[.slice none 0 0, .bool false, .int .i64 0])) w')
    (hY : ∀ l, cmdP pa pb T = some l -> ∀ (s' : SV) w', Pu w0 w' -> RowAt w' 112 4 s' (l.flatMap ftV) -> R (.returned (.tuple #[.slice s'.a s'.len s'.cap, .bool true, .int .i64 0])) w') :
    tail49.wpIn Fence.wide 4 Tryz.prog (bodyPostM Fence.wide 4 Tryz.prog Tryz.f49 R) a w := by
  refine tail_enter hs hd hl hB fun b a' w' h0 => ?_
  show (Code.loop rnd49).wpIn Fence.wide 4 Tryz.prog _ a' w'
  have leave : ∀ {i : Nat} {a : Act} {w : World} (l : List (Tok × SV)), cmdP pa pb T = some l -> Stt w0 p s i b a w -> ∀ D w', w.heap.size <= D -> Sto49 w0 w w' l -> w'.heap[D]? = some (.deferred (some [])) ->
      bodyPostM Fence.wide 4 Tryz.prog Tryz.f49 R .ret { a with defers := { target := .collected D, args := #[] } :: a.defers } w' := fun {i a w} l hc h D w' hD hst hK => by
    show LeavesInM Fence.wide 4 Tryz.prog Tryz.f49 a.tmps R ({ target := .collected D, args := #[] } :: a.defers) .returning w'
    obtain ⟨s', r1, r2⟩ := hst.res
    have hz := blk_lt h.on.b6
    have hzz := h.on.pu.size
    have hmk : Mks w' ({ target := .collected D, args := #[] } :: a.defers) := by
      refine ⟨⟨D, rfl, hK, fun d' hd' e => ?_⟩, h.mks.1.fr hst.fr fun k hk => by have := h.mks.2 k hk; omega⟩
      have := h.mks.1.lt D (by unfold mkB; rw [← e]; exact hd')
      omega
    have hge : ∀ k, mkB ({ target := .collected D, args := #[] } :: a.defers) k -> w0.heap.size + 1 + 1 + 1 < k := fun k hk => by
      rcases List.mem_cons.1 hk with e | hk
      · cases e; omega
      · exact h.mks.2 k hk
    refine leave_mks _ hmk fun w3 h3 => ?_
    have keep : ∀ {k : Nat} {o : Obj}, w'.heap[k]? = some o -> k <= w0.heap.size + 1 + 1 + 1 -> w3.heap[k]? = some o := fun {k o} hb hle => h3.blk hb fun hk' => by have := hge k hk'; omega
    refine ⟨_, res49 h.sl (s4 := s') (cl0 (keep r1 (by omega))) (cl0 (keep hst.b5 (by omega))) (cl0 (keep hst.b6 (by omega))), hY l hc s' w3 ?_ ?_⟩
    · exact (h.on.pu.andNew hst.fr fun i hi => by omega).andNew h3 fun i hi => by have := hge i hi; omega
    · refine r2.fr h3 fun k hk hm => ?_
      have h1 := hmk.at k hm
      obtain ⟨_, rfl | ⟨g, cur, g1, g2, _⟩⟩ := r2
      · simp [blkOf] at hk
      · simp [blkOf, g1] at hk
        rw [hk, g2] at h1
        cases h1
  have fin : ∀ {i : Nat} {a : Act} {w : World}, cmdP pa pb T = none -> Stt w0 p s i b a w -> (Exit.inBlock 4 (Exit.then ((sq2 tail49).wpIn Fence.wide 4 Tryz.prog (bodyPostM Fence.wide 4 Tryz.prog Tryz.f49 R)) (bodyPostM Fence.wide 4 Tryz.prog Tryz.f49 R))) (.exit 4) a w := fun {i a w} hc h => by
    simp only [Exit.inBlock, if_true]
    exact tail_end h (hN hc)
  refine wpIn_loop_rounds 3 ?_
  refine rnd_head h0 (fun hi a1 h1 => ?_) fun hi => absurd (by decide) hi
  refine wpIn_seq (wpIn_block ?_)
  refine rnd_in hi h1 hS fun a2 w2 c q h2 => ?_
  have hp2 := h2.st.on.pu
  refine range_one h2 hlen (hrow.pu hp2) (hcl.pu hp2) hcap (ha.pu hp2) (hb.pu hp2) ka kb la lb hT hTl hf (fun _ a3 w3 h3 => ?_) fun l hi1 => absurd hi1 (by decide)
  refine rnd_end hi h3 fun a4 h4 => ?_
  refine rnd_head h4 (fun hi a5 h5 => ?_) fun hi => absurd (by decide) hi
  refine wpIn_seq (wpIn_block ?_)
  refine rnd_in hi h5 hS fun a6 w6 c q h6 => ?_
  have hp6 := h6.st.on.pu
  refine range_one h6 hlen (hrow.pu hp6) (hcl.pu hp6) hcap (ha.pu hp6) (hb.pu hp6) ka kb la lb hT hTl hf (fun hc a7 w7 h7 => ?_) fun l _ hc D w7 hD hst hK => ?_
  · have hc : cmdP pa pb T = none := hc.resolve_left (by decide)
    refine rnd_end hi h7 fun a8 h8 => ?_
    exact rnd_head h8 (fun hi => absurd hi (by decide)) fun hi a9 h9 => fin hc h9
  · exact leave l hc h6.st D w7 hD hst hK
theorem once_one_c {p : Addr} {D : Defs} {rs s s1 s2 : SV} {l : List Ft} {T : List (Tok × SV)} {pa pb : List Pt} (hS : StA w0 p D rs) (hlen : rs.len = 1) (hrow : RowAt w0 72 3 rs (ruV true s1 s2)) (ha : RdSl w0 s1 pa) (hb : RdSl w0 s2 pb)
    (ka : ∀ p ∈ pa, p.kind = 0 ∨ p.kind = 1) (kb : ∀ p ∈ pb, p.kind = 0 ∨ p.kind = 1) (la : pa.length <= 1000) (lb : pb.length <= 1000) (hl : RdSl w0 s l) (hn : l.length <= 10000) (hfr : ∀ x ∈ l, x.fr.length <= 100000)
    (hcl : CellsR w0 s T) (hcap : s.len <= s.cap) (hT : ∀ t ∈ T, t.1.text.size <= 140737488355328) (hf : ∀ l, cmdP pa pb T = some l -> l.length <= 50000) (hdef : defS (dg D) l = none) :
    Calls Tryz.prog 49 #[.pointer (some p), .slice s.a s.len s.cap] w0 fun e w' => Pu w0 w' /\ (cmdP pa pb T = none -> e = .returned (.tuple #[.slice none 0 0, .bool false, .int .i64 0])) /\
      ∀ l', cmdP pa pb T = some l' -> ∃ s' : SV, e = .returned (.tuple #[.slice s'.a s'.len s'.cap, .bool true, .int .i64 0]) /\ RowAt w' 112 4 s' (l'.flatMap ftV) := by
  have hTl : T.length <= 100000 := by
    have h1 := hcl.1
    have h2 := hl.len
    omega
  refine (callsIn_wide (n := 4)).1 (head_calls Tryz.func49 rfl (by show 2 <= 119; decide) (by kernel_rfl) (by kernel_rfl) (F49_p _ (T49n w0 p s (defS (dg D) l = none))) (once_head hS hl hn hfr _ _ (fun l' hd s' w' hr hp => by rw [hdef] at hd; cases hd) (fun hd w' hB => ?_)) ?_)
  · exact ⟨rfl, rfl, rfl, rfl, rfl, rfl, hB, hd⟩
  · intro a w1 hsz hdf hK
    obtain ⟨z0, z3, z4, z5, z6, hB, hd⟩ := T49n_open hK
    refine tail_one hS hlen hrow hcl hcap ha hb ka kb la lb hT hTl hf hsz hdf ⟨z0, z3, z4, z5, z6⟩ hB (fun hc w' hp => ?_) fun l' hc s' w' hp hr => ?_
    · refine ⟨hp, fun _ => rfl, fun l' hl' => ?_⟩
      rw [hc] at hl'; cases hl'
    · refine ⟨hp, fun h => ?_, fun l2 hl2 => ?_⟩
      · rw [hc] at h; cases h
      · rw [hc] at hl2; cases hl2
        exact ⟨s', rfl, hr⟩
end Go.Proofs.YtjbfehippchniaaGreatDoor

/- Pre: a line in which one command is replaced. No condition but those stated. -/
set_option maxRecDepth 100000
set_option linter.unusedVariables false
set_option linter.unusedSimpArgs false
namespace Go.Proofs.YtjbfehippchniaaGreatDoor
open Go.Sh Go.Sh.Lx Go.Sh.Pr Go.RowKit Go.Shelf
variable {w0 w w' : World}
theorem defS_no : ∀ l : List Ft, defS (dg []) l = none
  | [] => rfl
  | x :: l => by
    have h : defAt (dg []) x = none := by
      unfold defAt
      split
      · rfl
      · rfl
    unfold defS
    rw [h]
    dsimp only
    rw [defS_no l]; rfl
structure CmdOk (pa pb : List Pt) (ts ts1 : List Tok) : Prop where
  one : ∀ F : List SV, F.length = ts.length -> ∃ L, cmdP pa pb (ts.zip F) = some L /\ L.map Prod.fst = ts1 /\ ∀ x ∈ L, x.2 = ⟨none, 0, 0⟩ ∨ x.2 ∈ F
  two : ∀ F : List SV, F.length = ts1.length -> cmdP pa pb (ts1.zip F) = none
  ok : ∀ t ∈ ts1, okT t /\ In64 t.kind /\ In64 t.at_
  ne : ts1 ≠ []
  len : ts1.length <= 1000
  join : (joinP ts1).length <= 4000
theorem ftz_zip {l : List Tok} {T : List (Tok × SV)} (h : Ftz w T (l.map hid)) : ∃ F : List SV, F.length = l.length /\ T = l.zip F /\ ∀ f ∈ F, RdSl (α := ByteArray) w f [] := by
  have hl := h.1
  rw [List.length_map] at hl
  have h1 : T.map Prod.fst = l := by
    refine List.ext_getElem? fun i => ?_
    rw [List.getElem?_map]
    cases hx : T[i]? with
    | none => rw [List.getElem?_eq_none_iff] at hx; rw [Option.map_none, List.getElem?_eq_none (by omega)]
    | some x =>
      have hlt := (List.getElem?_eq_some_iff.1 hx).1
      obtain ⟨y, hy⟩ := at_k (l := l) (k := i) (by omega)
      have := (h.2 i x (hid y) hx (by rw [List.getElem?_map, hy]; rfl)).1
      rw [hy, Option.map_some, ← this]; rfl
  refine ⟨T.map Prod.snd, by rw [List.length_map]; exact hl, ?_, fun f hf => ?_⟩
  · rw [← h1, List.zip_map']
    simp
  · obtain ⟨x, hx, rfl⟩ := List.mem_map.1 hf
    obtain ⟨i, hi⟩ := List.mem_iff_getElem?.1 hx
    have hlt := (List.getElem?_eq_some_iff.1 hi).1
    obtain ⟨y, hy⟩ := at_k (l := l) (k := i) (by omega)
    exact (h.2 i x (hid y) hi (by rw [List.getElem?_map, hy]; rfl)).2.1
theorem replaced_one_c (hL : Laid w0) {p : Addr} {rs : SV} {pa pb : List Pt} (hS : StA w0 p [] rs) (hru : RuA w0 rs pa pb)
    (ka : ∀ p ∈ pa, p.kind = 0 ∨ p.kind = 1) (kb : ∀ p ∈ pb, p.kind = 0 ∨ p.kind = 1) (la : pa.length <= 1000) (lb : pb.length <= 1000) (d : List UInt8) (hd : d.length <= 140737488355328) {ts ts1 : List Tok} (ht : tokP d = some ts) (hc : CmdOk pa pb ts ts1) :
    Calls Tryz.prog 20 #[.pointer (some p), .string (bs d)] w0 fun e w' => Pu w0 w' /\ e = .returned (.tuple #[.string (bs (joinP ts1 ++ [10])), .int .i64 0]) := by
  have hl1 := hc.len
  have hjn := hc.join
  refine calls_by (F20_calls _ _ w0) fun R hR => (tokens_c hL d hd).mono ?_
  rintro e w1 ⟨hp1, s, b, rfl, rfl, hrd⟩
  refine ⟨s, _, rfl, ?_⟩
  rw [ht] at hrd ⊢
  have hrd := hrd rfl
  have e2 : tokV2 d = ts := by unfold tokV2; rw [ht]; rfl
  rw [e2] at hrd
  have hlen := tokP_len ht
  have hok := tokP_ok ht
  refine Br.f rfl ((hidden_c hrd hlen).mono ?_)
  rintro e w2 ⟨s2, rfl, hr2, hp2⟩
  refine ⟨s2, rfl, ?_⟩
  have tk : ∀ l : List Tok, tks (l.map hid) = l := fun l => by unfold tks; rw [List.map_map]; exact List.map_id' l
  refine loopUp 2 (fun k t w' => ∃ (s' : SV) (l : List Tok), t = (s', (k : Int)) /\ Pu w0 w' /\ RdSl w' s' (l.map hid) /\ (∀ t ∈ l, okT t) /\ l.length <= 1200 /\ ((k = 0 /\ l = ts) ∨ (k = 1 /\ l = ts1))) ⟨s2, ts, rfl, hp1.trans hp2, hr2, hok, hlen, .inl ⟨rfl, rfl⟩⟩ ?_
  rintro k J t w3 hk ⟨s', l, rfl, hp3, hr3, hokl, hll, hcase⟩ hJ
  dsimp only
  obtain ⟨T, hz, hcl⟩ := rd_cells hr3
  obtain ⟨F, hF, rfl, hnil⟩ := ftz_zip hz
  obtain ⟨hrl, s1, s2, hrow, ha, hb⟩ := hru.pu hp3
  have hfl : ∀ L, cmdP pa pb (l.zip F) = some L -> L.length <= 50000 := fun L hL => by
    rcases hcase with ⟨_, rfl⟩ | ⟨_, rfl⟩
    · obtain ⟨L2, h1, h2, _⟩ := hc.one F hF
      rw [h1] at hL; cases hL
      have := congrArg List.length h2
      rw [List.length_map] at this; omega
    · rw [hc.two F hF] at hL; cases hL
  refine (once_one_c (hS.pu hp3) hrl hrow ha hb ka kb la lb hr3 (by rw [List.length_map]; omega) (fun x hx => by
    obtain ⟨t, ht2, rfl⟩ := List.mem_map.1 hx
    exact Nat.zero_le _) hcl hr3.cap (fun t ht => by
    have := (hokl t.1 (List.of_mem_zip ht).1).2; omega) hfl (defS_no _)).mono ?_
  rintro e w4 ⟨hp4, hn4, hy4⟩
  have hp04 := hp3.trans hp4
  rcases hcase with ⟨rfl, rfl⟩ | ⟨rfl, rfl⟩
  · obtain ⟨L, h1, h2, h3⟩ := hc.one F hF
    obtain ⟨s3, rfl, hr4⟩ := hy4 L h1
    have hLl : L.length = ts1.length := by have := congrArg List.length h2; rwa [List.length_map] at this
    have hz4 : Ftz w4 L (ts1.map hid) := ⟨by rw [List.length_map]; exact hLl, fun i x y hx hy => by
      rw [List.getElem?_map] at hy
      have hxt : ts1[i]? = some x.1 := by rw [← h2, List.getElem?_map, hx]; rfl
      rw [hxt] at hy
      cases hy
      obtain ⟨_, k1, k2⟩ := hc.ok x.1 (List.mem_of_getElem? hxt)
      refine ⟨rfl, ?_, k1, k2⟩
      rcases h3 x (List.mem_of_getElem? hx) with e | e
      · rw [e]; exact RdSl.nil _ _ _
      · exact (hnil _ e).pu hp4⟩
    have hr5 := hz4.rd hr4 (by rw [List.length_map]; omega)
    refine ⟨s3, true, 0, rfl, Br.f rfl (Br.f rfl (Br.f (by decide) ?_))⟩
    have hdt : ∀ t ∈ tks (ts1.map hid), dateOk t := fun t ht => by rw [tk] at ht; exact (hc.ok t ht).1.1
    refine (joinedText_c hr5 (by rw [List.length_map]; omega) hdt (by rw [tk]; omega)).mono ?_
    rintro e w5 ⟨rfl, hp5⟩
    rw [tk]
    refine ⟨_, rfl, ?_⟩
    rw [bs_size_i]
    refine Br.f (decide_eq_false (by omega)) ?_
    rw [wrap_in (by decide) (by decide)]
    exact hJ _ _ (by decide) ⟨s3, ts1, rfl, hp04.trans hp5, hr5.pu hp5, fun t ht => (hc.ok t ht).1, by omega, .inr ⟨rfl, rfl⟩⟩
  · have hn := hn4 (hc.two F hF)
    subst hn
    refine ⟨⟨none, 0, 0⟩, false, 0, rfl, Br.f rfl (Br.t rfl ?_)⟩
    have hsl := hr3.len
    rw [List.length_map] at hsl
    have hpos := List.length_pos_iff.2 hc.ne
    refine Br.f (by rw [beq_dec]; exact decide_eq_false (by omega)) ?_
    have hdt : ∀ t ∈ tks (l.map hid), dateOk t := fun t ht => by rw [tk] at ht; exact (hc.ok t ht).1.1
    refine (joinedText_c (hr3.pu hp4) (by rw [List.length_map]; omega) hdt (by rw [tk]; omega)).mono ?_
    rintro e w5 ⟨rfl, hp5⟩
    rw [tk]
    have e10 : (⟨#[10]⟩ : ByteArray) = bs [10] := rfl
    refine ⟨_, rfl, ?_, ?_⟩
    · rw [e10, cat_bs]; simp; omega
    · rw [e10, bs_append]
      exact hR _ _ ⟨hp04.trans hp5, rfl⟩
end Go.Proofs.YtjbfehippchniaaGreatDoor

/- Pre: Line, with one command. No condition but those stated. -/
set_option maxRecDepth 100000
set_option linter.unusedVariables false
set_option linter.unusedSimpArgs false
namespace Go.Proofs.YtjbfehippchniaaGreatDoor
open Go.Sh Go.Sh.Lx Go.Sh.Pr Go.RowKit Go.Shelf
variable {w0 w w' : World}
theorem line_cmd_c (hL : Laid w0) (hM : MaxL w0) {s : SV} {x : List UInt8} {pa pb : List Pt} (hs : RdSl w0 s [bs x]) (hx : CmdR x pa pb)
    (ka : ∀ p ∈ pa, p.kind = 0 ∨ p.kind = 1) (kb : ∀ p ∈ pb, p.kind = 0 ∨ p.kind = 1) (la : pa.length <= 1000) (lb : pb.length <= 1000) (d : List UInt8) (hd : d.length <= 140737488355328) {ts ts1 : List Tok} (ht : tokP d = some ts) (hc : CmdOk pa pb ts ts1) (hj : Lib.trimSuffix (joinP ts1 ++ [10]) [10] = joinP ts1) :
    Calls Tryz.prog 9 #[.string (bs d), .slice s.a s.len s.cap] w0 fun e w' => e = .returned (.tuple #[.string (bs (joinP ts1)), .int .i64 0]) /\ Pu w0 w' := by
  have hsl : s.len = 1 := hs.len
  have hlim := hs.lim
  have hjn := hc.join
  have hlen := hx.len
  refine calls_by (F9_calls _ _ w0) fun R hR => alE_intro fun w1 hw1 => alE_intro fun w2 hw2 => ?_
  have hp1 : Pu w0 w1 := by rw [hw1]; exact Pu.alloc _ _
  have hp2 : Pu w1 w2 := by rw [hw2]; exact Pu.alloc _ _
  have hMp : Go.Sh.MapAt w1 ekS slV w0.heap.size ([] : List (ByteArray × SV)) := by rw [hw1]; exact Go.Sh.MapAt.new w0 ekS slV
  have hS2 : Stm w0 w2 w1.heap.size w0.heap.size [] (.slice none 0 0) := ⟨hp1.trans hp2, hp1.size, Nat.le_refl _, by rw [hw2]; exact alloc_new _ _, hMp.pu hp2, fun x hx => by cases hx⟩
  have hcell : ∀ {w : World}, Pu w0 w -> ∃ a, s.a = some a /\ (0 : Int) <= ((0 : Nat) : Int) /\ ((0 : Nat) : Int) < ((s.len : Nat) : Int) /\ w.cell? (a.add ((((0 : Nat) : Int)).toNat * 1)) = some (.string (bs x)) := fun {w} hp =>
    RdSl.wd (hs.pu hp) (i := 0) (x := bs x) rfl
  refine loopUp 1 (fun k n w' => n = (k : Int) /\ Stm w0 w' w1.heap.size w0.heap.size [] (.slice none 0 0)) ⟨rfl, hS2⟩ ?_
  rintro k J n w3 hk ⟨rfl, hS3⟩ hJ
  refine Br.of (fun q => ?_) (fun q => ?_)
  · have q := dtrue q
    obtain rfl : k = 0 := by omega
    obtain ⟨a, ha, h1, h2, hc⟩ := hcell hS3.since
    refine ⟨a, ha, h1, h2, _, hc, (check_cmd_c (hL.pu hS3.since) (hM.pu hS3.since) hx).mono ?_⟩
    rintro e w4 ⟨rfl, hp4⟩
    refine ⟨_, rfl, Br.f rfl ?_⟩
    rw [wrap_in (by omega) (by omega)]
    exact hJ _ _ (by omega) ⟨rfl, hS3.pu hp4⟩
  · refine loopUp 1 (fun k n w' => n = (k : Int) /\ ((k = 0 /\ Stm w0 w' w1.heap.size w0.heap.size [] (.slice none 0 0)) ∨ (k = 1 /\ ∃ rs : SV, Stm w0 w' w1.heap.size w0.heap.size [] (slV rs) /\ RuA w' rs pa pb))) ⟨rfl, .inl ⟨rfl, hS3⟩⟩ ?_
    rintro k J2 n w4 hk ⟨rfl, hcs⟩ hJ2
    rcases hcs with ⟨rfl, hS4⟩ | ⟨rfl, rs, hS4, hru⟩
    · refine Br.t (decide_eq_true (by omega)) ?_
      obtain ⟨a, ha, h1, h2, hc⟩ := hcell hS4.since
      refine ⟨a, ha, h1, h2, _, hc, (dir_c (hL.pu hS4.since) x (by omega)).mono ?_⟩
      rintro e w5 ⟨rfl, hp5⟩
      have hS5 := hS4.pu hp5
      refine ⟨_, _, _, rfl, (learn_cmd_c (hL.pu hS5.since) (hM.pu hS5.since) hS5 hx).mono ?_⟩
      rintro e w6 ⟨rfl, s6, hS6, hru⟩
      refine ⟨_, rfl, Br.f rfl ?_⟩
      rw [wrap_in (by omega) (by omega)]
      exact hJ2 _ _ (by omega) ⟨rfl, .inr ⟨rfl, s6, hS6, hru⟩⟩
    · refine Br.f (decide_eq_false (by omega)) ?_
      have hP4 := hS4.since
      refine (replaced_one_c (hL.pu hP4) (Stm.sta hS4) hru ka kb la lb d hd ht hc).mono ?_
      rintro e w5 ⟨hp5, rfl⟩
      refine ⟨_, _, rfl, Br.f rfl ((suffix_c _ (by simp; omega) w5).mono ?_)⟩
      rintro e w6 ⟨rfl, rfl⟩
      refine ⟨_, rfl, ?_⟩
      rw [hj, bs_size]
      exact Br.f (decide_eq_false (by omega)) (hR _ _ ⟨rfl, hP4.trans hp5⟩)
end Go.Proofs.YtjbfehippchniaaGreatDoor

/- Pre: short texts read as tokens by fuel. No condition but those stated. -/
set_option maxRecDepth 100000
set_option linter.unusedVariables false
set_option linter.unusedSimpArgs false
namespace Go.Proofs.YtjbfehippchniaaGreatDoor
open Go.Sh Go.Sh.Lx Go.Sh.Pr Go.RowKit Go.Shelf
variable {w0 w w' : World}
theorem lexN_all : ∀ (n : Nat) (l : List UInt8) (p : Nat) (b : Bool), l.length < n -> lexN n l p b = some (lexS l p b)
  | 0, l, p, b, h => absurd h (Nat.not_lt_zero _)
  | n + 1, [], p, b, _ => by rw [lexS_nil]; rfl
  | n + 1, x :: r, p, b, h => by
    have hr : r.length < n := by simpa using h
    have hd : ∀ m, (r.drop m).length < n := fun m => by rw [List.length_drop]; omega
    have e : lexN (n + 1) (x :: r) p b = (match stepS x r b with
      | .go m => lexN n (r.drop m) (p + 1 + m) b
      | .eol => (lexN n r (p + 1) false).map fun o => ((if b then [endT p] else []) ++ o.1, o.2)
      | .tok k t m => (lexN n (r.drop m) (p + 1 + m) true).map fun o => (⟨k, (p : Int), bs t⟩ :: o.1, o.2)
      | .bad i => some ([], some (p + i))) := rfl
    rw [e]
    cases hs : stepS x r b with
    | go m => rw [lexS_go hs]; exact lexN_all n _ _ _ (hd m)
    | eol => rw [lexS_eol hs]; dsimp only; rw [lexN_all n _ _ _ hr]; rfl
    | tok k t m => rw [lexS_tok hs]; dsimp only; rw [lexN_all n _ _ _ (hd m)]; rfl
    | bad i => rw [lexS_bad hs]
def lexE (d : List UInt8) : List Tok × Int × Int := match lexN 100 d 0 false with
  | some o => (match o.2 with
    | some i => ([], (i : Int), 2)
    | none => if 1200 < o.1.length then ([], 0, 3) else (o.1, (o.1.length : Int), 0))
  | none => ([], 0, 0)
theorem lexF_e {d : List UInt8} (h : d.length < 100) : lexF d = lexE d := by
  unfold lexE
  rw [lexN_all 100 d 0 false h]
  unfold lexF
  rw [if_neg (by omega)]
  rfl
def tokPE (d : List UInt8) : Option (List Tok) :=
  if (lexE d).2.2 ≠ 0 then none else match endP (Z (lexE d).1) with
    | none => some []
    | some k => if k + 1 = (Z (lexE d).1).length then some ((Z (lexE d).1).take k) else none
theorem tokP_e {d : List UInt8} (h : d.length < 100) : tokP d = tokPE d := by
  unfold tokP tokPE
  rw [lexF_e h]
  rfl
def tkCE (x : List UInt8) : Option Tok :=
  if (lexE ([40, 32] ++ x)).2.2 = 0 then (match (lexE ([40, 32] ++ x)).1 with
    | [_, t, _] => if lastBad x then none else if Lib.contains x [38, 38] then none else some (zT t)
    | _ => none) else none
theorem tkC_e {x : List UInt8} (h : x.length < 90) : tkC x = tkCE x := by
  unfold tkC tkCE
  rw [lexF_e (by simp; omega)]
  rfl
def tkGE (d : List UInt8) (i : Nat) : Nat -> Option (Tok × Nat)
  | 0 => none
  | e + 1 => if e + 1 <= i then none else match tkCE ((d.take (e + 1)).drop i) with
    | some t => some (t, e + 1)
    | none => tkGE d i e
theorem tkG_e {d : List UInt8} (h : d.length < 90) (i : Nat) : ∀ e, tkG d i e = tkGE d i e
  | 0 => rfl
  | e + 1 => by
    unfold tkG tkGE
    rw [tkC_e (by rw [List.length_drop, List.length_take]; omega), tkG_e h i e]
    rfl
def rowGE (d : List UInt8) : Nat -> Nat -> Option (List Pt)
  | 0, _ => none
  | n + 1, i => if skipB d i = d.length then some [] else match markS d (skipB d i) with
    | some (nm, e) => (rowGE d n e).map (mkP nm :: ·)
    | none => match tkGE d (skipB d i) d.length with
      | some (t, e) => (rowGE d n e).map (ptT t :: ·)
      | none => none
theorem rowG_e {d : List UInt8} (h : d.length < 90) : ∀ n i, rowG d n i = rowGE d n i
  | 0, i => rfl
  | n + 1, i => by
    unfold rowG rowGE
    rw [tkG_e h]
    have ih := rowG_e h n
    split
    · rfl
    · cases markS d (skipB d i) with
      | some x => dsimp only; rw [ih]
      | none =>
        dsimp only
        cases tkGE d (skipB d i) d.length with
        | some x => dsimp only; rw [ih]
        | none => rfl
end Go.Proofs.YtjbfehippchniaaGreatDoor

/- Pre: the rules that are known. No condition but those stated. -/
set_option maxRecDepth 100000
set_option linter.unusedVariables false
set_option linter.unusedSimpArgs false
namespace Go.Proofs.YtjbfehippchniaaGreatDoor
open Go.Sh Go.Sh.Lx Go.Sh.Pr Go.RowKit Go.Shelf
variable {w0 w w' : World}
def knC : List UInt8 := [35, 67, 79, 77, 77, 65, 78, 68, 32, 85, 80, 83, 69, 82, 84, 32, 60, 102, 62, 32, 87, 73, 84, 72, 32, 60, 118, 62, 32, 61, 62, 32, 82, 69, 80, 76, 65, 67, 69, 32, 60, 102, 62, 32, 87, 73, 84, 72, 32, 60, 118, 62]
def knB : List UInt8 := [85, 80, 83, 69, 82, 84, 32, 60, 102, 62, 32, 87, 73, 84, 72, 32, 60, 118, 62, 32, 61, 62, 32, 82, 69, 80, 76, 65, 67, 69, 32, 60, 102, 62, 32, 87, 73, 84, 72, 32, 60, 118, 62]
def knT : List UInt8 := [117, 112, 115, 101, 114, 116, 32, 97, 32, 119, 105, 116, 104, 32, 49, 32, 43, 32, 50]
def knR : List UInt8 := [82, 69, 80, 76, 65, 67, 69, 32, 65, 32, 87, 73, 84, 72, 32, 49, 32, 43, 32, 50]
def nm1 (l : List UInt8) : Tok := ⟨0, 0, bs l⟩
def knPa : List Pt := [ptT (nm1 [85, 80, 83, 69, 82, 84]), mkP [70], ptT (nm1 [87, 73, 84, 72]), mkP [86]]
def knPb : List Pt := [ptT (nm1 [82, 69, 80, 76, 65, 67, 69]), mkP [70], ptT (nm1 [87, 73, 84, 72]), mkP [86]]
def knTs : List Tok := [nm1 [85, 80, 83, 69, 82, 84], nm1 [65], nm1 [87, 73, 84, 72], ⟨1, 0, bs [49]⟩, ⟨4, 0, bs [43]⟩, ⟨1, 0, bs [50]⟩]
def knTr : List Tok := [nm1 [82, 69, 80, 76, 65, 67, 69], nm1 [65], nm1 [87, 73, 84, 72], ⟨1, 0, bs [49]⟩, ⟨4, 0, bs [43]⟩, ⟨1, 0, bs [50]⟩]
theorem kn_dir : dirS knC = (cmdW, knB, true) := by decide +kernel
theorem kn_cut : cutS knB = some 20 := by decide +kernel
theorem kn_pa : rowGE (knB.take 20) 10 0 = some knPa := by kernel_rfl
theorem kn_pb : rowGE (knB.drop 22) 10 0 = some knPb := by kernel_rfl
theorem kn_cmd : CmdR knC knPa knPb := by
  refine ⟨by decide, by decide, by rw [kn_dir]; exact ⟨rfl, rfl⟩, ⟨20, by rw [kn_dir]; exact kn_cut, ?_, ?_⟩, by decide +kernel⟩
  · rw [kn_dir]
    exact ⟨by unfold Asc; decide, by unfold Flat; decide, ⟨10, by decide, by rw [rowG_e (by decide)]; exact kn_pa⟩, by decide⟩
  · rw [kn_dir]
    exact ⟨by unfold Asc; decide, by unfold Flat; decide, ⟨10, by decide, by rw [rowG_e (by decide)]; exact kn_pb⟩, by decide⟩
theorem kn_tok : tokP knT = some knTs := by rw [tokP_e (by decide)]; decide +kernel
theorem kn_join : joinP knTr = knR := by decide +kernel
theorem six {l : List SV} (h : l.length = 6) : ∃ a b c d e f, l = [a, b, c, d, e, f] := by
  match l, h with
  | [a, b, c, d, e, f], _ => exact ⟨a, b, c, d, e, f, rfl⟩
theorem kn_one (a b c d e f : SV) : cmdP knPa knPb (knTs.zip [a, b, c, d, e, f]) = some [(nm1 [82, 69, 80, 76, 65, 67, 69], ⟨none, 0, 0⟩), (nm1 [65], b), (nm1 [87, 73, 84, 72], ⟨none, 0, 0⟩), (⟨1, 0, bs [49]⟩, d), (⟨4, 0, bs [43]⟩, e), (⟨1, 0, bs [50]⟩, f)] := by kernel_rfl
theorem kn_two (a b c d e f : SV) : cmdP knPa knPb (knTr.zip [a, b, c, d, e, f]) = none := by kernel_rfl
theorem kn_ok : CmdOk knPa knPb knTs knTr := by
  refine ⟨fun F hF => ?_, fun F hF => ?_, ?_, by decide, by decide, by rw [kn_join]; decide⟩
  · obtain ⟨a, b, c, d, e, f, rfl⟩ := six hF
    refine ⟨_, kn_one a b c d e f, rfl, fun x hx => ?_⟩
    simp only [List.mem_cons, List.mem_nil_iff, or_false] at hx
    rcases hx with rfl | rfl | rfl | rfl | rfl | rfl <;> simp
  · obtain ⟨a, b, c, d, e, f, rfl⟩ := six hF
    exact kn_two a b c d e f
  · intro t ht
    simp only [knTr, List.mem_cons, List.mem_nil_iff, or_false] at ht
    rcases ht with rfl | rfl | rfl | rfl | rfl | rfl <;> exact ⟨⟨by unfold dateOk; decide, by decide +kernel⟩, ⟨by decide, by decide⟩, ⟨by decide, by decide⟩⟩
def kn1 : List UInt8 := [35, 68, 69, 70, 73, 78, 69, 32, 65, 32, 66]
def kn2 : List UInt8 := [35, 68, 69, 70, 73, 78, 69, 32, 66, 32, 65]
def knD : List (List UInt8 × (ByteArray × List Tok)) := [(kn1, (bs [65], [nm1 [66]])), (kn2, (bs [66], [nm1 [65]]))]
def defWd : ByteArray := ⟨#[68, 69, 70, 73, 78, 69]⟩
theorem kn_d1 : dirS kn1 = (defWd, [65, 32, 66], true) := by decide +kernel
theorem kn_d2 : dirS kn2 = (defWd, [66, 32, 65], true) := by decide +kernel
theorem kn_r1 : DefR kn1 (bs [65]) [nm1 [66]] := by
  refine ⟨by decide, by decide, by rw [kn_d1]; exact ⟨rfl, rfl⟩, ?_⟩
  rw [kn_d1]
  unfold defD
  rw [tokP_e (by decide)]
  decide +kernel
theorem kn_r2 : DefR kn2 (bs [66]) [nm1 [65]] := by
  refine ⟨by decide, by decide, by rw [kn_d2]; exact ⟨rfl, rfl⟩, ?_⟩
  rw [kn_d2]
  unfold defD
  rw [tokP_e (by decide)]
  decide +kernel
theorem kn_rep : endL (replS (AL.get (knD.foldl putR [])) [65]) = ([65], 0) := by
  unfold replS
  rw [tokP_e (by decide)]
  decide +kernel
end Go.Proofs.YtjbfehippchniaaGreatDoor

/- Pre: what is known: a command makes what the document gives, two definitions end. No condition but those stated. -/
set_option maxRecDepth 100000
set_option linter.unusedVariables false
set_option linter.unusedSimpArgs false
namespace Go.Proofs.YtjbfehippchniaaGreatDoor
open Go.Sh Go.Sh.Lx Go.Sh.Pr Go.RowKit Go.Shelf
theorem known_c : KnownC := fun w hL hM => by
  refine calls_by (F7_calls w) fun R hR => alB fun w1 hp1 hb1 => ?_
  refine (line_cmd_c (hL.pu hp1) (hM.pu hp1) (s := ⟨some ⟨w.heap.size, 0, none⟩, 1, 1⟩) (rd_strs (l := [bs knC]) hb1 (by decide)) kn_cmd (by decide) (by decide) (by decide) (by decide) knT (by decide) kn_tok kn_ok (by rw [kn_join]; decide +kernel)).mono ?_
  rintro e w2 ⟨rfl, hp2⟩
  refine ⟨_, _, rfl, alB fun w3 hp3 hb3 => ?_⟩
  have hP3 := hp1.trans (hp2.trans hp3)
  refine (line_defs_c (hL.pu hP3) (s := ⟨some ⟨w2.heap.size, 0, none⟩, 2, 2⟩) knD (rd_strs (l := [bs kn1, bs kn2]) hb3 (by decide)) (fun x hx => ?_) [65] (by decide)).mono ?_
  · simp only [knD, List.mem_cons, List.mem_nil_iff, or_false] at hx
    rcases hx with rfl | rfl
    · exact kn_r1
    · exact kn_r2
  rintro e w4 ⟨rfl, hp4⟩
  rw [kn_rep, kn_join]
  refine ⟨_, _, rfl, Br.t rfl (Br.t ?_ (Br.t rfl (hR _ _ ⟨?_, hP3.trans hp4⟩)))⟩
  · rw [toList_beq]; exact decide_eq_true rfl
  · rw [toList_beq, decide_eq_true (show bs [65] = (⟨#[65]⟩ : ByteArray) from rfl)]
end Go.Proofs.YtjbfehippchniaaGreatDoor
