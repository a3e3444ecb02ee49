import Derived.Test.YtjbfehippchniaaGreatDoorPrOwF
import Derived.Test.YtjbfehippchniaaGreatDoorPrOwD
import Derived.Test.YtjbfehippchniaaGreatDoorPrPrB
import Derived.Test.YtjbfehippchniaaGreatDoorShThirteen
/- Pre: patterns and results, read. No condition but those stated. -/
set_option maxRecDepth 100000
set_option linter.unusedVariables false
set_option linter.unusedSimpArgs false
namespace Go.Proofs.YtjbfehippchniaaGreatDoor
open Go.Sh Go.Sh.Lx Go.Sh.Pr Go.RowKit Go.Shelf
variable {w0 w w' : World} {r i : Nat} {d : List UInt8} {f : Bool}
instance : Enc Pt where
  sz := 7
  rd _ vs p := vs = ptV p
  len h := by rw [h]; rfl
  pu _ h := h
theorem rd_pts {s : SV} {L : List Pt} (h : RowAt w 128 7 s (L.flatMap ptV)) (hl : L.length <= 100000) : RdSl w s L := by
  have hlen := h.len ptV_len (by decide)
  have hcap := h.le_cap
  refine ⟨hlen, hcap.1, by omega, fun i p hp => ?_⟩
  obtain ⟨a, ha, _, _⟩ := h.elem ptV_len hp (o := 0) rfl
  refine ⟨a, ha, ptV p, rfl, fun j v hv => ?_⟩
  obtain ⟨a', ha', _, hc⟩ := h.elem ptV_len hp (o := j) hv
  rw [ha] at ha'; cases ha'
  exact hc
theorem RdSl.pt {s : SV} {l : List Pt} (h : RdSl w s l) {i : Nat} {p : Pt} (hx : l[i]? = some p) : ∃ a, s.a = some a /\ (0 : Int) <= (i : Int) /\ (i : Int) < ((s.len : Nat) : Int) /\ ∀ (o : Nat) (v : Value), (ptV p)[o]? = some v -> w.cell? ((a.add (((i : Int)).toNat * 7)).add o) = some v := by
  obtain ⟨a, ha, vs, rfl, hc⟩ := h.get i p hx
  have hl := h.len
  have hlt := (List.getElem?_eq_some_iff.1 hx).1
  rw [toNat_i]
  exact ⟨a, ha, by omega, by omega, fun o v hv => hc o v hv⟩
theorem rd_mapP {m : Nat} {es : Array MapEntry} {c : Nat} (hm : w.heap[m]? = some (.map es c)) (hf : Fr (· = m) w w') {s : SV} {l : List Pt} (h : RdSl w s l) : RdSl w' s l :=
  ⟨h.len, h.cap, h.lim, fun i x hx => by
    obtain ⟨a, ha, vs, h1, h2⟩ := h.get i x hx
    exact ⟨a, ha, vs, h1, fun j v hv => cell_map hm hf (h2 j v hv)⟩⟩
def isLit (p : Pt) : Bool := decide (p.kind = 0) && (decide (p.t.kind = 0) || decide (p.t.kind = 4))
theorem lit_c (p : Pt) (w : World) : Calls Tryz.prog 102 #[.agg (ptV p).toArray] w fun e w' => e = .returned (.bool (isLit p)) /\ Pu w w' := by
  refine calls_by (F102_calls _ _ _ _ _ ⟨none, 0, 0⟩ ⟨none, 0, 0⟩ w) fun R hR => alB fun w1 hp1 hb1 => ⟨_, cl0 hb1, ?_⟩
  refine Br.of (fun q => ⟨_, cl hb1 1, Br.of (fun q2 => hR _ _ ⟨?_, hp1⟩) (fun q2 => ⟨_, cl hb1 1, hR _ _ ⟨?_, hp1⟩⟩)⟩) (fun q => hR _ _ ⟨?_, hp1⟩)
  · have q : p.kind = 0 := btrue q
    have q2 : p.t.kind = 0 := btrue q2
    unfold isLit; rw [decide_eq_true q, decide_eq_true q2]; rfl
  · have q : p.kind = 0 := btrue q
    have q2 : ¬ p.t.kind = 0 := bfalse q2
    unfold isLit; rw [decide_eq_true q, decide_eq_false q2, beq_dec]; rfl
  · have q : ¬ p.kind = 0 := bfalse q
    unfold isLit; rw [decide_eq_false q]; rfl
theorem all_nil (w : World) : Calls Tryz.prog 103 #[.slice none 0 0] w fun e w' => e = .returned (.slice none 0 0) /\ w' = w := by
  refine calls_by (F103_calls ⟨none, 0, 0⟩ w) fun R hR => ?_
  intro J hJ
  refine hJ _ _ ?_
  exact Br.f (by decide) (hR _ _ ⟨rfl, rfl⟩)
theorem allP_c {s : SV} {ps : List Pt} (hs : RdSl w0 s ps) (hl : ps.length <= 1000) : Calls Tryz.prog 103 #[.slice s.a s.len s.cap] w0 fun e w' => Pu w0 w' /\ ∃ s' : SV, e = .returned (.slice s'.a s'.len s'.cap) /\ RdSl w' s' ps := by
  have hsl := hs.len
  obtain ⟨i128, hi128, _⟩ := info_parts info128
  refine calls_by (F103_calls _ w0) fun R hR => loopUp ps.length (fun k t w' => ∃ s' : SV, t = (s', (k : Int)) /\ Pu w0 w' /\ RowAt w' 128 7 s' ((ps.take k).flatMap ptV) /\ NewR w0 s') ⟨⟨none, 0, 0⟩, rfl, Pu.refl _, RowAt.nil _ _ _, by simp [NewR, blkOf]⟩ ?_
  rintro k J t w1 hk ⟨s', rfl, hp1, hr1, hn1⟩ hJ
  dsimp only
  refine Br.of (fun q => ?_) (fun q => ?_)
  · have q := dtrue q
    obtain ⟨p, hp⟩ := at_k (l := ps) (k := k) (by omega)
    obtain ⟨a, ha, h1, h2, hc⟩ := RdSl.pt (hs.pu hp1) hp
    refine ⟨a, ha, h1, h2, _, hc 0 _ rfl, _, hc 1 _ rfl, _, hc 2 _ rfl, _, hc 3 _ rfl, _, hc 4 _ rfl, ⟨none, 0, 0⟩, hc 5 _ rfl, ⟨none, 0, 0⟩, hc 6 _ rfl, ?_⟩
    refine boxA (vs := (ptV p).toArray) (zs := pz) rfl (by rw [size128]; rfl) rfl fun w2 hp2 hz2 hb2 => ?_
    refine ⟨_, cl hb2 0, _, cl hb2 1, _, cl hb2 2, _, cl hb2 3, _, cl hb2 4, ⟨none, 0, 0⟩, cl hb2 5, ⟨none, 0, 0⟩, cl hb2 6, alB fun w3 hp3 hb3 => ?_⟩
    have hb23 := hp3.blk hb2
    obtain ⟨s2, w4, hrun, hr4, hf4, hn4⟩ := push_pt (hr1.pu (hp2.trans hp3)) (by rw [List.length_take]; omega) p hb3
    have hP3 := hp1.trans (hp2.trans hp3)
    have hb4 : w4.heap[w1.heap.size]? = some (.cells (ptV p).toArray 128) := hf4.blk hb23 (fun hk => by have := hr1.lt _ hk; omega)
    have hP4 : Pu w0 w4 := hP3.andNew hf4 fun i hi => hn1 i hi
    have hn24 : NewR w0 s2 := fun i hi => by
      rcases hn4 i hi with h | h
      · exact hn1 i h
      · have := hP3.size; omega
    refine ⟨s2, w4, hrun, ⟨none, 0, 0⟩, cl hb4 6, (all_nil w4).mono ?_⟩
    rintro e w5 ⟨rfl, rfl⟩
    refine ⟨⟨none, 0, 0⟩, rfl, s2, w5, row_append_nil Tryz.underlying70 hi128 hr4 0, ?_⟩
    rw [wrap_in (by omega) (by omega)]
    exact hJ _ _ (by omega) ⟨s2, by rw [show (k : Int) + 1 = ((k + 1 : Nat) : Int) by omega], hP4, by rw [take_at hp]; exact hr4, hn24⟩
  · have q := dfalse q
    obtain rfl : k = ps.length := by omega
    rw [List.take_length] at hr1
    exact hR _ _ ⟨hp1, s', rfl, rd_pts hr1 (by omega)⟩
def bV (b : Bool) : Value := .bool b
def chk : List (ByteArray × Bool) -> List Pt -> Bool
  | _, [] => true
  | l, p :: ps => (!decide (p.kind = 0) || isLit p) && !decide (p.kind = 4) && (decide (p.nm = ⟨#[]⟩) || !(AL.get l p.nm).getD false) && chk (AL.put l p.nm true) ps
def patB (ps : List Pt) : Bool := (match ps with
  | [] => false
  | p :: _ => isLit p) && chk [] ps
theorem pattern_c (hL : Laid w0) (hM : MaxL w0) (hd : d.length <= 4000) (hA : Asc d) (hF : Flat d) {n : Nat} (hn : n <= 1000) {ps : List Pt} (hps : rowG d n 0 = some ps) (hpl : ps.length <= 1000) (hpat : patB ps = true) : Calls Tryz.prog 70 #[.string (bs d)] w0 fun e w' => Pu w0 w' /\ ∃ s : SV, e = .returned (.tuple #[.slice s.a s.len s.cap, .bool true]) /\ RdSl w' s ps := by
  refine calls_by (F70_calls _ w0) fun R hR => alE_intro fun w1 hw1 => ?_
  have hS : Rdx w0 w1 w0.heap.size d 0 false := ⟨by rw [hw1]; exact Pu.alloc _ _, Nat.le_refl _, by rw [hw1]; exact alloc_new _ _, Nat.zero_le _, by omega⟩
  refine (row_c hL hM hd hA hF hS hn hps).mono ?_
  rintro e w2 ⟨hp2, s, rfl, hrow⟩
  have hrd := rd_pts hrow (by omega)
  have hsl := hrd.len
  refine ⟨s, _, rfl, Br.f rfl ?_⟩
  unfold patB at hpat
  rw [Bool.and_eq_true] at hpat
  obtain ⟨hp0, hchk⟩ := hpat
  obtain ⟨p, ps', rfl⟩ : ∃ p ps', ps = p :: ps' := by
    cases ps with
    | nil => cases hp0
    | cons p ps' => exact ⟨p, ps', rfl⟩
  rw [List.length_cons] at hsl
  refine Br.f (by rw [beq_dec]; exact decide_eq_false (by omega)) ?_
  obtain ⟨a, ha, h1, h2, hc⟩ := RdSl.pt hrd (i := 0) (p := p) rfl
  refine ⟨a, ha, by omega, by omega, _, hc 0 _ rfl, _, hc 1 _ rfl, _, hc 2 _ rfl, _, hc 3 _ rfl, _, hc 4 _ rfl, ⟨none, 0, 0⟩, hc 5 _ rfl, ⟨none, 0, 0⟩, hc 6 _ rfl, (lit_c p w2).mono ?_⟩
  rintro e w3 ⟨rfl, hp3⟩
  have hp0 : isLit p = true := hp0
  rw [hp0]
  refine ⟨_, rfl, Br.f rfl (alE_intro fun w4 hw4 => ?_)⟩
  have hp4 : Pu w3 w4 := by rw [hw4]; exact Pu.alloc _ _
  have hM4 : Go.Sh.MapAt w4 ekS bV w3.heap.size ([] : List (ByteArray × Bool)) := by rw [hw4]; exact Go.Sh.MapAt.new w3 ekS bV
  have hP4 := hp2.trans (hp3.trans hp4)
  have hm0 : w0.heap.size <= w3.heap.size := (hp2.trans hp3).size
  have hrd4 := hrd.pu (hp3.trans hp4)
  refine (allP_c hrd4 hpl).mono ?_
  rintro e w5 ⟨hp5, s5, rfl, hs5⟩
  have hs5l := hs5.len
  refine ⟨s5, rfl, ?_⟩
  obtain ⟨qs, hqs⟩ : ∃ qs, qs = p :: ps' := ⟨_, rfl⟩
  have hrd5 := hrd4.pu hp5
  rw [← hqs] at hs5 hs5l hchk hpl hrd5 hR
  refine loopUp qs.length (fun k n w' => n = (k : Int) /\ Pu w0 w' /\ RdSl w' s qs /\ RdSl w' s5 qs /\ ∃ l, Go.Sh.MapAt w' ekS bV w3.heap.size l /\ chk l (qs.drop k) = true) ⟨rfl, hP4.trans hp5, hrd5, hs5, [], hM4.pu hp5, hchk⟩ ?_
  rintro k J n w6 hk ⟨rfl, hP6, hr6, hs6, l, hM6, hck⟩ hJ
  refine Br.of (fun q => ?_) (fun q => ?_)
  · have q := dtrue q
    obtain ⟨x, hx⟩ := at_k (l := qs) (k := k) (by omega)
    rw [drop_at hx] at hck
    unfold chk at hck
    simp only [Bool.and_eq_true, Bool.or_eq_true, Bool.not_eq_true', decide_eq_true_eq, decide_eq_false_iff_not] at hck
    obtain ⟨⟨⟨k1, k2⟩, k3⟩, k4⟩ := hck
    obtain ⟨a, ha, h1, h2, hc⟩ := RdSl.pt hs6 hx
    refine ⟨a, ha, h1, h2, _, hc 0 _ rfl, _, hc 1 _ rfl, _, hc 2 _ rfl, _, hc 3 _ rfl, _, hc 4 _ rfl, ⟨none, 0, 0⟩, hc 5 _ rfl, ⟨none, 0, 0⟩, hc 6 _ rfl, ?_⟩
    refine boxA (vs := (ptV x).toArray) (zs := pz) rfl (by rw [size128]; rfl) rfl fun w7 hp7 hz7 hb7 => ⟨_, cl0 hb7, ?_⟩
    -- the name is noted
    have note : ∀ {w8 : World}, Pu w7 w8 -> doE Tryz.prog (Instr.mapUpdate 129 (.map (some w3.heap.size)) (.string x.nm) (.bool true)) w8 fun w13 => F70_2 R J s (some w3.heap.size) s5 ((s5.len : Nat) : Int) (k : Int) [] w13 := fun {w8} hp8 => by
      have hp68 := hp7.trans hp8
      have hM8 := hM6.pu hp68
      obtain ⟨w9, hrun, hM9, hf9, hz9⟩ := hM8.upd (P := Tryz.prog) (kt := 9) (t := 129) (e := 4) (keys_str Tryz.underlying9) (by kernel_rfl) x.nm true
      obtain ⟨es, clk, hmb, _⟩ := hM8
      refine ⟨w9, hrun, ?_⟩
      unfold F70_2
      rw [wrap_in (by omega) (by omega)]
      exact hJ _ _ (by omega) ⟨rfl, (hP6.trans hp68).andNew hf9 fun i hi => by rw [show i = _ from hi]; exact hm0, rd_mapP hmb hf9 (hr6.pu hp68), rd_mapP hmb hf9 (hs6.pu hp68), _, hM9, k4⟩
    -- whether it stood there
    have name : ∀ {w8 : World}, Pu w7 w8 -> w8.heap[w6.heap.size]? = some (.cells (ptV x).toArray 128) -> ∃ s67 : ByteArray, w8.cell? ((⟨w6.heap.size, 0, none⟩ : Addr).add 4) = some (.string s67) /\ Br (!(s67.toList == (⟨#[]⟩ : ByteArray).toList)) (
        ∃ s72 : ByteArray, w8.cell? ((⟨w6.heap.size, 0, none⟩ : Addr).add 4) = some (.string s72) /\ ∃ b73 : Bool, ∃ w11 : World, (Instr.lookup 129 (.map (some w3.heap.size)) (.string s72) false).run Tryz.prog w8 = .ok (.bool b73) w11 /\ Br b73 (
          R (.returned (.tuple #[.slice none 0 0, .bool false])) w11) (∃ s77 : ByteArray, w11.cell? ((⟨w6.heap.size, 0, none⟩ : Addr).add 4) = some (.string s77) /\ doE Tryz.prog (Instr.mapUpdate 129 (.map (some w3.heap.size)) (.string s77) (.bool true)) w11 fun w13 => F70_2 R J s (some w3.heap.size) s5 ((s5.len : Nat) : Int) (k : Int) [] w13)) (
        ∃ s77 : ByteArray, w8.cell? ((⟨w6.heap.size, 0, none⟩ : Addr).add 4) = some (.string s77) /\ doE Tryz.prog (Instr.mapUpdate 129 (.map (some w3.heap.size)) (.string s77) (.bool true)) w8 fun w14 => F70_2 R J s (some w3.heap.size) s5 ((s5.len : Nat) : Int) (k : Int) [] w14) := fun {w8} hp8 hb8 => by
      refine ⟨_, cl hb8 4, ?_⟩
      rw [toList_beq]
      refine Br.of (fun q2 => ?_) (fun q2 => ⟨_, cl hb8 4, note hp8⟩)
      have q2 : x.nm ≠ ⟨#[]⟩ := by simpa using q2
      have k3 : (AL.get l x.nm).getD false = false := by
        rcases k3 with h | h
        · exact absurd h q2
        · exact h
      have hlook := (hM6.pu (hp7.trans hp8)).look (P := Tryz.prog) (kt := 9) (t := 129) (e := 4) (keys_str Tryz.underlying9) (by kernel_rfl) (z := .bool false) (Tryz.zeroValue4 _) x.nm false
      have e9 : (AL.get l x.nm).elim (Value.bool false) bV = .bool false := by
        cases hg : AL.get l x.nm with
        | none => rfl
        | some b => rw [hg] at k3; have : b = false := k3
                    subst this; rfl
      rw [if_neg (by decide), e9] at hlook
      exact ⟨_, cl hb8 4, false, w8, hlook, Br.f rfl ⟨_, cl hb8 4, note hp8⟩⟩
    refine Br.of (fun q1 => ?_) (fun q1 => ?_)
    · have q1 : x.kind = 0 := btrue q1
      have hlit : isLit x = true := by
        rcases k1 with h | h
        · exact absurd q1 h
        · exact h
      refine ⟨_, cl hb7 0, _, cl hb7 1, _, cl hb7 2, _, cl hb7 3, _, cl hb7 4, ⟨none, 0, 0⟩, cl hb7 5, ⟨none, 0, 0⟩, cl hb7 6, (lit_c x w7).mono ?_⟩
      rintro e w8 ⟨rfl, hp8⟩
      rw [hlit]
      refine ⟨_, rfl, Br.f rfl ⟨_, cl0 (hp8.blk hb7), Br.f (by rw [beq_dec]; exact decide_eq_false k2) (name hp8 (hp8.blk hb7))⟩⟩
    · exact ⟨_, cl0 hb7, Br.f (by rw [beq_dec]; exact decide_eq_false k2) (name (Pu.refl _) hb7)⟩
  · have q := dfalse q
    exact hR _ _ ⟨hP6, s, rfl, hr6⟩
theorem result_c (hL : Laid w0) (hM : MaxL w0) (hd : d.length <= 4000) (hA : Asc d) (hF : Flat d) {n : Nat} (hn : n <= 1000) {ps : List Pt} (hps : rowG d n 0 = some ps) (hpl : ps.length <= 1000) : Calls Tryz.prog 71 #[.string (bs d)] w0 fun e w' => Pu w0 w' /\ ∃ s : SV, e = .returned (.tuple #[.slice s.a s.len s.cap, .bool true]) /\ RdSl w' s ps := by
  refine calls_by (F71_calls _ w0) fun R hR => alE_intro fun w1 hw1 => ?_
  have hS : Rdx w0 w1 w0.heap.size d 0 true := ⟨by rw [hw1]; exact Pu.alloc _ _, Nat.le_refl _, by rw [hw1]; exact alloc_new _ _, Nat.zero_le _, by omega⟩
  refine (row_c hL hM hd hA hF hS hn hps).mono ?_
  rintro e w2 ⟨hp2, s, rfl, hrow⟩
  exact ⟨s, _, rfl, hR _ _ ⟨hp2, s, rfl, rd_pts hrow (by omega)⟩⟩
end Go.Proofs.YtjbfehippchniaaGreatDoor

/- Pre: a rule cut at its arrow. No condition but those stated. -/
set_option maxRecDepth 100000
set_option linter.unusedVariables false
set_option linter.unusedSimpArgs false
namespace Go.Proofs.YtjbfehippchniaaGreatDoor
open Go.Sh Go.Sh.Lx Go.Sh.Pr Go.RowKit Go.Shelf
attribute [local go_sem] Oper.semAt_some
def arrow (d : List UInt8) (i : Nat) : Bool := hasS d i [61, 62]
def cutS (d : List UInt8) : Option Nat := (outS 0 0 d).find? (arrow d)
theorem find_no {α : Type} {p : α -> Bool} {l : List α} (h : ∀ y ∈ l, p y = false) : l.find? p = none := List.find?_eq_none.2 fun y hy => by rw [h y hy]; decide
theorem blk_kept {A B : World} {row : Option Nat} {k : Nat} {c : Array Value} {t : TypeId} (h : A.heap[k]? = some (.cells c t)) (hg : A.grownBy B row) (hr : ∀ r, row = some r -> ∃ o : Obj, A.heap[r]? = some o /\ o.isCells = false) : B.heap[k]? = some (.cells c t) := by
  refine (hg.block k (blk_lt h) fun e => ?_).trans h
  obtain ⟨o, ho, hc⟩ := hr k e.symm
  rw [h] at ho; cases ho; cases hc
def Bx4 (N : Nat) (s2 s3 : ByteArray) (b4 : Bool) (d : List UInt8) (W : World) : Prop := W.heap[N]? = some (.cells #[.string (bs d)] 9) /\ W.heap[N + 1]? = some (.cells #[.string s2] 9) /\ W.heap[N + 1 + 1]? = some (.cells #[.string s3] 9) /\ W.heap[N + 1 + 1 + 1]? = some (.cells #[.bool b4] 4)
theorem Bx4.kept {N : Nat} {s2 s3 : ByteArray} {b4 : Bool} {d : List UInt8} {A B : World} {row : Option Nat} (h : Bx4 N s2 s3 b4 d A) (hg : A.grownBy B row) (hr : ∀ r, row = some r -> ∃ o : Obj, A.heap[r]? = some o /\ o.isCells = false) : Bx4 N s2 s3 b4 d B :=
  ⟨blk_kept h.1 hg hr, blk_kept h.2.1 hg hr, blk_kept h.2.2.1 hg hr, blk_kept h.2.2.2 hg hr⟩
set_option maxHeartbeats 4000000 in
theorem split_c (d : List UInt8) (hd : d.length <= 4294967280) {i : Nat} (hi : cutS d = some i) (w : World) : Calls Tryz.prog 69 #[.string (bs d)] w fun e w' => e = .returned (.tuple #[.string (bs (d.take i)), .string (bs (d.drop (i + 2))), .bool true]) /\ Pu w w' := by
  refine (callsIn_wide (n := 4)).1 ?_
  refine callsIn_of_wp_marks Tryz.func69 rfl trivial ?_ rfl
  simp only [Tryz.ntmps69, List.size_toArray, List.length_cons, List.length_nil, Nat.reduceAdd, Nat.reduceSub, Array.replicate_succ, Array.replicate_zero, List.push_toArray, List.append_toArray, List.nil_append, List.cons_append]
  gi_wp2_with (refine ⟨trivial, ?_⟩; gi_at_call 73; refine (callsIn_wide.2 (outside_c d _)).mono ?_; rintro e w' ⟨rfl, rfl⟩)
  generalize hw1 : w.alloc (.cells #[.string (bs d)] 9) = w1
  generalize hw2 : w1.alloc (.cells #[.string ⟨#[]⟩] 9) = w2
  generalize hw3 : w2.alloc (.cells #[.string ⟨#[]⟩] 9) = w3
  generalize hw4 : w3.alloc (.cells #[.bool false] 4) = w4
  generalize hw5 : w4.alloc (.cells #[.string (bs d)] 9) = w5
  obtain ⟨N, hN⟩ : ∃ N, N = w.heap.size := ⟨_, rfl⟩
  have z1 : w1.heap.size = N + 1 := by rw [← hw1, hN]; simp
  have z2 : w2.heap.size = N + 1 + 1 := by rw [← hw2]; simp [z1]
  have z3 : w3.heap.size = N + 1 + 1 + 1 := by rw [← hw3]; simp [z2]
  have z4 : w4.heap.size = N + 1 + 1 + 1 + 1 := by rw [← hw4]; simp [z3]
  have z5 : w5.heap.size = N + 1 + 1 + 1 + 1 + 1 := by rw [← hw5]; simp [z4]
  have p1 : Pu w w1 := by rw [← hw1]; exact Pu.alloc _ _
  have p2 : Pu w1 w2 := by rw [← hw2]; exact Pu.alloc _ _
  have p3 : Pu w2 w3 := by rw [← hw3]; exact Pu.alloc _ _
  have p4 : Pu w3 w4 := by rw [← hw4]; exact Pu.alloc _ _
  have p5 : Pu w4 w5 := by rw [← hw5]; exact Pu.alloc _ _
  have b0 : w1.heap[N]? = some (.cells #[.string (bs d)] 9) := by rw [← hw1, hN]; exact alloc_new _ _
  have b1 : w2.heap[N + 1]? = some (.cells #[.string ⟨#[]⟩] 9) := by rw [← hw2, ← z1]; exact alloc_new _ _
  have b2 : w3.heap[N + 1 + 1]? = some (.cells #[.string ⟨#[]⟩] 9) := by rw [← hw3, ← z2]; exact alloc_new _ _
  have b3 : w4.heap[N + 1 + 1 + 1]? = some (.cells #[.bool false] 4) := by rw [← hw4, ← z3]; exact alloc_new _ _
  have b4 : w5.heap[N + 1 + 1 + 1 + 1]? = some (.cells #[.string (bs d)] 9) := by rw [← hw5, ← z4]; exact alloc_new _ _
  have hB0 : Below N w w5 := by rw [hN]; exact p1.trans (p2.trans (p3.trans (p4.trans p5)))
  have hBx : Bx4 N ⟨#[]⟩ ⟨#[]⟩ false d w5 := ⟨p5.blk (p4.blk (p3.blk (p2.blk b0))), p5.blk (p4.blk (p3.blk b1)), p5.blk (p4.blk b2), p5.blk b3⟩
  rw [← hN]
  have hsz := bs_size d
  have hidx : ∀ pre : List (Pl d), vals pre <+: outS 0 0 d -> (vals pre).find? (arrow d) = some i -> True := fun _ _ _ => trivial
  refine wpIn_rangeFunc_ownF rfl (by omega) (gf := 111) (lb := #[.pointer (some ⟨N + 1 + 1 + 1 + 1, 0, none⟩)]) rfl trivial enters111
    (outside_stops 3 (by omega) (N + 1 + 1 + 1 + 1) d hd w5 (by omega) (cl0 b4)) kpC_t kpC_b (Below.refl _ _) (fun _ => rfl)
    (fun pre W => ((∀ y ∈ vals pre, arrow d y = false) /\ Bx4 N ⟨#[]⟩ ⟨#[]⟩ false d W) /\ Below N w W)
    (fun c pre W => (c = .ret /\ ∃ j, (vals pre).find? (arrow d) = some j /\ Bx4 N (bs (d.take j)) (bs (d.drop (j + 2))) true d W) /\ Below N w W)
    (OwnFrom.and (Own.from (fun s A B row hs hg hr => ⟨hs.1, hs.2.kept hg hr⟩) _) (ownFrom_below (by omega) (by omega)))
    (fun c => OwnFrom.and (Own.from (fun s A B row hs hg hr => ⟨hs.1, let ⟨j, h1, h2⟩ := hs.2; ⟨j, h1, h2.kept hg hr⟩⟩) _) (ownFrom_below (by omega) (by omega)))
    ⟨⟨fun y hy => (by cases hy), hBx⟩, hB0⟩
    (fun x => { tmps := #[.string (bs d), .pointer (some ⟨N, 0, none⟩), .pointer (some ⟨N + 1, 0, none⟩), .pointer (some ⟨N + 1 + 1, 0, none⟩), .pointer (some ⟨N + 1 + 1 + 1, 0, none⟩), .int .i64 ((x.1 : Nat) : Int), .string (bs d), .func (.func 111) #[] #[.pointer (some ⟨N + 1 + 1 + 1 + 1, 0, none⟩)], .int .i64 ((x.1 : Nat) : Int), undef, undef, undef, undef, undef, undef, undef, undef, undef, undef, undef], defers := [] }) ?assign ?body ?done ?stop
  case assign =>
    intro l x W K hK
    subst hN
    gi_wp2
    exact hK
  case body =>
    rintro l pre ⟨k, hk⟩ W ⟨⟨hp, hb⟩, hB⟩ _
    refine body_in (m := 20) (by kernel_rfl) (by kernel_rfl) (by rfl) ?_
    refine Eq.mpr (show _ = (∃ s9 : ByteArray, W.cell? ⟨N, 0, none⟩ = some (.string s9) /\ s9.size <= s9.size /\ 0 <= (k : Int) /\ (k : Int).toNat <= s9.size /\
      Calls Tryz.prog 41 #[.string (s9.extract (k : Int).toNat s9.size), .string (⟨#[61, 62]⟩ : ByteArray)] W fun e w2 => ∃ b12 : Bool, e = .returned (.bool b12) /\ Br b12 (
        dwE w2 fun w3 => ∃ S1 : World -> Prop, S1 w3 /\ ∃ s13 : ByteArray, (∀ w', S1 w' -> w'.cell? ⟨N, 0, none⟩ = some (.string s13)) /\ 0 <= (k : Int) /\ (k : Int).toNat <= s13.size /\ 0 <= (k : Int).toNat /\
        ∃ s16 : ByteArray, (∀ w', S1 w' -> w'.cell? ⟨N, 0, none⟩ = some (.string s16)) /\ s16.size <= s16.size /\ 0 <= (IntKind.i64.wrap ((k : Int) + 2)) /\ (IntKind.i64.wrap ((k : Int) + 2)).toNat <= s16.size /\
        st1 ⟨N + 1, 0, none⟩ (.string (s13.extract 0 (k : Int).toNat)) w3 fun w7 => S1 w7 /\
        st1 ⟨N + 1 + 1, 0, none⟩ (.string (s16.extract ((IntKind.i64.wrap ((k : Int) + 2)).toNat) s16.size)) w7 fun w9 =>
        st1 ⟨N + 1 + 1 + 1, 0, none⟩ (.bool true) w9 fun w11 => ∀ a', ownPostK (KpC (N + 1 + 1 + 1 + 1) d) (fun pre W => ((∀ y ∈ vals pre, arrow d y = false) /\ Bx4 N ⟨#[]⟩ ⟨#[]⟩ false d W) /\ Below N w W) (fun c pre W => (c = .ret /\ ∃ j, (vals pre).find? (arrow d) = some j /\ Bx4 N (bs (d.take j)) (bs (d.drop (j + 2))) true d W) /\ Below N w W) (pre ++ [⟨k, hk⟩]) W .ret a' w11) (
        ∀ a', ownPostK (KpC (N + 1 + 1 + 1 + 1) d) (fun pre W => ((∀ y ∈ vals pre, arrow d y = false) /\ Bx4 N ⟨#[]⟩ ⟨#[]⟩ false d W) /\ Below N w W) (fun c pre W => (c = .ret /\ ∃ j, (vals pre).find? (arrow d) = some j /\ Bx4 N (bs (d.take j)) (bs (d.drop (j + 2))) true d W) /\ Below N w W) (pre ++ [⟨k, hk⟩]) W .normal a' w2)) by kernel_rfl) ?_
    refine ⟨bs d, cl0 hb.1, Nat.le_refl _, by omega, by rw [toNat_i, hsz]; omega, ?_⟩
    rw [toNat_i, extract_drop]
    refine (hasPrefix_c (d.drop k) [61, 62] W).mono ?_
    rintro e w2 ⟨rfl, rfl⟩
    refine ⟨_, rfl, ?_⟩
    show Br (arrow d k) _ _
    cases ha : arrow d k with
    | false =>
      refine Br.f rfl fun a' => ⟨KeepsOthers.refl _, fun h => h, ⟨fun y hy => ?_, hb⟩, hB⟩
      rw [vals_snoc] at hy
      rcases List.mem_append.1 hy with hy | hy
      · exact hp y hy
      · obtain rfl : y = k := by simpa using hy
        exact ha
    | true =>
      have hk2 := (hasS_le (show hasS d k [61, 62] = true from ha)).resolve_right (by simp)
      have hk2 : k + 2 <= d.length := hk2
      refine Br.t rfl (dwE_intro fun w3 hp3 hh3 => ?_)
      have c0 := hp3.blk hb.1
      refine ⟨fun w' => w'.heap[N]? = some (.cells #[.string (bs d)] 9), c0, bs d, fun w' h' => cl0 h', by omega, by rw [hsz]; omega, by omega, bs d, fun w' h' => cl0 h', Nat.le_refl _, ?_⟩
      rw [wrap_in (by omega) (by omega), show (k : Int) + 2 = ((k + 2 : Nat) : Int) from rfl, toNat_i, extract_take, List.drop_zero, extract_drop]
      refine ⟨by omega, by rw [hsz]; omega, ?_⟩
      refine st1_intro (o := 0) (hp3.blk hb.2.1) (by simp) fun w5' hw5' h51 => ?_
      have f5 : Fr (· = N + 1) w3 w5' := by rw [hw5']; exact Fr.setCell w3 ⟨_, 0, none⟩ _
      refine ⟨f5.blk c0 (by omega), ?_⟩
      refine st1_intro (o := 0) (f5.blk (hp3.blk hb.2.2.1) (by omega)) (by simp) fun w6' hw6' h62 => ?_
      have f6 : Fr (· = N + 1 + 1) w5' w6' := by rw [hw6']; exact Fr.setCell w5' ⟨_, 0, none⟩ _
      refine st1_intro (o := 0) (f6.blk (f5.blk (hp3.blk hb.2.2.2) (by omega)) (by omega)) (by simp) fun w7' hw7' h73 => ?_
      have f7 : Fr (· = N + 1 + 1 + 1) w6' w7' := by rw [hw7']; exact Fr.setCell w6' ⟨_, 0, none⟩ _
      intro a'
      refine ⟨?_, ⟨rfl, k, ?_, f7.blk (f6.blk (f5.blk c0 (by omega)) (by omega)) (by omega), f7.blk (f6.blk h51 (by omega)) (by omega), f7.blk h62 (by omega), h73⟩, ?_⟩
      · have k0 : KeepsOthers w2 w3 := ⟨hp3.size, fun j o hj _ => by rw [hh3]; exact hj⟩
        rw [hw7', hw6', hw5']
        exact ((k0.trans (KeepsOthers.setCell _ _ _)).trans (KeepsOthers.setCell _ _ _)).trans (KeepsOthers.setCell _ _ _)
      · rw [vals_snoc, List.find?_append, find_no hp, Option.none_or, List.find?_cons, ha]
      · have hB3 : Below N w w3 := hB.trans (hp3.mono (by have := blk_lt hb.1; omega))
        rw [hw7', hw6', hw5']
        exact ((hB3.setCell (p := ⟨N + 1, 0, none⟩) (by simp) _).setCell (p := ⟨N + 1 + 1, 0, none⟩) (by show N <= N + 1 + 1; omega) _).setCell (p := ⟨N + 1 + 1 + 1, 0, none⟩) (by show N <= N + 1 + 1 + 1; omega) _
  case done =>
    rintro D ys W hD hys ⟨⟨hne, hb⟩, hB⟩ hK
    exfalso
    have : cutS d = none := by unfold cutS; rw [← hys]; exact find_no hne
    rw [this] at hi; cases hi
  case stop =>
    rintro D c pre W hD hpre ⟨⟨rfl, j, hj, hb⟩, hB⟩ hK
    have hij : j = i := by
      obtain ⟨t, ht⟩ := hpre
      have : cutS d = some j := by unfold cutS; rw [← ht, List.find?_append, hj]; rfl
      rw [this] at hi; exact Option.some.inj hi
    subst hij
    subst hN
    gi_wp2
    refine ⟨by simp, .inl ⟨_, _, rfl, run_takeDeferred hK, ?_⟩⟩
    have hg := grownBy_putObj' W D (.deferred none)
    have hr : ∀ r, some D = some r -> ∃ o : Obj, W.heap[r]? = some o /\ o.isCells = false := fun r e => by cases e; exact ⟨_, hK, rfl⟩
    have hb2 := hb.kept hg hr
    have c2 := cl0 hb2.2.1
    have c3 := cl0 hb2.2.2.1
    have c4 := cl0 hb2.2.2.2
    refine ⟨.tuple #[.string (bs (d.take j)), .string (bs (d.drop (j + 2))), .bool true], ?_, rfl, ?_⟩
    · simp [results, Tryz.f69, go_sem, c2, c3, c4]
    · exact hB.trans (belowK_b (w := w) (Nat.le_refl _) W D _ _ (by omega) hK rfl rfl)
end Go.Proofs.YtjbfehippchniaaGreatDoor

/- Pre: a command, read and learnt. No condition but those stated. -/
set_option maxRecDepth 100000
set_option linter.unusedVariables false
set_option linter.unusedSimpArgs false
namespace Go.Proofs.YtjbfehippchniaaGreatDoor
open Go.Sh Go.Sh.Lx Go.Sh.Pr Go.RowKit Go.Shelf
variable {w0 w w' : World}
structure RowOk (d : List UInt8) (ps : List Pt) : Prop where
  asc : Asc d
  flat : Flat d
  row : ∃ n, n <= 1000 /\ rowG d n 0 = some ps
  len : ps.length <= 1000
def cmdW : ByteArray := ⟨#[67, 79, 77, 77, 65, 78, 68]⟩
structure CmdR (x : List UInt8) (a b : List Pt) : Prop where
  len : x.length <= 200
  one : x.contains 10 = false
  dir : (dirS x).1 = cmdW /\ (dirS x).2.2 = true
  cut : ∃ i, cutS (dirS x).2.1 = some i /\ RowOk ((dirS x).2.1.take i) a /\ RowOk ((dirS x).2.1.drop (i + 2)) b
  pat : patB a = true
theorem size72 : sizeB Tryz.prog 72 = 3 := by kernel_rfl
theorem info72 : (Tryz.prog.info? 72).map (fun i => (i.zero, i.size, i.bytes)) = some (some (.agg #[.bool false, .slice none 0 0, .slice none 0 0]), 3, 56) := by kernel_rfl
def ruV (b : Bool) (s1 s2 : SV) : List Value := [.bool b, .slice s1.a s1.len s1.cap, .slice s2.a s2.len s2.cap]
theorem stR {b : Nat} {c : Array Value} (c1 : Bool) (s1 s2 : SV) (hb : w.heap[b]? = some (.cells c 72)) (hc : c.size = 3) {K : World -> Prop} (hK : ∀ w', w'.heap[b]? = some (.cells (ruV c1 s1 s2).toArray 72) -> Fr (· = b) w w' -> K w') : stA Tryz.prog 72 ⟨b, 0, none⟩ (ruV c1 s1 s2).toArray w K := by
  refine ⟨by rw [size72]; rfl, rfl, ?_⟩
  refine stL_fill (ruV c1 s1 s2) 0 c w K hb (by rw [hc]; rfl) fun w' h1 h2 h3 h4 h5 h6 => hK w' ?_ ⟨h4, h5, h6, by omega, fun k hk hn => h3 k hn⟩
  rw [h1]; rfl
theorem add_block (a : Addr) (n : Nat) : (a.add n).block = a.block := by
  unfold Addr.add; split <;> rfl
theorem add_off (a : Addr) (n : Nat) : (a.add n).off = a.off + n := by
  unfold Addr.add; split
  · omega
  · rfl
theorem rd_small {b : Nat} {c : Array Value} {t : TypeId} (hb : w.heap[b]? = some (.cells c t)) (hc : c.size < 7) (hf : Fr (· = b) w w') {s : SV} {l : List Pt} (h : RdSl w s l) : RdSl w' s l :=
  ⟨h.len, h.cap, h.lim, fun i x hx => by
    obtain ⟨a, ha, vs, h1, h2⟩ := h.get i x hx
    refine ⟨a, ha, vs, h1, fun j v hv => ?_⟩
    have h6 := h2 6 (.slice none 0 0) (by rw [show vs = ptV x from h1]; rfl)
    have hne : (a.add (i * Enc.sz Pt)).block ≠ b := fun e => by
      unfold World.cell? at h6
      rw [add_block, e, hb] at h6
      simp only [] at h6
      split at h6
      · cases h6
      · rw [add_off] at h6
        have := (Array.getElem?_eq_some_iff.1 h6).1
        omega
    have h3 := h2 j v hv
    have hlt : (a.add (i * Enc.sz Pt)).block < w.heap.size := by
      rcases Nat.lt_or_ge (a.add (i * Enc.sz Pt)).block w.heap.size with h9 | h9
      · exact h9
      · unfold World.cell? at h3
        rw [add_block, Array.getElem?_eq_none h9] at h3
        cases h3
    rw [show w'.cell? ((a.add (i * Enc.sz Pt)).add j) = w.cell? ((a.add (i * Enc.sz Pt)).add j) from by
      unfold World.cell?
      rw [add_block, hf.block _ hlt hne]]
    exact h3⟩
theorem readRule_c (hL : Laid w0) (hM : MaxL w0) {x : List UInt8} {a b : List Pt} (h : CmdR x a b) : Calls Tryz.prog 38 #[.string cmdW, .string (bs (dirS x).2.1)] w0 fun e w' => Pu w0 w' /\ ∃ s1 s2 : SV, e = .returned (.tuple #[.agg (ruV true s1 s2).toArray, .bool true]) /\ RdSl w' s1 a /\ RdSl w' s2 b := by
  obtain ⟨i, hi, ha, hb⟩ := h.cut
  have hlen := h.len
  have htl := trim_le2 x
  refine calls_by (F38_calls _ _ w0) fun R hR => alB fun w1 hp1 hb1 => (split_c _ (by omega) hi w1).mono ?_
  rintro e w2 ⟨rfl, hp2⟩
  have hP2 := hp1.trans hp2
  obtain ⟨n1, hn1, hr1⟩ := ha.row
  obtain ⟨n2, hn2, hr2⟩ := hb.row
  refine ⟨_, _, _, rfl, Br.f rfl ((pattern_c (hL.pu hP2) (hM.pu hP2) (by rw [List.length_take]; omega) ha.asc ha.flat hn1 hr1 ha.len h.pat).mono ?_)⟩
  rintro e w3 ⟨hp3, s1, rfl, hs1⟩
  have hP3 := hP2.trans hp3
  refine ⟨s1, _, rfl, (result_c (hL.pu hP3) (hM.pu hP3) (by rw [List.length_drop]; omega) hb.asc hb.flat hn2 hr2 hb.len).mono ?_⟩
  rintro e w4 ⟨hp4, s2, rfl, hs2⟩
  have hP4 := hP3.trans hp4
  have hb4 := hp4.blk (hp3.blk (hp2.blk hb1))
  have hc0 : (cmdW.toList == (⟨#[67, 79, 77, 77, 65, 78, 68]⟩ : ByteArray).toList) = true := by rw [toList_beq]; exact decide_eq_true rfl
  refine ⟨s2, _, rfl, Br.t rfl ?_⟩
  rw [hc0]
  refine stR true s1 s2 hb4 rfl fun w5 hb5 hf5 => ?_
  have hs1' := rd_small hb4 (by decide) hf5 (hs1.pu hp4)
  have hs2' := rd_small hb4 (by decide) hf5 hs2
  refine ⟨_, cl hb5 0, s1, cl hb5 1, s2, cl hb5 2, hR _ _ ⟨hP4.andNew hf5 fun i hi => by rw [show i = _ from hi]; exact Nat.le_refl _, s1, s2, rfl, hs1', hs2'⟩⟩
end Go.Proofs.YtjbfehippchniaaGreatDoor

/- Pre: a command, checked and learnt. No condition but those stated. -/
set_option maxRecDepth 100000
set_option linter.unusedVariables false
set_option linter.unusedSimpArgs false
namespace Go.Proofs.YtjbfehippchniaaGreatDoor
open Go.Sh Go.Sh.Lx Go.Sh.Pr Go.RowKit Go.Shelf
variable {w0 w w' : World}
theorem check_cmd_c (hL : Laid w) (hM : MaxL w) {x : List UInt8} {a b : List Pt} (h : CmdR x a b) : Calls Tryz.prog 17 #[.string (bs x)] w fun e w' => e = .returned (.int .i64 0) /\ Pu w w' := by
  have hlen := h.len
  refine calls_by (F17_calls _ w) fun R hR => Br.f (by rw [bs_size]; exact decide_eq_false (by omega)) ((dir_c hL x (by omega)).mono ?_)
  rintro e w1 ⟨rfl, hp1⟩
  refine ⟨_, _, _, rfl, ?_⟩
  rw [h.dir.2]
  refine Br.f rfl ((nl_c x w1).mono ?_)
  rintro e w2 ⟨rfl, rfl⟩
  rw [h.one, h.dir.1]
  refine ⟨_, rfl, Br.f rfl (Br.f (by rw [toList_beq]; exact decide_eq_false (by decide)) (Br.t (by rw [toList_beq]; exact decide_eq_true rfl) (Br.t (by rw [toList_beq]; exact decide_eq_true rfl) ((readRule_c (hL.pu hp1) (hM.pu hp1) h).mono ?_))))⟩
  rintro e w3 ⟨hp3, s1, s2, rfl, _, _⟩
  exact ⟨_, s1, s2, _, rfl, Br.f rfl (hR _ _ ⟨rfl, hp1.trans hp3⟩)⟩
structure RuA (w : World) (s : SV) (a b : List Pt) : Prop where
  len : s.len = 1
  row : ∃ s1 s2 : SV, RowAt w 72 3 s (ruV true s1 s2) /\ RdSl w s1 a /\ RdSl w s2 b
theorem RuA.pu {s : SV} {a b : List Pt} (h : RuA w s a b) (hp : Pu w w') : RuA w' s a b := by
  obtain ⟨h1, s1, s2, h2, h3, h4⟩ := h
  exact ⟨h1, s1, s2, h2.pu hp, h3.pu hp, h4.pu hp⟩
theorem ruV_one (b : Bool) (s1 s2 : SV) : ∀ u ∈ ruV b s1 s2, u.oneCell' = true := by
  intro u hu
  simp only [ruV, List.mem_cons, List.mem_nil_iff, or_false] at hu
  rcases hu with rfl | rfl | rfl <;> rfl
theorem learn_cmd_c (hL : Laid w) (hM : MaxL w) {b m : Nat} (hS : Stm w0 w b m [] (.slice none 0 0)) {x : List UInt8} {pa pb : List Pt} (h : CmdR x pa pb) : Calls Tryz.prog 19 #[.pointer (some ⟨b, 0, none⟩), .string (dirS x).1, .string (bs (dirS x).2.1)] w fun e w' => e = .returned (.int .i64 0) /\ ∃ s : SV, Stm w0 w' b m [] (.slice s.a s.len s.cap) /\ RuA w' s pa pb := by
  refine calls_by (F19_calls _ _ _ w) fun R hR => ?_
  rw [h.dir.1]
  refine Br.f (by rw [toList_beq]; exact decide_eq_false (by decide)) (Br.f (by rw [toList_beq]; exact decide_eq_false (by decide)) ((readRule_c hL hM h).mono ?_))
  rintro e w1 ⟨hp1, s1, s2, rfl, hs1, hs2⟩
  have h1 := hS.pu hp1
  have hblt := blk_lt h1.blk
  have hz1 := h1.since.size
  refine ⟨_, s1, s2, _, rfl, alB fun w2 hp2 hb2 => ?_⟩
  have h2 := h1.pu hp2
  refine stR true s1 s2 hb2 rfl fun w3 hb3 hf3 => ?_
  have hp3 : Pu w0 w3 := h2.since.andNew hf3 fun i hi => by rw [show i = _ from hi]; exact hz1
  have hk3 : w3.heap[b]? = some (.cells #[.map (some m), .slice none 0 0] 46) := hf3.blk h2.blk (by omega)
  have hm3 : Go.Sh.MapAt w3 ekS slV m (([] : Defs).map fun x => (x.1, x.2.1)) := by
    obtain ⟨es, clk, hmb, _⟩ := h1.map
    have := blk_lt hmb
    exact h2.map.fr hf3 (by omega)
  have hs13 := rd_small hb2 (by decide) hf3 (hs1.pu hp2)
  have hs23 := rd_small hb2 (by decide) hf3 (hs2.pu hp2)
  refine Br.f rfl (dwE_intro fun w4 hp4 _ => ⟨fun u => Pu w4 u, Pu.refl _, ?_⟩)
  rw [ptrE_some]
  have hk4 := hp4.blk hk3
  have hb4 := hp4.blk hb3
  refine ⟨⟨none, 0, 0⟩, fun u hu => cl (hu.blk hk4) 1, _, fun u hu => cl (hu.blk hb4) 0, s1, fun u hu => cl (hu.blk hb4) 1, s2, fun u hu => cl (hu.blk hb4) 2, alB fun w5 hp5 hb5 => ⟨hp5, ?_⟩⟩
  obtain ⟨s, w6, hrun, hrow, hf6, _, hsl⟩ := row_append_any (P := Tryz.prog) (w := w5) (t := 44) (ty := 44) Tryz.underlying44 info72 rfl (by decide) (RowAt.nil w5 72 3) (A := some ⟨w4.heap.size, 0, none⟩) (m := 1) (c := 1) (news := ruV true s1 s2) rfl (fun j u hu => ⟨_, rfl, by rw [cl hb5]; simpa [ruV] using hu⟩) (ruV_one _ _ _) (by decide)
  have hp6 : Pu w5 w6 := hf6.toPu fun i hi => by simp [blkOf] at hi
  refine ⟨s, w6, hrun, ?_⟩
  rw [ptrE_some]
  have hP36 := hp4.trans (hp5.trans hp6)
  have hk6 := hP36.blk hk3
  refine st1_intro (b := b) (o := 1) hk6 (by show 1 < 2; omega) fun w7 hw7 hb7 => hR _ _ ⟨rfl, s, ?_, ?_⟩
  all_goals have hf7 : Fr (· = b) w6 w7 := by rw [hw7]; exact Fr.setCell w6 ⟨b, 1, none⟩ _
  · have hmb : m ≠ b := fun e => by
      obtain ⟨es, clk, hmb, _⟩ := h1.map
      rw [e, h1.blk] at hmb; cases hmb
    exact ⟨(hp3.trans hP36).andNew hf7 fun i hi => by rw [show i = b from hi]; exact h1.nb, h1.nb, h1.nm, hb7, (hm3.pu hP36).fr hf7 hmb, fun y hy => by cases hy⟩
  · refine ⟨by simpa using hsl, s1, s2, ?_, rd_small hk6 (by show 2 < 7; omega) hf7 (hs13.pu hP36), rd_small hk6 (by show 2 < 7; omega) hf7 (hs23.pu hP36)⟩
    exact (by simpa using hrow : RowAt w6 72 3 s (ruV true s1 s2)).fr hf7 fun k hk e => by
      rw [show k = b from e] at hk
      exact hrow.other hk6 (by decide) hk
end Go.Proofs.YtjbfehippchniaaGreatDoor

/- Pre: the matcher: is a token a part. No condition but those stated. -/
set_option maxRecDepth 100000
set_option linter.unusedVariables false
set_option linter.unusedSimpArgs false
namespace Go.Proofs.YtjbfehippchniaaGreatDoor
open Go.Sh Go.Sh.Lx Go.Sh.Pr Go.RowKit Go.Shelf
variable {w0 w w' : World}
def isP (full : Bool) (t : Tok) (p : Pt) : Bool := if t.kind ≠ p.t.kind then false else if t.kind = 0 /\ full = true then (fullS (t.text.data.toList.map capU) [p.t.text]).2 else decide (t.text = p.t.text)
structure Mst (w0 w : World) (r m : Nat) (s : SV) (T : List (Tok × SV)) (i : Nat) (full : Bool) : Prop where
  since : Pu w0 w
  nr : w0.heap.size <= r
  nm : w0.heap.size <= m
  blk : w.heap[r]? = some (.cells #[.slice s.a s.len s.cap, .int .i64 (i : Int), .bool full, .map (some m)] 186)
  cells0 : CellsR w0 s T
theorem Mst.cells {r m i : Nat} {s : SV} {T : List (Tok × SV)} {f : Bool} (h : Mst w0 w r m s T i f) : CellsR w s T := h.cells0.pu h.since
theorem Mst.pu {r m i : Nat} {s : SV} {T : List (Tok × SV)} {f : Bool} (h : Mst w0 w r m s T i f) (hp : Pu w w') : Mst w0 w' r m s T i f := ⟨h.since.trans hp, h.nr, h.nm, hp.blk h.blk, h.cells0⟩
theorem mis_c {r m i : Nat} {s : SV} {T : List (Tok × SV)} {f : Bool} (h : Mst w0 w r m s T i f) (t : Tok × SV) (p : Pt) (ht : t.1.text.size <= 140737488355328) : Calls Tryz.prog 193 #[.pointer (some ⟨r, 0, none⟩), .agg (ftV t).toArray, .agg (ptV p).toArray] w fun e w' => e = .returned (.bool (isP f t.1 p)) /\ Pu w w' := by
  refine calls_by (F193_calls _ _ _ _ _ _ _ _ _ _ ⟨none, 0, 0⟩ ⟨none, 0, 0⟩ w) fun R hR => alB fun w1 hp1 hb1 => alB fun w2 hp2 hb2 => ?_
  have hb1 := hp2.blk hb1
  have hP := hp1.trans hp2
  have h2 := h.pu hP
  refine ⟨_, cl0 hb1, _, cl hb2 1, Br.of (fun q => hR _ _ ⟨?_, hP⟩) (fun q => ⟨_, cl0 hb1, ?_⟩)⟩
  · have q : t.1.kind ≠ p.t.kind := by simpa using q
    unfold isP; rw [if_pos q]
  have q : t.1.kind = p.t.kind := by simpa using q
  have same : ∀ {K : Prop}, ¬ (t.1.kind = 0 /\ f = true) -> (R (.returned (.bool (t.1.text.toList == p.t.text.toList))) w2) := fun {K} hn => hR _ _ ⟨by
    unfold isP; rw [if_neg (by simpa using q), if_neg hn, toList_beq], hP⟩
  have a2 : w2.cell? (((⟨w1.heap.size, 0, none⟩ : Addr).add 1).add 2) = some (.string p.t.text) := cl hb2 3
  refine Br.of (fun q1 => ?_) (fun q1 => ⟨_, cl hb1 2, _, a2, same (K := True) fun h => bfalse q1 h.1⟩)
  have q1 : t.1.kind = 0 := btrue q1
  rw [ptrE_some]
  refine ⟨_, cl h2.blk 2, Br.of (fun q3 => ?_) (fun q3 => ⟨_, cl hb1 2, _, a2, same (K := True) fun h => by rw [h.2] at q3; cases q3⟩)⟩
  refine ⟨_, cl hb1 2, _, a2, alB fun w3 hp3 hb3 => ?_⟩
  have hs : RdSl w3 (⟨some ⟨w2.heap.size, 0, none⟩, 1, 1⟩ : SV) [p.t.text] := ⟨rfl, Nat.le_refl _, (by decide : (1:Nat) <= 140737488355328), fun j x hx => by
    cases j with
    | zero =>
      cases hx
      exact ⟨_, rfl, [.string p.t.text], rfl, fun j v hv => by
        cases j with
        | zero => cases hv; exact cl0 hb3
        | succ j => simp at hv⟩
    | succ j => simp at hx⟩
  have hc := full_c hs t.1.text.data.toList (by rw [size_list]; exact ht)
  rw [list_bs] at hc
  refine hc.mono ?_
  rintro e w4 ⟨rfl, hp4⟩
  refine ⟨_, _, rfl, hR _ _ ⟨?_, hP.trans (hp3.trans hp4)⟩⟩
  unfold isP; rw [if_neg (by simpa using q), if_pos ⟨q1, q3⟩]
theorem CellsR.at {s : SV} {T : List (Tok × SV)} (h : CellsR w s T) {i : Nat} {t : Tok × SV} (ht : T[i]? = some t) : ∃ a, s.a = some a /\ (0 : Int) <= (i : Int) /\ (i : Int) < ((s.len : Nat) : Int) /\ ∀ (o : Nat) (v : Value), (ftV t)[o]? = some v -> w.cell? ((a.add (((i : Int)).toNat * 4)).add o) = some v := by
  have hlt := (List.getElem?_eq_some_iff.1 ht).1
  have key : ∀ (o : Nat) (v : Value), (ftV t)[o]? = some v -> (T.flatMap ftV)[i * 4 + o]? = some v := fun o v hv => by
    have ho : o < 4 := by have := (List.getElem?_eq_some_iff.1 hv).1; rwa [ftV_len] at this
    clear h
    induction T generalizing i with
    | nil => cases ht
    | cons y T ih =>
      rw [List.flatMap_cons]
      cases i with
      | zero =>
        cases ht
        rw [List.getElem?_append_left (by rw [ftV_len]; omega), Nat.zero_mul, Nat.zero_add]; exact hv
      | succ i =>
        rw [List.getElem?_append_right (by rw [ftV_len]; omega), ftV_len, show (i + 1) * 4 + o - 4 = i * 4 + o by omega]
        exact ih (by simpa using ht) (by simp at hlt; omega)
  obtain ⟨a, ha, _⟩ := h.2 _ _ (key 0 _ rfl)
  rw [toNat_i]
  refine ⟨a, ha, by omega, by rw [h.1]; omega, fun o v hv => ?_⟩
  obtain ⟨a', ha', hc⟩ := h.2 _ _ (key o v hv)
  rw [ha] at ha'; cases ha'
  rw [Addr.add_add]; exact hc
def atP (f : Bool) (T : List (Tok × SV)) (i : Nat) (p : Pt) : Bool := match T[i]? with
  | some t => isP f t.1 p
  | none => false
theorem mnext_c {r m i : Nat} {s : SV} {T : List (Tok × SV)} {f : Bool} (h : Mst w0 w r m s T i f) (p : Pt) (ht : ∀ t ∈ T, t.1.text.size <= 140737488355328) : Calls Tryz.prog 171 #[.pointer (some ⟨r, 0, none⟩), .agg (ptV p).toArray] w fun e w' => e = .returned (.bool (atP f T i p)) /\ Pu w w' := by
  refine calls_by (F171_calls _ _ _ _ _ _ ⟨none, 0, 0⟩ ⟨none, 0, 0⟩ w) fun R hR => alB fun w1 hp1 hb1 => dwE_intro fun w2 hp2 _ => ?_
  have hP := hp1.trans hp2
  have h2 := h.pu hP
  have hb2 := hp2.blk hb1
  have hl := h.cells.1
  simp only [ptrE_some]
  refine ⟨_, cl h2.blk 1, s, cl0 h2.blk, Br.of (fun q => ?_) (fun q => hR _ _ ⟨?_, hP⟩)⟩
  · have q := dtrue q
    obtain ⟨t, hti⟩ := at_k (l := T) (k := i) (by omega)
    obtain ⟨a, ha, k1, k2, hc⟩ := h2.cells.at hti
    refine ⟨s, cl0 h2.blk, _, cl h2.blk 1, a, ha, k1, k2, _, hc 0 _ rfl, _, hc 1 _ rfl, _, hc 2 _ rfl, t.2, hc 3 _ rfl, _, cl hb2 0, _, cl hb2 1, _, cl hb2 2, _, cl hb2 3, _, cl hb2 4, ⟨none, 0, 0⟩, cl hb2 5, ⟨none, 0, 0⟩, cl hb2 6, (mis_c h2 t p (ht t (List.mem_of_getElem? hti))).mono ?_⟩
    rintro e w3 ⟨rfl, hp3⟩
    refine ⟨_, rfl, hR _ _ ⟨by unfold atP; rw [hti], hP.trans hp3⟩⟩
  · have q := dfalse q
    unfold atP; rw [List.getElem?_eq_none (by omega)]
def firstsP : List Pt -> List Pt
  | [] => []
  | p :: _ => if p.kind = 0 then [p] else []
end Go.Proofs.YtjbfehippchniaaGreatDoor

/- Pre: the matcher: rows of parts put together, the first parts. No condition but those stated. -/
set_option maxRecDepth 100000
set_option linter.unusedVariables false
set_option linter.unusedSimpArgs false
namespace Go.Proofs.YtjbfehippchniaaGreatDoor
open Go.Sh Go.Sh.Lx Go.Sh.Pr Go.RowKit Go.Shelf
variable {w0 w w' : World}
def CellsP (w : World) (s : SV) (L : List Pt) : Prop := s.len = L.length /\ ∀ j u, (L.flatMap ptV)[j]? = some u -> ∃ a, s.a = some a /\ w.cell? (a.add j) = some u
theorem CellsP.of {s : SV} {L : List Pt} (h : RdSl w s L) : CellsP w s L := ⟨h.len, cells_flat ptV_len (by decide) fun i x hx => by
  obtain ⟨a, ha, vs, rfl, hc⟩ := h.get i x hx
  exact ⟨a, ha, fun o v hv => hc o v hv⟩⟩
theorem push_cellsP {s m : SV} {L M : List (Pt)} (h : RowAt w 128 7 s (L.flatMap ptV)) (hn : NewR w0 s) (hp : Pu w0 w) (hm : CellsP w0 m M) (hl : L.length + M.length <= 100000) :
    ∃ (s' : SV) (w' : World), (Builtin.append_ #[70, 70] 70 #[.slice s.a s.len s.cap, .slice m.a m.len m.cap]).run Tryz.prog w = .ok (.slice s'.a s'.len s'.cap) w' /\ RowAt w' 128 7 s' ((L ++ M).flatMap ptV) /\ Pu w0 w' /\ NewR w0 s' := by
  have hsl := h.len ptV_len (by decide)
  have hml := hm.1
  obtain ⟨s', w', h1, h2, h3, h4, _⟩ := row_append_any (P := Tryz.prog) (t := 70) (ty := 70) Tryz.underlying70 info128 rfl (by decide) h (A := m.a) (m := m.len) (c := m.cap) (news := M.flatMap ptV) (by rw [flatMap_len ptV_len]; omega) (fun j u hu => by
    obtain ⟨a, ha, hcc⟩ := hm.2 j u hu
    exact ⟨a, ha, hp.cell hcc⟩) (fun u hu => by
    obtain ⟨x, _, hx⟩ := List.mem_flatMap.1 hu
    exact ptV_one x u hx) (by omega)
  refine ⟨s', w', h1, by rw [List.flatMap_append]; exact h2, hp.andNew h3 fun i hi => hn i hi, fun i hi => ?_⟩
  rcases h4 i hi with h | h
  · exact hn i h
  · have := hp.size; omega
def Tryz.lays4p_ren : Go.Shelf.Ren := ⟨fun | 4 => 197 | n => n, fun | 22 => 70 | 25 => 128 | n => n, fun | n => n⟩
theorem Tryz.lays4p : Go.Proofs.Lays8.n4 Tryz.prog Tryz.lays4p_ren := {
  mixed := by kernel_rfl
  f4 := ⟨Tryz.f197.name, by kernel_rfl, Tryz.func197.trans (congrArg some (by kernel_rfl))⟩
  t0 := Tryz.underlying0
  a0 := Tryz.isAgg0
  z0 := Tryz.sizeOf0
  v0 := Tryz.zeroValue0
  t3 := Tryz.underlying3
  a3 := Tryz.isAgg3
  z3 := Tryz.sizeOf3
  v3 := Tryz.zeroValue3
  t4 := Tryz.underlying4
  a4 := Tryz.isAgg4
  z4 := Tryz.sizeOf4
  v4 := Tryz.zeroValue4
  t9 := Tryz.underlying9
  a9 := Tryz.isAgg9
  z9 := Tryz.sizeOf9
  v9 := Tryz.zeroValue9
  t20 := Tryz.underlying20
  a20 := Tryz.isAgg20
  z20 := Tryz.sizeOf20
  v20 := Tryz.zeroValue20
  t22 := Tryz.underlying70
  a22 := Tryz.isAgg70
  z22 := Tryz.sizeOf70
  v22 := Tryz.zeroValue70 }
theorem growP_c (n : Nat) (hn : n <= 100000) (w : World) : Calls Tryz.prog 197 #[.slice none 0 0, .int .i64 (n : Int)] w fun e w' => Pu w w' /\ ∃ s : SV, e = .returned (.slice s.a s.len s.cap) /\ RowAt w' 128 7 s [] /\ ∀ k ∈ blkOf s, w.heap.size <= k := by
  by_cases h0 : n = 0
  · subst h0
    refine (Any8.slices_Grow_room Tryz.lays4p none 0 0 0 w (by omega) (by omega) (by omega) (by omega)).mono ?_
    rintro e w' ⟨rfl, rfl⟩
    exact ⟨Pu.refl _, ⟨none, 0, 0⟩, rfl, RowAt.nil _ _ _, by simp [blkOf]⟩
  · obtain ⟨i, hi, hz, hs, hb⟩ := info_parts info128
    refine (Any8.slices_Grow_grow Tryz.lays4p i _ hi hz (by omega) none 0 0 n [] w (by omega) (by omega) (by rw [hb]; omega) (by omega) (by simp) (fun _ => rfl) (by simp)).mono ?_
    rintro e w' ⟨rfl, rfl⟩
    have hG := grownCap_ge w (0 + n) 0 (Tryz.lays4p_ren.t 25)
    have hG2 := grownCap_le_maxLen w (0 + n) 0 (Tryz.lays4p_ren.t 25) (by unfold maxLen; omega)
    have hb2 : ∀ o, (w.drew.alloc o).heap[w.heap.size]? = some o := fun o => alloc_new w.drew o
    refine ⟨(Pu.drew w).trans (Pu.alloc _ _), ⟨some ⟨w.heap.size, 0, none⟩, 0, _⟩, rfl, ⟨rfl, .inr ⟨w.heap.size, _, rfl, hb2 _, Nat.zero_le _, hG2, ?_, ?_⟩⟩, by simp [blkOf]⟩
    · have e4 : (Value.agg #[.int .i64 0, .int .i64 0, .int .i64 0, .string ⟨#[]⟩, .string ⟨#[]⟩, .slice none 0 0, .slice none 0 0]).cells.size = 7 := rfl
      simp only [Array.size_append, size_zeroCells, e4]
      have h0 : (#[] : Array Value).size = 0 := rfl
      rw [h0]
      show 0 + (0 + n - 0) * 7 + (grownCap w (0 + n) 0 128 - (0 + n)) * 7 = grownCap w (0 + n) 0 128 * 7
      have hG3 : 0 + n <= grownCap w (0 + n) 0 128 := hG
      omega
    · simp
theorem concatP_c {r : Nat} {rows : List (SV × List (Pt))} (hb : w0.heap[r]? = some (.cells (rows.map fun x => slV x.1).toArray 70)) (hr : ∀ x ∈ rows, CellsP w0 x.1 x.2) (hn : rows.length <= 10) (hl : (rows.flatMap Prod.snd).length <= 100000) :
    Calls Tryz.prog 173 #[.slice (some ⟨r, 0, none⟩) rows.length rows.length] w0 fun e w' => Pu w0 w' /\ ∃ s : SV, e = .returned (.slice s.a s.len s.cap) /\ RowAt w' 128 7 s ((rows.flatMap Prod.snd).flatMap ptV) /\ NewR w0 s := by
  have hcell : ∀ {w : World}, Pu w0 w -> ∀ (k : Nat) (x : SV × List (Pt)), rows[k]? = some x -> w.cell? ((⟨r, 0, none⟩ : Addr).add ((k : Int).toNat * 1)) = some (.slice x.1.a x.1.len x.1.cap) := fun {w} hp k x hx => by
    rw [toNat_i, Nat.mul_one, cl (hp.blk hb)]
    simp [hx, slV]
  have hpre : ∀ {k : Nat} {x : SV × List (Pt)}, rows[k]? = some x -> (rows.take (k + 1)).flatMap Prod.snd = (rows.take k).flatMap Prod.snd ++ x.2 := fun {k x} hx => by
    rw [take_at hx, List.flatMap_append]; simp
  have hle : ∀ k, ((rows.take k).flatMap Prod.snd).length <= (rows.flatMap Prod.snd).length := fun k => by
    conv => rhs; rw [← List.take_append_drop k rows, List.flatMap_append, List.length_append]
    omega
  refine calls_by (F173_calls ⟨some ⟨r, 0, none⟩, rows.length, rows.length⟩ w0) fun R hR => ?_
  refine loopUp rows.length (fun k t w' => t = (((((rows.take k).flatMap Prod.snd).length : Nat) : Int), (k : Int)) /\ w' = w0) ⟨rfl, rfl⟩ ?_
  rintro k J t w1 hk ⟨rfl, rfl⟩ hJ
  dsimp only
  refine Br.of (fun q => ?_) (fun q => ?_)
  · have q := dtrue q
    have hk2 : k < rows.length := by omega
    obtain ⟨x, hx⟩ := at_k hk2
    have hxl := (hr x (List.mem_of_getElem? hx)).1
    have e1 := congrArg List.length (hpre hx)
    rw [List.length_append] at e1
    have h2 := hle (k + 1)
    refine ⟨_, rfl, by omega, by omega, _, hcell (Pu.refl _) k x hx, ?_⟩
    rw [wrap_in (by omega) (by omega), wrap_in (by omega) (by omega)]
    refine Br.f (decide_eq_false (by omega)) (hJ _ _ hk2 ⟨?_, rfl⟩)
    rw [e1, hxl]
    congr 1
  · have q := dfalse q
    obtain rfl : k = rows.length := by omega
    rw [List.take_length]
    refine (growP_c _ hl w1).mono ?_
    rintro e w2 ⟨hp2, s, rfl, hr2, hn2⟩
    refine ⟨s, rfl, ?_⟩
    refine loopUp rows.length (fun k t w' => ∃ s' : SV, t = (s', (k : Int)) /\ Pu w1 w' /\ RowAt w' 128 7 s' (((rows.take k).flatMap Prod.snd).flatMap ptV) /\ NewR w1 s') ⟨s, rfl, hp2, hr2, hn2⟩ ?_
    rintro k J t w3 hk3 ⟨s', rfl, hp3, hr3, hn3⟩ hJ
    dsimp only
    refine Br.of (fun q2 => ?_) (fun q2 => ?_)
    · have q2 := dtrue q2
      have hk2 : k < rows.length := by omega
      obtain ⟨x, hx⟩ := at_k hk2
      have hrx := hr x (List.mem_of_getElem? hx)
      have e1 := congrArg List.length (hpre hx)
      rw [List.length_append] at e1
      have h2 := hle (k + 1)
      refine ⟨_, rfl, by omega, by dsimp only; omega, _, hcell hp3 k x hx, ?_⟩
      obtain ⟨s2, w4, hrun, hr4, hp4, hn4⟩ := push_cellsP hr3 hn3 hp3 hrx (by omega)
      refine ⟨s2, w4, hrun, ?_⟩
      rw [wrap_in (by omega) (by omega)]
      refine hJ _ _ hk2 ⟨s2, by rw [show (k : Int) + 1 = ((k + 1 : Nat) : Int) by omega], hp4, ?_, hn4⟩
      rw [hpre hx]; exact hr4
    · have q2 := dfalse q2
      obtain rfl : k = rows.length := by omega
      rw [List.take_length] at hr3
      exact hR _ _ ⟨hp3, s', rfl, hr3, hn3⟩
end Go.Proofs.YtjbfehippchniaaGreatDoor

/- Pre: the matcher: the first parts; an expression's end. No condition but those stated. -/
set_option maxRecDepth 100000
set_option linter.unusedVariables false
set_option linter.unusedSimpArgs false
namespace Go.Proofs.YtjbfehippchniaaGreatDoor
open Go.Sh Go.Sh.Lx Go.Sh.Pr Go.RowKit Go.Shelf
variable {w0 w w' : World}
theorem firsts_c {s : SV} {ps : List Pt} (hs : RdSl w s ps) (hk : ∀ p ∈ ps, p.kind = 0 ∨ p.kind = 1) : Calls Tryz.prog 175 #[.slice s.a s.len s.cap] w fun e w' => Pu w w' /\ ∃ s' : SV, e = .returned (.slice s'.a s'.len s'.cap) /\ RdSl w' s' (firstsP ps) := by
  have hsl := hs.len
  refine calls_by (F175_calls _ w) fun R hR => ?_
  intro J hJ
  refine hJ _ _ ?_
  cases ps with
  | nil => exact Br.f (decide_eq_false (by simp at hsl; show ¬ (0 : Int) < _; omega)) (hR _ _ ⟨Pu.refl _, ⟨none, 0, 0⟩, rfl, RdSl.nil _ _ _⟩)
  | cons p ps =>
    rw [List.length_cons] at hsl
    refine Br.t (decide_eq_true (by show (0 : Int) < _; omega)) ?_
    obtain ⟨a, ha, h1, h2, hc⟩ := RdSl.pt hs (i := 0) (p := p) rfl
    refine ⟨a, ha, h1, h2, _, hc 0 _ rfl, _, hc 1 _ rfl, _, hc 2 _ rfl, _, hc 3 _ rfl, _, hc 4 _ rfl, ⟨none, 0, 0⟩, hc 5 _ rfl, ⟨none, 0, 0⟩, hc 6 _ rfl, ?_⟩
    refine boxA (vs := (ptV p).toArray) (zs := pz) rfl (by rw [size128]; rfl) rfl fun w2 hp2 hz2 hb2 => ⟨_, cl0 hb2, Br.of (fun q => ?_) (fun q => ?_)⟩
    · have q : p.kind = 0 := btrue q
      refine ⟨_, cl hb2 0, _, cl hb2 1, _, cl hb2 2, _, cl hb2 3, _, cl hb2 4, ⟨none, 0, 0⟩, cl hb2 5, ⟨none, 0, 0⟩, cl hb2 6, alB fun w3 hp3 hb3 => ?_⟩
      obtain ⟨s2, w4, hrun, hr4, hf4, hn4⟩ := push_pt (s := ⟨none, 0, 0⟩) (L := []) (RowAt.nil w3 128 7) (by simp) p hb3
      have hp4 : Pu w3 w4 := hf4.toPu fun i hi => by simp [blkOf] at hi
      refine ⟨s2, w4, hrun, hR _ _ ⟨hp2.trans (hp3.trans hp4), s2, rfl, ?_⟩⟩
      rw [show firstsP (p :: ps) = [p] from if_pos q]
      exact rd_pts hr4 (by simp)
    · have q : ¬ p.kind = 0 := bfalse q
      have h1 : p.kind = 1 := (hk p List.mem_cons_self).resolve_left q
      refine Br.f (by rw [h1]; rfl) (hR _ _ ⟨hp2, ⟨none, 0, 0⟩, rfl, ?_⟩)
      rw [show firstsP (p :: ps) = [] from if_neg q]
      exact RdSl.nil _ _ _
theorem clos_c {r m i b1 b2 : Nat} {s : SV} {T : List (Tok × SV)} {f : Bool} (h : Mst w0 w r m s T i f) (h1 : w.heap[b1]? = some (.cells #[.pointer (some ⟨r, 0, none⟩)] 184)) {t : Tok × SV} (h2 : w.heap[b2]? = some (.cells (ftV t).toArray 112)) (ht : t.1.text.size <= 140737488355328) (p : Pt) :
    Calls Tryz.prog 204 #[.agg (ptV p).toArray, .pointer (some ⟨b1, 0, none⟩), .pointer (some ⟨b2, 0, none⟩)] w fun e w' => e = .returned (.bool (isP f t.1 p)) /\ Pu w w' := by
  refine calls_by (F204_calls _ _ _ _ _ ⟨none, 0, 0⟩ ⟨none, 0, 0⟩ _ _ w) fun R hR => alB fun w1 hp1 hb1 => ?_
  have g1 := hp1.blk h1
  have g2 := hp1.blk h2
  refine ⟨_, cl0 g1, _, cl g2 0, _, cl g2 1, _, cl g2 2, t.2, cl g2 3, _, cl hb1 0, _, cl hb1 1, _, cl hb1 2, _, cl hb1 3, _, cl hb1 4, ⟨none, 0, 0⟩, cl hb1 5, ⟨none, 0, 0⟩, cl hb1 6, (mis_c (h.pu hp1) t p ht).mono ?_⟩
  rintro e w2 ⟨rfl, hp2⟩
  exact ⟨_, rfl, hR _ _ ⟨rfl, hp1.trans hp2⟩⟩
theorem any_drop {α : Type} {l : List α} {k : Nat} {x : α} (hx : l[k]? = some x) (g : α -> Bool) (h : ∀ (j : Nat) (y : α), j < k -> l[j]? = some y -> g y = false) : l.any g = (g x || (l.drop (k + 1)).any g) := by
  have e : l.any g = ((l.take k).any g || (l.drop k).any g) := by rw [← List.any_append, List.take_append_drop]
  have e1 : (l.take k).any g = false := by
    rw [List.any_eq_false]
    intro y hy
    obtain ⟨j, hj⟩ := List.mem_iff_getElem?.1 hy
    rw [List.getElem?_take] at hj
    split at hj
    · rename_i hj2
      rw [h j y hj2 hj]; decide
    · cases hj
  rw [e, e1, Bool.false_or, drop_at hx, List.any_cons]
theorem many_p {r m i b1 b2 : Nat} {s : SV} {T : List (Tok × SV)} {f : Bool} (h : Mst w0 w r m s T i f) (h1 : w.heap[b1]? = some (.cells #[.pointer (some ⟨r, 0, none⟩)] 184)) {t : Tok × SV} (h2 : w.heap[b2]? = some (.cells (ftV t).toArray 112)) (ht : t.1.text.size <= 140737488355328) {q : SV} {ps : List Pt} (hq : RdSl w q ps) :
    Calls Tryz.prog 152 #[.slice q.a q.len q.cap, .func (.func 204) #[] #[.pointer (some ⟨b1, 0, none⟩), .pointer (some ⟨b2, 0, none⟩)]] w fun e w' => e = .returned (.bool (ps.any (isP f t.1))) /\ Pu w w' := by
  have hql := hq.len
  have hlim := hq.lim
  have idx : Calls Tryz.prog 176 #[.slice q.a q.len q.cap, .func (.func 204) #[] #[.pointer (some ⟨b1, 0, none⟩), .pointer (some ⟨b2, 0, none⟩)]] w fun e w' => ∃ n : Int, e = .returned (.int .i64 n) /\ decide (n ≥ 0) = ps.any (isP f t.1) /\ Pu w w' := by
    refine calls_by (F176_calls _ _ w) fun R hR => loopUp ps.length (fun k n w' => n = (k : Int) /\ Pu w w' /\ ∀ (j : Nat) (y : Pt), j < k -> ps[j]? = some y -> isP f t.1 y = false) ⟨rfl, Pu.refl _, fun j y h => by omega⟩ ?_
    rintro k J n w1 hk ⟨rfl, hp1, hall⟩ hJ
    refine Br.of (fun c => ?_) (fun c => ?_)
    · have c := dtrue c
      obtain ⟨p, hp⟩ := at_k (l := ps) (k := k) (by omega)
      obtain ⟨a, ha, k1, k2, hc⟩ := RdSl.pt (hq.pu hp1) hp
      refine ⟨a, ha, k1, k2, _, hc 0 _ rfl, _, hc 1 _ rfl, _, hc 2 _ rfl, _, hc 3 _ rfl, _, hc 4 _ rfl, ⟨none, 0, 0⟩, hc 5 _ rfl, ⟨none, 0, 0⟩, hc 6 _ rfl, ?_⟩
      rw [fnE_mk]
      refine ⟨by decide +kernel, (clos_c (h.pu hp1) (hp1.blk h1) (hp1.blk h2) ht p).mono ?_⟩
      rintro e w2 ⟨rfl, hp2⟩
      refine ⟨_, rfl, Br.of (fun q2 => hR _ _ ⟨_, rfl, ?_, hp1.trans hp2⟩) (fun q2 => ?_)⟩
      · rw [any_drop hp _ hall, q2, Bool.true_or]
        exact decide_eq_true (by omega)
      · rw [wrap_in (by omega) (by omega)]
        refine hJ _ _ (by omega) ⟨by omega, hp1.trans hp2, fun j z hj hz => ?_⟩
        by_cases e : j = k
        · subst e; rw [hp] at hz; cases hz; exact q2
        · exact hall j z (by omega) hz
    · have c := dfalse c
      refine hR _ _ ⟨_, rfl, ?_, hp1⟩
      rw [show ps.any (isP f t.1) = false from by
        rw [List.any_eq_false]
        intro y hy
        obtain ⟨j, hj⟩ := List.mem_iff_getElem?.1 hy
        rw [hall j y (by have := (List.getElem?_eq_some_iff.1 hj).1; omega) hj]; decide]
      decide
  refine calls_by (F152_calls _ _ w) fun R hR => idx.mono ?_
  rintro e w1 ⟨n, rfl, hn, hp⟩
  exact ⟨_, rfl, hR _ _ ⟨by rw [hn], hp⟩⟩
end Go.Proofs.YtjbfehippchniaaGreatDoor

/- Pre: the matcher: an expression. No condition but those stated. -/
set_option maxRecDepth 100000
set_option linter.unusedVariables false
set_option linter.unusedSimpArgs false
namespace Go.Proofs.YtjbfehippchniaaGreatDoor
open Go.Sh Go.Sh.Lx Go.Sh.Pr Go.RowKit Go.Shelf
variable {w0 w w' : World}
theorem size112 : sizeB Tryz.prog 112 = 4 := by kernel_rfl
theorem stF {b : Nat} {c : Array Value} (t : Tok × SV) (hb : w.heap[b]? = some (.cells c 112)) (hc : c.size = 4) {K : World -> Prop} (hK : ∀ w', w'.heap[b]? = some (.cells (ftV t).toArray 112) -> Fr (· = b) w w' -> K w') : stA Tryz.prog 112 ⟨b, 0, none⟩ (ftV t).toArray w K := by
  refine ⟨by rw [size112]; rfl, rfl, ?_⟩
  refine stL_fill (ftV t) 0 c w K hb (by rw [hc]; rfl) fun w' h1 h2 h3 h4 h5 h6 => hK w' ?_ ⟨h4, h5, h6, by omega, fun k hk hn => h3 k hn⟩
  rw [h1]; rfl
theorem maxP (n : Int) (w : World) : (Builtin.max_ #[3, 3] 3 #[.int .i64 0, .int .i64 n]).run Tryz.prog w = .ok (.int .i64 (max 0 n)) w := max_run _ _ _ _ _ _
def stopP (f : Bool) (t : Tok) (fs : List Pt) (d : Nat) : Bool := decide (d = 0) && ((decide (t.kind = 4) && decide (t.text = (⟨#[44]⟩ : ByteArray))) || fs.any (isP f t))
def depP (t : Tok) (d : Nat) : Nat := if t.kind = 4 then (if t.text = (⟨#[40]⟩ : ByteArray) ∨ t.text = (⟨#[91]⟩ : ByteArray) ∨ t.text = (⟨#[123]⟩ : ByteArray) then d + 1 else if t.text = (⟨#[41]⟩ : ByteArray) ∨ t.text = (⟨#[93]⟩ : ByteArray) ∨ t.text = (⟨#[125]⟩ : ByteArray) then d - 1 else d) else d
def exprP (f : Bool) (T : List (Tok × SV)) (fs : List Pt) : Nat -> Nat -> Nat -> Nat
  | 0, i, _ => i
  | n + 1, i, d => match T[i]? with
    | none => i
    | some t => if stopP f t.1 fs d then i else exprP f T fs n (i + 1) (depP t.1 d)
theorem Mst.set {r m i : Nat} {s : SV} {T : List (Tok × SV)} {f : Bool} (h : Mst w0 w r m s T i f) (j : Nat) {K : World -> Prop} (hK : ∀ w', Mst w0 w' r m s T j f -> Fr (· = r) w w' -> K w') : st1 ⟨r, 0 + 1, none⟩ (.int .i64 (j : Int)) w K := by
  refine st1_intro (b := r) (o := 1) h.blk (by show 1 < 4; omega) fun w7 hw7 hb7 => ?_
  have hf7 : Fr (· = r) w w7 := by rw [hw7]; exact Fr.setCell w ⟨r, 1, none⟩ _
  exact hK w7 ⟨h.since.andNew hf7 fun i hi => by rw [show i = r from hi]; exact h.nr, h.nr, h.nm, hb7, h.cells0⟩ hf7
theorem expr_c {r m i : Nat} {s q : SV} {T : List (Tok × SV)} {f : Bool} (h : Mst w0 w r m s T i f) {fs : List Pt} (hq : RdSl w q fs) (hT : ∀ t ∈ T, t.1.text.size <= 140737488355328) (hTl : T.length <= 100000) (hi : i <= T.length) :
    Calls Tryz.prog 198 #[.pointer (some ⟨r, 0, none⟩), .bool false, .slice q.a q.len q.cap] w fun e w' => e = .returned (.tuple #[]) /\ Mst w0 w' r m s T (exprP f T fs T.length i 0) f /\ Fr (· = r) w w' := by
  have hTs := h.cells0.1
  refine calls_by (F198_calls _ _ _ w) fun R hR => alB fun w1 hp1 hb1 => ?_
  have h1 := h.pu hp1
  have hrlt := blk_lt h.blk
  refine ⟨_, cl0 hb1, ?_⟩
  rw [ptrE_some]
  refine ⟨_, cl h1.blk 1, ?_⟩
  obtain ⟨b, hb⟩ : ∃ b, b = w.heap.size := ⟨_, rfl⟩
  obtain ⟨i0, hi0⟩ : ∃ n : Int, n = (i : Int) := ⟨_, rfl⟩
  rw [← hb] at hb1 ⊢
  rw [← hi0]
  intro J hJ
  have key : ∀ (n i d : Nat) (w2 : World), T.length <= i + n -> i <= T.length -> d <= i -> exprP f T fs n i d = exprP f T fs T.length i 0 ∨ True -> Mst w0 w2 r m s T i f -> RdSl w2 q fs -> w2.heap[b]? = some (.cells #[.pointer (some ⟨r, 0, none⟩)] 184) -> Fr (· = r) w w2 -> (∀ w3, Mst w0 w3 r m s T (exprP f T fs n i d) f -> Fr (· = r) w w3 -> R (.returned (.tuple #[])) w3) -> J (d : Int) w2 := by
    intro n
    induction n with
    | zero =>
      intro i d w2 hn hi hd _ h2 hq2 hb2 hf2 hend
      refine hJ _ _ (dwE_intro fun w3 hp3 _ => ?_)
      have h3 := h2.pu hp3
      have hb3 := hp3.blk hb2
      rw [ptrE_some]
      refine ⟨_, cl0 hb3, ?_⟩
      rw [ptrE_some]
      refine ⟨_, cl h3.blk 1, ?_⟩
      rw [ptrE_some]
      refine ⟨_, cl0 hb3, ?_⟩
      rw [ptrE_some]
      refine ⟨s, cl0 h3.blk, Br.f (decide_eq_false (by omega)) ?_⟩
      refine ⟨_, cl0 hb3, _, cl h3.blk 1, Br.f rfl (hend _ h3 (hf2.trans (Fr.pu hp3 : Fr (· = r) _ _) fun _ hi _ => hi))⟩
    | succ n ih =>
      intro i d w2 hn hi hd _ h2 hq2 hb2 hf2 hend
      refine hJ _ _ (dwE_intro fun w3 hp3 _ => ?_)
      have h3 := h2.pu hp3
      have hb3 := hp3.blk hb2
      have hf3 := hf2.trans (Fr.pu hp3 : Fr (· = r) _ _) fun _ hi _ => hi
      rw [ptrE_some]
      refine ⟨_, cl0 hb3, ?_⟩
      rw [ptrE_some]
      refine ⟨_, cl h3.blk 1, ?_⟩
      rw [ptrE_some]
      refine ⟨_, cl0 hb3, ?_⟩
      rw [ptrE_some]
      refine ⟨s, cl0 h3.blk, Br.of (fun c => ?_) (fun c => ?_)⟩
      · have c := dtrue c
        have hlt : i < T.length := by omega
        obtain ⟨t, ht⟩ := at_k (l := T) (k := i) hlt
        have htz := hT t (List.mem_of_getElem? ht)
        have he : exprP f T fs (n + 1) i d = if stopP f t.1 fs d then i else exprP f T fs n (i + 1) (depP t.1 d) := by
          conv => lhs; unfold exprP
          rw [ht]
        refine dwE_intro fun w4 hp4 _ => ⟨fun u => Pu w4 u, Pu.refl _, ?_⟩
        have h4 := h3.pu hp4
        have hb4 := hp4.blk hb3
        obtain ⟨a, ha, k1, k2, hc⟩ := h4.cells.at ht
        simp only [ptrE_some]
        refine ⟨_, fun u hu => cl0 (hu.blk hb4), ?_⟩
        simp only [ptrE_some]
        refine ⟨s, fun u hu => cl0 (hu.blk h4.blk), _, fun u hu => cl0 (hu.blk hb4), ?_⟩
        simp only [ptrE_some]
        refine ⟨_, fun u hu => cl (hu.blk h4.blk) 1, a, ha, k1, k2, _, fun u hu => hu.cell (hc 0 _ rfl), _, fun u hu => hu.cell (hc 1 _ rfl), _, fun u hu => hu.cell (hc 2 _ rfl), t.2, fun u hu => hu.cell (hc 3 _ rfl), alB fun w5 hp5 hb5 => ⟨hp5, ?_⟩⟩
        have h5 := h4.pu hp5
        have hz4 := blk_lt h4.blk
        refine stF t hb5 rfl fun w6 hb6 hf6 => ?_
        have hp46 : Pu w4 w6 := hp5.andNew hf6 fun i hi => by rw [show i = _ from hi]; exact Nat.le_refl _
        have h6 := h4.pu hp46
        have hbb6 := hp46.blk hb4
        have hq6 := ((hq2.pu hp3).pu hp4).pu hp46
        have hf36 := hf3.trans (Fr.pu (hp4.trans hp46) : Fr (· = r) _ _) fun _ hi _ => hi
        obtain ⟨bt, hbt⟩ : ∃ bt, bt = w4.heap.size := ⟨_, rfl⟩
        rw [← hbt] at hb6 ⊢
        -- one token further
        have step : ∀ {w7 : World} {d' : Nat}, stopP f t.1 fs d = false -> d' = depP t.1 d -> Pu w6 w7 -> F198_2 R J false q (some ⟨b, 0, none⟩) i0 (d' : Int) [] w7 := fun {w7 d'} hs hd' hp7 => by
          have h7 := h6.pu hp7
          have hb7 := hp7.blk hbb6
          refine ⟨_, cl0 hb7, _, cl h7.blk 1, ?_⟩
          rw [ptrE_some, show IntKind.i64.wrap ((i : Int) + 1) = ((i + 1 : Nat) : Int) from by rw [wrap_in (by omega) (by omega)]; omega]
          refine h7.set (i + 1) fun w8 h8 hf8 => ?_
          have hd2 : d' <= i + 1 := by
            rw [hd']; unfold depP
            split
            · split
              · omega
              · split <;> omega
            · omega
          refine ih (i + 1) d' w8 (by omega) (by omega) hd2 (.inr trivial) h8 (rd_small h7.blk (by show 4 < 7; omega) hf8 (hq6.pu hp7)) (hf8.blk hb7 (by omega)) ((hf36.trans (Fr.pu hp7 : Fr (· = r) _ _) fun _ hi _ => hi).trans hf8 fun _ hi _ => hi) fun w9 h9 hf9 => hend w9 ?_ hf9
          rw [he, hs, if_neg (by decide), ← hd']; exact h9
        have dz : ∀ {w7 : World}, stopP f t.1 fs d = false -> Pu w6 w7 -> t.1.kind = 4 -> F198_3 R J false q (some ⟨b, 0, none⟩) i0 (d : Int) t.1.text [] w7 := fun {w7} hs hp7 hk => by
          have up : depP t.1 d = d + 1 -> F198_2 R J false q (some ⟨b, 0, none⟩) i0 (IntKind.i64.wrap ((d : Int) + 1)) [] w7 := fun e => by
            rw [show IntKind.i64.wrap ((d : Int) + 1) = ((d + 1 : Nat) : Int) from by rw [wrap_in (by omega) (by omega)]; omega]
            exact step hs e.symm hp7
          have down : depP t.1 d = d - 1 -> ∃ n85 : Int, ∃ w22 : World, (Builtin.max_ #[3, 3] 3 #[.int .i64 0, .int .i64 (IntKind.i64.wrap ((d : Int) - 1))]).run Tryz.prog w7 = .ok (.int .i64 n85) w22 /\ F198_2 R J false q (some ⟨b, 0, none⟩) i0 n85 [] w22 := fun e => by
            refine ⟨_, w7, maxP _ w7, ?_⟩
            rw [show max 0 (IntKind.i64.wrap ((d : Int) - 1)) = ((d - 1 : Nat) : Int) from by rw [wrap_in (by omega) (by omega)]; omega]
            exact step hs e.symm hp7
          unfold F198_3
          simp only [toList_beq]
          refine Br.of (fun q => Br.t q (up ?_)) (fun q => Br.of (fun q2 => Br.t q2 (up ?_)) (fun q2 => Br.of (fun q3 => up ?_) (fun q3 => Br.of (fun q4 => Br.t q4 (down ?_)) (fun q4 => Br.of (fun q5 => Br.t q5 (down ?_)) (fun q5 => Br.of (fun q6 => down ?_) (fun q6 => step hs ?_ hp7))))))
          all_goals unfold depP; rw [if_pos hk]
          · rw [if_pos (.inl (dtrue q))]
          · rw [if_pos (.inr (.inl (dtrue q2)))]
          · rw [if_pos (.inr (.inr (dtrue q3)))]
          all_goals rw [if_neg (fun h => by
            rcases h with h | h | h
            · exact dfalse q h
            · exact dfalse q2 h
            · exact dfalse q3 h)]
          · rw [if_pos (.inl (dtrue q4))]
          · rw [if_pos (.inr (.inl (dtrue q5)))]
          · rw [if_pos (.inr (.inr (dtrue q6)))]
          · rw [if_neg (fun h => by
              rcases h with h | h | h
              · exact dfalse q4 h
              · exact dfalse q5 h
              · exact dfalse q6 h)]
        have cont : ∀ {w7 : World}, Pu w6 w7 -> F198_4 R J false q (some ⟨b, 0, none⟩) i0 (d : Int) (some ⟨bt, 0, none⟩) (stopP f t.1 fs d) [] w7 := fun {w7} hp7 => by
          have h7 := h6.pu hp7
          have hb7 := hp7.blk hbb6
          have ht7 := hp7.blk hb6
          refine Br.of (fun c2 => ?_) (fun c2 => ?_)
          · refine ⟨_, cl0 hb7, _, cl h7.blk 1, Br.f rfl (hend _ ?_ (hf36.trans (Fr.pu hp7 : Fr (· = r) _ _) fun _ hi _ => hi))⟩
            rw [he, if_pos c2]; exact h7
          · refine ⟨_, cl0 ht7, Br.of (fun c3 => step c2 ?_ hp7) (fun c3 => ⟨_, cl ht7 2, dz c2 hp7 (by simpa using c3)⟩)⟩
            unfold depP; rw [if_neg (by simpa using c3)]
        have anyc : ∀ {K : Bool -> World -> Prop}, (∀ w7, Pu w6 w7 -> K (fs.any (isP f t.1)) w7) -> Calls Tryz.prog 152 #[.slice q.a q.len q.cap, .func (.func 204) #[] #[.pointer (some ⟨b, 0, none⟩), .pointer (some (⟨bt, 0, none⟩ : Addr))]] w6 fun e w' => ∃ b63 : Bool, e = .returned (.bool b63) /\ K b63 w' := fun {K} hK => by
          refine (many_p h6 hbb6 hb6 htz hq6).mono ?_
          rintro e w7 ⟨rfl, hp7⟩
          exact ⟨_, rfl, hK w7 hp7⟩
        refine ⟨_, cl0 hb6, Br.of (fun c4 => ⟨_, cl hb6 2, Br.of (fun c5 => Br.of (fun c6 => Br.t rfl ?_) (fun c6 => anyc fun w7 hp7 => ?_)) (fun c5 => ?_)⟩) (fun c4 => Br.of (fun c5 => anyc fun w7 hp7 => ?_) (fun c5 => ?_))⟩
        · have e : stopP f t.1 fs d = true := by
            rw [toList_beq] at c6
            unfold stopP
            rw [decide_eq_true (by have := btrue c5; omega : d = 0), decide_eq_true (btrue c4), c6]; rfl
          have := cont (Pu.refl w6); rw [e] at this; exact this
        · have e : stopP f t.1 fs d = fs.any (isP f t.1) := by
            rw [toList_beq] at c6
            unfold stopP
            rw [decide_eq_true (by have := btrue c5; omega : d = 0), decide_eq_true (btrue c4), c6]; rfl
          have := cont hp7; rw [e] at this; exact this
        · have e : stopP f t.1 fs d = false := by
            unfold stopP
            rw [decide_eq_false (by have := bfalse c5; omega : ¬ d = 0)]; rfl
          have := cont (Pu.refl w6); rw [e] at this; exact this
        · have e : stopP f t.1 fs d = fs.any (isP f t.1) := by
            unfold stopP
            rw [decide_eq_true (by have := btrue c5; omega : d = 0), decide_eq_false (bfalse c4)]; rfl
          have := cont hp7; rw [e] at this; exact this
        · have e : stopP f t.1 fs d = false := by
            unfold stopP
            rw [decide_eq_false (by have := bfalse c5; omega : ¬ d = 0)]; rfl
          have := cont (Pu.refl w6); rw [e] at this; exact this
      · have c := dfalse c
        have hend2 : exprP f T fs (n + 1) i d = i := by
          conv => lhs; unfold exprP
          rw [List.getElem?_eq_none (by omega)]
        rw [hend2] at hend
        refine ⟨_, cl0 hb3, _, cl h3.blk 1, Br.f rfl (hend _ h3 hf3)⟩
  exact key T.length i 0 w1 (by omega) hi (by omega) (.inr trivial) h1 (hq.pu hp1) hb1 (Fr.pu hp1) fun w3 h3 hf3 => hR _ _ ⟨rfl, h3, hf3⟩
end Go.Proofs.YtjbfehippchniaaGreatDoor

/- Pre: the matcher: a marker takes tokens. No condition but those stated. -/
set_option maxRecDepth 100000
set_option linter.unusedVariables false
set_option linter.unusedSimpArgs false
namespace Go.Proofs.YtjbfehippchniaaGreatDoor
open Go.Sh Go.Sh.Lx Go.Sh.Pr Go.RowKit Go.Shelf
variable {w0 w w' : World}
abbrev Hs := List (ByteArray × (SV × List (Tok × SV)))
theorem put_mapH (D : Hs) (k : ByteArray) (s : SV) (ts : List (Tok × SV)) : (AL.put D k (s, ts)).map (fun x => (x.1, x.2.1)) = AL.put (D.map fun x => (x.1, x.2.1)) k s := by
  induction D with
  | nil => rfl
  | cons x D ih =>
    obtain ⟨a, b⟩ := x
    simp only [AL.put, List.map_cons]
    split
    · rfl
    · rw [List.map_cons, ih]
theorem put_memH {D : Hs} {k : ByteArray} {v : SV × List (Tok × SV)} {x : ByteArray × (SV × List (Tok × SV))} (h : x ∈ AL.put D k v) : x ∈ D ∨ x.2 = v := by
  induction D with
  | nil =>
    simp only [AL.put, List.mem_singleton] at h
    exact .inr (by rw [h])
  | cons y D ih =>
    obtain ⟨a, b⟩ := y
    simp only [AL.put] at h
    split at h
    · rcases List.mem_cons.1 h with h | h
      · exact .inr (by rw [h])
      · exact .inl (List.mem_cons_of_mem _ h)
    · rcases List.mem_cons.1 h with h | h
      · exact .inl (by rw [h]; exact List.mem_cons_self)
      · rcases ih h with h | h
        · exact .inl (List.mem_cons_of_mem _ h)
        · exact .inr h
structure HasA (w : World) (m : Nat) (H : Hs) : Prop where
  map : Go.Sh.MapAt w ekS slV m (H.map fun x => (x.1, x.2.1))
  rows : ∀ x ∈ H, RowAt w 112 4 x.2.1 (x.2.2.flatMap ftV)
theorem HasA.pu {m : Nat} {H : Hs} (h : HasA w m H) (hp : Pu w w') : HasA w' m H := ⟨h.map.pu hp, fun x hx => (h.rows x hx).pu hp⟩
theorem HasA.st {m r : Nat} {H : Hs} (h : HasA w m H) {c : Array Value} (hr : w.heap[r]? = some (.cells c 186)) (hf : Fr (· = r) w w') : HasA w' m H := by
  have hmr : m ≠ r := fun e => by
    obtain ⟨es, clk, hmb, _⟩ := h.map
    rw [e, hr] at hmb; cases hmb
  exact ⟨h.map.fr hf hmr, fun x hx => (h.rows x hx).fr hf fun k hk e => by
    rw [show k = r from e] at hk
    exact (h.rows x hx).other hr (by decide) hk⟩
theorem cells_sub {s : SV} {T : List (Tok × SV)} (h : CellsR w s T) (hcap : s.len <= s.cap) {i j : Nat} (hij : i <= j) (hj : j <= T.length) : CellsR w ⟨if s.cap = i then s.a else s.a.map (fun x => x.add (i * 4)), j - i, s.cap - i⟩ ((T.take j).drop i) := by
  have hl := h.1
  refine ⟨by simp; omega, cells_flat ftV_len (by decide) fun k x hx => ?_⟩
  have hk : k < j - i := by
    have := (List.getElem?_eq_some_iff.1 hx).1
    simp at this; omega
  rw [List.getElem?_drop, List.getElem?_take, if_pos (by omega)] at hx
  obtain ⟨a, ha, _, _, hc⟩ := h.at hx
  dsimp only
  rw [if_neg (by omega), ha]
  refine ⟨_, rfl, fun o v hv => ?_⟩
  have := hc o v hv
  rw [toNat_i, Nat.add_mul, ← Addr.add_add] at this
  exact this
theorem cloneT_c {s : SV} {L : List (Tok × SV)} (h : CellsR w s L) (hl : L.length <= 100000) : Calls Tryz.prog 199 #[.slice s.a s.len s.cap] w (CloneR w 112 4 (L.flatMap ftV)) := by
  have hsl := h.1
  refine F199_calls s w _ (clone_any Tryz.underlying84 info112 rfl (by decide) s (by rw [flatMap_len ftV_len, hsl]) h.2 (fun u hu => ?_) (by omega))
  obtain ⟨x, _, hx⟩ := List.mem_flatMap.1 hu
  exact ftV_one x u hx
theorem exprP_le {f : Bool} {T : List (Tok × SV)} {fs : List Pt} : ∀ (n i d : Nat), i <= T.length -> i <= exprP f T fs n i d /\ exprP f T fs n i d <= T.length
  | 0, i, d, h => ⟨Nat.le_refl _, h⟩
  | n + 1, i, d, h => by
    unfold exprP
    cases ht : T[i]? with
    | none => exact ⟨Nat.le_refl _, h⟩
    | some t =>
      have hlt := (List.getElem?_eq_some_iff.1 ht).1
      dsimp only
      split
      · exact ⟨Nat.le_refl _, h⟩
      · have := exprP_le (f := f) (T := T) (fs := fs) n (i + 1) (depP t.1 d) (by omega)
        exact ⟨by omega, this.2⟩
theorem marker_c {r m i : Nat} {s q : SV} {T : List (Tok × SV)} {f : Bool} {H : Hs} (h : Mst w0 w r m s T i f) (hH : HasA w m H) {fs : List Pt} (hq : RdSl w q fs) (hT : ∀ t ∈ T, t.1.text.size <= 140737488355328) (hTl : T.length <= 100000) (hcap : s.len <= s.cap) (hi : i <= T.length) {p : Pt} (hp : p.kind = 1) :
    Calls Tryz.prog 174 #[.pointer (some ⟨r, 0, none⟩), .agg (ptV p).toArray, .slice q.a q.len q.cap] w fun e w' => e = .returned (.bool (decide (exprP f T fs T.length i 0 ≠ i))) /\ (exprP f T fs T.length i 0 ≠ i -> Mst w0 w' r m s T (exprP f T fs T.length i 0) f /\ ∃ sl : SV, HasA w' m (AL.put H p.nm (sl, (T.take (exprP f T fs T.length i 0)).drop i))) /\ ∃ k, Mst w0 w' r m s T k f := by
  have hTs := h.cells0.1
  obtain ⟨j1, j2⟩ := exprP_le (f := f) (T := T) (fs := fs) T.length i 0 hi
  refine calls_by (F174_calls _ _ _ _ _ _ ⟨none, 0, 0⟩ ⟨none, 0, 0⟩ _ w) fun R hR => alB fun w1 hp1 hb1 => ?_
  have h1 := h.pu hp1
  have hrlt := blk_lt h.blk
  rw [ptrE_some]
  refine ⟨_, cl h1.blk 1, _, cl0 hb1, Br.f (by rw [hp]; rfl) ⟨_, cl0 hb1, ?_⟩⟩
  rw [hp]
  refine (expr_c h1 (hq.pu hp1) hT hTl hi).mono ?_
  rintro e w2 ⟨rfl, h2, hf2⟩
  obtain ⟨j, hj⟩ : ∃ j, j = exprP f T fs T.length i 0 := ⟨_, rfl⟩
  rw [← hj] at h2 j1 j2 hR
  have hb2 := hf2.blk hb1 (by omega)
  have hH2 := (hH.pu hp1).st h1.blk hf2
  refine ⟨rfl, ?_⟩
  rw [ptrE_some]
  refine ⟨_, cl h2.blk 1, Br.of (fun c => hR _ _ ⟨?_, fun hn => ?_, _, h2⟩) (fun c => ?_)⟩
  · rw [decide_eq_false (fun hn => hn (by have := btrue c; omega))]
  · exact absurd (by have := btrue c; omega) hn
  have hne : j ≠ i := fun e => bfalse c (by rw [e])
  refine dwE_intro fun w3 hp3 _ => ⟨fun u => Pu w3 u, Pu.refl _, ?_⟩
  have h3 := h2.pu hp3
  have hb3 := hp3.blk hb2
  have hH3 := hH2.pu hp3
  simp only [ptrE_some]
  refine ⟨some m, fun u hu => cl (hu.blk h3.blk) 3, _, fun u hu => cl (hu.blk hb3) 4, s, fun u hu => cl0 (hu.blk h3.blk), _, fun u hu => cl (hu.blk h3.blk) 1, by omega, by omega, by omega, by omega, ?_⟩
  rw [toNat_i, toNat_i]
  refine (cloneT_c (cells_sub h3.cells hcap j1 j2) (by simp; omega)).mono ?_
  rintro e w4 ⟨sl, rfl, hrow, hnew, hp4⟩
  refine ⟨sl, rfl, hp4, ?_⟩
  have h4 := h3.pu hp4
  have hH4 := hH3.pu hp4
  obtain ⟨w5, hrun, hM5, hf5, hz5⟩ := hH4.map.upd (P := Tryz.prog) (kt := 9) (t := 161) (e := 84) (keys_str Tryz.underlying9) (by kernel_rfl) p.nm sl
  have hrun2 : (Instr.mapUpdate 161 (.map (some m)) (.string p.nm) (.slice sl.a sl.len sl.cap)).run Tryz.prog w4 = .ok () w5 := hrun
  obtain ⟨es, clk, hmb, _⟩ := hH4.map
  have hrm : r ≠ m := fun e => by
    have := h4.blk
    rw [e, hmb] at this; cases this
  have h05 : Pu w0 w5 := h4.since.andNew hf5 fun i hi => by rw [show i = m from hi]; exact h4.nm
  have rowm : ∀ {s' : SV} {vs : List Value}, RowAt w4 112 4 s' vs -> RowAt w5 112 4 s' vs := fun {s' vs} hr => hr.fr hf5 fun k hk e => by
    rw [show k = m from e] at hk
    obtain ⟨_, rfl | ⟨g, cur, g1, g2, _⟩⟩ := hr
    · simp [blkOf] at hk
    · simp [blkOf, g1] at hk
      rw [← hk, hmb] at g2; cases g2
  have h5 : Mst w0 w5 r m s T j f := ⟨h05, h4.nr, h4.nm, hf5.blk h4.blk hrm, h4.cells0⟩
  refine ⟨w5, hrun2, hR _ _ ⟨by rw [decide_eq_true hne], fun _ => ⟨h5, sl, ?_, fun y hy => ?_⟩, _, h5⟩⟩
  · rw [put_mapH]; exact hM5
  · rcases put_memH hy with hy | hy
    · exact rowm (hH4.rows y hy)
    · rw [hy]; exact rowm hrow
end Go.Proofs.YtjbfehippchniaaGreatDoor

/- Pre: the matcher: a row. No condition but those stated. -/
set_option maxRecDepth 100000
set_option linter.unusedVariables false
set_option linter.unusedSimpArgs false
namespace Go.Proofs.YtjbfehippchniaaGreatDoor
open Go.Sh Go.Sh.Lx Go.Sh.Pr Go.RowKit Go.Shelf
variable {w0 w w' : World}
abbrev Gs := List (ByteArray × List (Tok × SV))
def gs (H : Hs) : Gs := H.map fun x => (x.1, x.2.2)
theorem put_gs (D : Hs) (k : ByteArray) (s : SV) (ts : List (Tok × SV)) : gs (AL.put D k (s, ts)) = AL.put (gs D) k ts := by
  unfold gs
  induction D with
  | nil => rfl
  | cons x D ih =>
    obtain ⟨a, b⟩ := x
    simp only [AL.put, List.map_cons]
    split
    · rfl
    · rw [List.map_cons, ih]
def mrow (f : Bool) (T : List (Tok × SV)) : List Pt -> Nat -> Gs -> Option (Nat × Gs)
  | [], i, H => some (i, H)
  | p :: ps, i, H => if p.kind = 0 then (if atP f T i p = true then mrow f T ps (i + 1) H else none)
    else if exprP f T (firstsP ps) T.length i 0 ≠ i then mrow f T ps (exprP f T (firstsP ps) T.length i 0) (AL.put H p.nm ((T.take (exprP f T (firstsP ps) T.length i 0)).drop i)) else none
theorem mrow_c {r m : Nat} {s q : SV} {T : List (Tok × SV)} {f : Bool} (h : Mst w0 w r m s T 0 f) (hH : HasA w m []) {ps : List Pt} (hq : RdSl w0 q ps) (hk : ∀ p ∈ ps, p.kind = 0 ∨ p.kind = 1) (hpl : ps.length <= 1000) (hT : ∀ t ∈ T, t.1.text.size <= 140737488355328) (hTl : T.length <= 100000) (hcap : s.len <= s.cap) :
    Calls Tryz.prog 151 #[.pointer (some ⟨r, 0, none⟩), .slice q.a q.len q.cap, .slice none 0 0] w fun e w' => e = .returned (.bool (mrow f T ps 0 []).isSome) /\ (∃ k, Mst w0 w' r m s T k f) /\ ∀ j G, mrow f T ps 0 [] = some (j, G) -> Mst w0 w' r m s T j f /\ ∃ H, HasA w' m H /\ gs H = G := by
  have hql := hq.len
  have hqc := hq.cap
  refine calls_by (F151_calls _ _ ⟨none, 0, 0⟩ w) fun R hR => loopUp ps.length (fun k n w' => n = (k : Int) /\ ∃ i H, i <= T.length /\ Mst w0 w' r m s T i f /\ HasA w' m H /\ mrow f T (ps.drop k) i (gs H) = mrow f T ps 0 []) ⟨rfl, 0, [], Nat.zero_le _, h, hH, rfl⟩ ?_
  rintro k J n w1 hk2 ⟨rfl, i, H, hi, h1, hH1, he⟩ hJ
  have next : ∀ {w2 : World}, k < ps.length -> (∃ i H, i <= T.length /\ Mst w0 w2 r m s T i f /\ HasA w2 m H /\ mrow f T (ps.drop (k + 1)) i (gs H) = mrow f T ps 0 []) -> F151_2 R J (some ⟨r, 0, none⟩) q ⟨none, 0, 0⟩ (k : Int) [] w2 := fun {w2} hlt hx => by
    unfold F151_2
    rw [wrap_in (by omega) (by omega)]
    exact hJ _ _ hlt ⟨by omega, hx⟩
  have fail : ∀ {w2 : World} {j : Nat}, mrow f T ps 0 [] = none -> Mst w0 w2 r m s T j f -> R (.returned (.bool false)) w2 := fun {w2 j} hn hm => hR _ _ ⟨by rw [hn]; rfl, ⟨_, hm⟩, fun j G hj => by rw [hn] at hj; cases hj⟩
  refine Br.of (fun c => ?_) (fun c => ?_)
  · have c := dtrue c
    have hlt : k < ps.length := by omega
    obtain ⟨p, hp⟩ := at_k (l := ps) (k := k) hlt
    obtain ⟨a, ha, k1, k2, hc⟩ := RdSl.pt (hq.pu h1.since) hp
    rw [drop_at hp] at he
    refine ⟨a, ha, k1, k2, _, by have := hc 0 _ rfl; rw [add0] at this; exact this, Br.of (fun c0 => ?_) (fun c0 => ?_)⟩
    · have c0 : p.kind = 0 := btrue c0
      refine ⟨a, ha, k1, k2, _, hc 0 _ rfl, _, hc 1 _ rfl, _, hc 2 _ rfl, _, hc 3 _ rfl, _, hc 4 _ rfl, ⟨none, 0, 0⟩, hc 5 _ rfl, ⟨none, 0, 0⟩, hc 6 _ rfl, (mnext_c h1 p hT).mono ?_⟩
      rintro e w2 ⟨rfl, hp2⟩
      have h2 := h1.pu hp2
      have he2 : mrow f T (p :: ps.drop (k + 1)) i (gs H) = if atP f T i p = true then mrow f T (ps.drop (k + 1)) (i + 1) (gs H) else none := by
        conv => lhs; unfold mrow
        rw [if_pos c0]
      rw [he2] at he
      refine ⟨_, rfl, Br.of (fun c1 => ?_) (fun c1 => ?_)⟩
      · rw [if_neg (by simpa using c1)] at he
        exact fail he.symm h2
      · have c1 : atP f T i p = true := by simpa using c1
        rw [if_pos c1] at he
        have hlt2 : i < T.length := by
          cases hti : T[i]? with
          | none => unfold atP at c1; rw [hti] at c1; cases c1
          | some t => exact (List.getElem?_eq_some_iff.1 hti).1
        rw [ptrE_some]
        refine ⟨_, cl h2.blk 1, ?_⟩
        rw [ptrE_some, show IntKind.i64.wrap ((i : Int) + 1) = ((i + 1 : Nat) : Int) from by rw [wrap_in (by omega) (by omega)]; omega]
        exact h2.set (i + 1) fun w3 h3 hf3 => next hlt ⟨i + 1, H, by omega, h3, (hH1.pu hp2).st h2.blk hf3, he⟩
    · have c0 : ¬ p.kind = 0 := bfalse c0
      have c1 : p.kind = 1 := (hk p (List.mem_of_getElem? hp)).resolve_left c0
      refine Br.f (by rw [c1]; rfl) (dwE_intro fun w2 hp2 _ => ⟨fun u => Pu w2 u, Pu.refl _, ?_⟩)
      have h2 := h1.pu hp2
      have hc2 : ∀ (o : Nat) (v : Value), (ptV p)[o]? = some v -> ∀ u, Pu w2 u -> u.cell? ((a.add (((k : Int)).toNat * 7)).add o) = some v := fun o v hv u hu => (hp2.trans hu).cell (hc o v hv)
      refine ⟨a, ha, k1, k2, _, hc2 0 _ rfl, _, hc2 1 _ rfl, _, hc2 2 _ rfl, _, hc2 3 _ rfl, _, hc2 4 _ rfl, ⟨none, 0, 0⟩, hc2 5 _ rfl, ⟨none, 0, 0⟩, hc2 6 _ rfl, ?_⟩
      rw [show IntKind.i64.wrap ((k : Int) + 1) = ((k + 1 : Nat) : Int) from by rw [wrap_in (by omega) (by omega)]; omega, toNat_i]
      refine ⟨hqc, by omega, by omega, alB fun w3 hp3 hb3 => ⟨hp3, ?_⟩⟩
      have h3 := h2.pu hp3
      have hsub := rd_sub (hq.pu h3.since) (lo := k + 1) (hi := ps.length) (by omega) (Nat.le_refl _) (if q.cap = k + 1 then q.a else q.a.map (fun x => x.add ((k + 1) * 7))) (q.len - (k + 1)) (q.cap - (k + 1)) rfl (by rw [hql]) rfl
      rw [List.take_length] at hsub
      refine (concatP_c (rows := [((⟨if q.cap = k + 1 then q.a else q.a.map (fun x => x.add ((k + 1) * 7)), q.len - (k + 1), q.cap - (k + 1)⟩ : SV), ps.drop (k + 1)), (⟨none, 0, 0⟩, [])]) hb3 (fun x hx => ?_) (by show 2 <= 10; omega) (by simp; omega)).mono ?_
      · simp only [List.mem_cons, List.mem_nil_iff, or_false] at hx
        rcases hx with rfl | rfl
        · exact CellsP.of hsub
        · exact ⟨rfl, fun j u hu => by simp at hu⟩
      rintro e w4 ⟨hp4, s4, rfl, hr4, _⟩
      have hr4 : RowAt w4 128 7 s4 ((ps.drop (k + 1)).flatMap ptV) := by simpa using hr4
      have hd4 := rd_pts hr4 (by simp; omega)
      refine ⟨s4, rfl, hp3.trans hp4, (firsts_c hd4 fun p hp => hk p (List.mem_of_mem_drop hp)).mono ?_⟩
      rintro e w5 ⟨hp5, s5, rfl, hd5⟩
      have h5 := (h3.pu hp4).pu hp5
      refine ⟨s5, rfl, (hp3.trans hp4).trans hp5, (marker_c h5 (hH1.pu (hp2.trans (hp3.trans (hp4.trans hp5)))) hd5 hT hTl hcap hi c1).mono ?_⟩
      rintro e w6 ⟨rfl, hy, kk, hn⟩
      have he2 : mrow f T (p :: ps.drop (k + 1)) i (gs H) = if exprP f T (firstsP (ps.drop (k + 1))) T.length i 0 ≠ i then mrow f T (ps.drop (k + 1)) (exprP f T (firstsP (ps.drop (k + 1))) T.length i 0) (AL.put (gs H) p.nm ((T.take (exprP f T (firstsP (ps.drop (k + 1))) T.length i 0)).drop i)) else none := by
        conv => lhs; unfold mrow
        rw [if_neg c0]
      rw [he2] at he
      refine ⟨_, rfl, Br.of (fun c2 => ?_) (fun c2 => ?_)⟩
      · have c2 : ¬ (exprP f T (firstsP (ps.drop (k + 1))) T.length i 0 ≠ i) := by simpa using c2
        rw [if_neg c2] at he
        exact fail he.symm hn
      · have c2 : exprP f T (firstsP (ps.drop (k + 1))) T.length i 0 ≠ i := by simpa using c2
        rw [if_pos c2] at he
        obtain ⟨h6, sl, hH6⟩ := hy c2
        exact next hlt ⟨_, _, (exprP_le _ _ _ hi).2, h6, hH6, by rw [put_gs]; exact he⟩
  · have c := dfalse c
    obtain rfl : k = ps.length := by omega
    rw [List.drop_length] at he
    have he : some (i, gs H) = mrow f T ps 0 [] := he
    refine hR _ _ ⟨by rw [← he]; rfl, ⟨_, h1⟩, fun j G hj => ?_⟩
    rw [← he] at hj
    cases hj
    exact ⟨h1, H, hH1, rfl⟩
end Go.Proofs.YtjbfehippchniaaGreatDoor

/- Pre: a pattern matched with all tokens; a result filled. No condition but those stated. -/
set_option maxRecDepth 100000
set_option linter.unusedVariables false
set_option linter.unusedSimpArgs false
namespace Go.Proofs.YtjbfehippchniaaGreatDoor
open Go.Sh Go.Sh.Lx Go.Sh.Pr Go.RowKit Go.Shelf
variable {w0 w w' : World}
def matP (T : List (Tok × SV)) (ps : List Pt) : Option Gs := match mrow true T ps 0 [] with
  | some (j, G) => if j = T.length then some G else none
  | none => none
theorem matched_c {s q : SV} {T : List (Tok × SV)} (hs : CellsR w s T) {ps : List Pt} (hq : RdSl w q ps) (hk : ∀ p ∈ ps, p.kind = 0 ∨ p.kind = 1) (hpl : ps.length <= 1000) (hT : ∀ t ∈ T, t.1.text.size <= 140737488355328) (hTl : T.length <= 100000) (hcap : s.len <= s.cap) :
    Calls Tryz.prog 124 #[.slice q.a q.len q.cap, .slice s.a s.len s.cap, .int .i64 0, .bool true] w fun e w' => Pu w w' /\ ∃ (m : Nat) (n : Int), e = .returned (.tuple #[.map (some m), .int .i64 n, .bool (matP T ps).isSome]) /\ ∀ G, matP T ps = some G -> n = (T.length : Int) /\ ∃ H, HasA w' m H /\ gs H = G := by
  have hsl := hs.1
  refine calls_by (F124_calls _ _ _ _ w) fun R hR => alE_intro fun w1 hw1 => alB fun w2 hp2 hb2 => ?_
  have hp1 : Pu w w1 := by rw [hw1]; exact Pu.alloc _ _
  have hM : Go.Sh.MapAt w1 ekS slV w.heap.size ([] : List (ByteArray × SV)) := by rw [hw1]; exact Go.Sh.MapAt.new w ekS slV
  have hP := hp1.trans hp2
  have h2 : Mst w w2 w1.heap.size w.heap.size s T 0 true := ⟨hP, hp1.size, Nat.le_refl _, hb2, hs⟩
  have hH2 : HasA w2 w.heap.size [] := ⟨hM.pu hp2, fun x hx => by cases hx⟩
  refine (mrow_c h2 hH2 hq hk hpl hT hTl hcap).mono ?_
  rintro e w3 ⟨rfl, ⟨i, h3⟩, hy⟩
  refine ⟨_, rfl, dwE_intro fun w4 hp4 _ => ?_⟩
  have h4 := h3.pu hp4
  refine ⟨_, cl h4.blk 3, _, cl h4.blk 1, Br.of (fun c => Br.f rfl ⟨_, cl h4.blk 1, ?_⟩) (fun c => ?_)⟩
  · obtain ⟨⟨j, G⟩, hj⟩ := Option.isSome_iff_exists.1 c
    obtain ⟨h5, H, hH, hG⟩ := hy j G hj
    have e1 : ((i : Nat) : Int) = (j : Int) := by
      have a1 := cl h3.blk 1
      have a2 := cl h5.blk 1
      rw [a1] at a2
      simpa using a2
    have e2 : (((i : Nat) : Int) == ((s.len : Nat) : Int)) = (matP T ps).isSome := by
      unfold matP
      rw [hj, e1, hsl, beq_dec]
      dsimp only
      split
      · rename_i h; rw [h]; simp
      · rename_i h
        rw [decide_eq_false (by omega)]; rfl
    refine hR _ _ ⟨h4.since, _, _, by rw [e2], fun G' hG' => ?_⟩
    unfold matP at hG'
    rw [hj] at hG'
    dsimp only at hG'
    split at hG'
    · rename_i h
      cases hG'
      exact ⟨by omega, H, hH.pu hp4, hG⟩
    · cases hG'
  · have hn : mrow true T ps 0 [] = none := by
      cases h : mrow true T ps 0 [] with
      | none => rfl
      | some x => rw [h] at c; cases c
    have hm : matP T ps = none := by unfold matP; rw [hn]
    refine hR _ _ ⟨h4.since, _, _, by rw [hm]; rfl, fun G hG => by rw [hm] at hG; cases hG⟩
def partT (G : Gs) (p : Pt) : List (Tok × SV) := if p.kind = 0 then [(p.t, ⟨none, 0, 0⟩)] else (AL.get G p.nm).getD []
def fillP (G : Gs) (ps : List Pt) : List (Tok × SV) := ps.flatMap (partT G)
theorem get_hs (H : Hs) (nm : ByteArray) : (AL.get (H.map fun x => (x.1, x.2.1)) nm = none /\ AL.get (gs H) nm = none) ∨ ∃ x ∈ H, AL.get (H.map fun x => (x.1, x.2.1)) nm = some x.2.1 /\ AL.get (gs H) nm = some x.2.2 := by
  induction H with
  | nil => exact .inl ⟨rfl, rfl⟩
  | cons x H ih =>
    obtain ⟨a, b⟩ := x
    simp only [gs, List.map_cons, AL.get]
    by_cases e : a = nm
    · rw [if_pos e, if_pos e]
      exact .inr ⟨(a, b), List.mem_cons_self, rfl, rfl⟩
    · rw [if_neg e, if_neg e]
      rcases ih with h | ⟨x, hx, h1, h2⟩
      · exact .inl h
      · exact .inr ⟨x, List.mem_cons_of_mem _ hx, h1, h2⟩
theorem fill_c {m : Nat} {H : Hs} (hH : HasA w m H) {q : SV} {ps : List Pt} (hq : RdSl w q ps) (hk : ∀ p ∈ ps, p.kind = 0 ∨ p.kind = 1) (hpl : ps.length <= 1000) (hfl : (fillP (gs H) ps).length <= 50000) :
    Calls Tryz.prog 125 #[.slice q.a q.len q.cap, .map (some m)] w fun e w' => Pu w w' /\ ∃ s : SV, e = .returned (.tuple #[.slice s.a s.len s.cap, .bool true]) /\ RowAt w' 112 4 s ((fillP (gs H) ps).flatMap ftV) := by
  have hql := hq.len
  refine calls_by (F125_calls _ _ w) fun R hR => alB fun w1 hp1 hb1 => ?_
  have hle : ∀ k, (fillP (gs H) (ps.take k)).length <= 50000 := fun k => by
    have e : fillP (gs H) ps = fillP (gs H) (ps.take k) ++ fillP (gs H) (ps.drop k) := by
      unfold fillP; rw [← List.flatMap_append, List.take_append_drop]
    have := congrArg List.length e
    rw [List.length_append] at this; omega
  refine loopUp ps.length (fun k t w' => ∃ s' : SV, t = (s', (k : Int)) /\ Pu w1 w' /\ RowAt w' 112 4 s' ((fillP (gs H) (ps.take k)).flatMap ftV) /\ NewR w1 s') ⟨⟨none, 0, 0⟩, rfl, Pu.refl _, RowAt.nil _ _ _, by simp [NewR, blkOf]⟩ ?_
  rintro k J t w2 hk2 ⟨s', rfl, hp2, hr2, hn2⟩ hJ
  dsimp only
  refine Br.of (fun c => ?_) (fun c => ?_)
  · have c := dtrue c
    have hlt : k < ps.length := by omega
    obtain ⟨p, hp⟩ := at_k (l := ps) (k := k) hlt
    have hP2 := hp1.trans hp2
    obtain ⟨a, ha, k1, k2, hc⟩ := RdSl.pt (hq.pu hP2) hp
    have hpre : fillP (gs H) (ps.take (k + 1)) = fillP (gs H) (ps.take k) ++ partT (gs H) p := by
      unfold fillP; rw [take_at hp, List.flatMap_append]; simp
    have hl1 := hle (k + 1)
    have hl0 := hle k
    rw [hpre, List.length_append] at hl1
    refine ⟨a, ha, k1, k2, _, hc 0 _ rfl, _, hc 1 _ rfl, _, hc 2 _ rfl, _, hc 3 _ rfl, _, hc 4 _ rfl, ⟨none, 0, 0⟩, hc 5 _ rfl, ⟨none, 0, 0⟩, hc 6 _ rfl, ?_⟩
    refine boxA (vs := (ptV p).toArray) (zs := pz) rfl (by rw [size128]; rfl) rfl fun w3 hp3 hz3 hb3 => ⟨_, cl0 hb3, Br.of (fun c0 => ?_) (fun c0 => ?_)⟩
    · have c0 : p.kind = 0 := btrue c0
      have e : partT (gs H) p = [(p.t, ⟨none, 0, 0⟩)] := if_pos c0
      refine ⟨_, cl hb3 1, _, cl hb3 2, _, cl hb3 3, alB fun w4 hp4 hb4 => ?_⟩
      obtain ⟨s2, w5, hrun, hr5, hf5, hn5⟩ := push_ft (hr2.pu (hp3.trans hp4)) (by omega) (p.t, (⟨none, 0, 0⟩ : SV)) hb4
      have hP4 := hp2.trans (hp3.trans hp4)
      refine ⟨s2, w5, hrun, ?_⟩
      rw [wrap_in (by omega) (by omega)]
      refine hJ _ _ hlt ⟨s2, by rw [show (k : Int) + 1 = ((k + 1 : Nat) : Int) by omega], hP4.andNew hf5 fun i hi => hn2 i hi, ?_, fun i hi => ?_⟩
      · rw [hpre, e]; exact hr5
      · rcases hn5 i hi with h | h
        · exact hn2 i h
        · have := hP4.size; omega
    · have c0 : ¬ p.kind = 0 := bfalse c0
      have c1 : p.kind = 1 := (hk p (List.mem_of_getElem? hp)).resolve_left c0
      have e : partT (gs H) p = (AL.get (gs H) p.nm).getD [] := if_neg c0
      refine Br.t (by rw [c1]; rfl) ?_
      have hP3 := hP2.trans hp3
      have hb13 := hp3.blk (hp2.blk hb1)
      refine ⟨_, cl0 hb13, _, cl hb3 4, ?_⟩
      have hlook := (hH.pu hP3).map.look (P := Tryz.prog) (kt := 9) (t := 161) (e := 84) (keys_str Tryz.underlying9) (by kernel_rfl) (z := .slice none 0 0) (Tryz.zeroValue84 _) p.nm false
      rw [if_neg (by decide)] at hlook
      have fin : ∀ (g : SV), ((AL.get (H.map fun x => (x.1, x.2.1)) p.nm).elim (Value.slice none 0 0) slV) = slV g -> CellsR w1 g (partT (gs H) p) -> ∃ l52 : SV, ∃ w8 : World, (Instr.lookup 161 (.map (some m)) (.string p.nm) false).run Tryz.prog w3 = .ok (.slice l52.a l52.len l52.cap) w8 /\ ∃ l53 : SV, ∃ w9 : World, (Builtin.append_ #[84, 84] 84 #[.slice s'.a s'.len s'.cap, .slice l52.a l52.len l52.cap]).run Tryz.prog w8 = .ok (.slice l53.a l53.len l53.cap) w9 /\ J (l53, (IntKind.i64.wrap ((k : Int) + 1))) w9 := fun g hg hcl => by
        rw [hg] at hlook
        obtain ⟨s2, w5, hrun, hr5, hp5, hn5⟩ := push_cells (hr2.pu hp3) hn2 (hp2.trans hp3) hcl (by omega)
        refine ⟨g, w3, hlook, s2, w5, hrun, ?_⟩
        rw [wrap_in (by omega) (by omega)]
        exact hJ _ _ hlt ⟨s2, by rw [show (k : Int) + 1 = ((k + 1 : Nat) : Int) by omega], hp5, by rw [hpre]; exact hr5, hn5⟩
      rcases get_hs H p.nm with ⟨g1, g2⟩ | ⟨x, hx, g1, g2⟩
      · exact fin ⟨none, 0, 0⟩ (by rw [g1]; rfl) (by rw [e, g2]; exact ⟨rfl, fun j u hu => by simp at hu⟩)
      · exact fin x.2.1 (by rw [g1]; rfl) (by rw [e, g2]; exact CellsR.of ((hH.rows x hx).pu hp1))
  · have c := dfalse c
    obtain rfl : k = ps.length := by omega
    rw [List.take_length] at hr2
    exact hR _ _ ⟨hp1.trans hp2, s', rfl, hr2⟩
end Go.Proofs.YtjbfehippchniaaGreatDoor

/- Pre: a command applied. No condition but those stated. -/
set_option maxRecDepth 100000
set_option linter.unusedVariables false
set_option linter.unusedSimpArgs false
namespace Go.Proofs.YtjbfehippchniaaGreatDoor
open Go.Sh Go.Sh.Lx Go.Sh.Pr Go.RowKit Go.Shelf
variable {w0 w w' : World}
def cmdP (pa pb : List Pt) (T : List (Tok × SV)) : Option (List (Tok × SV)) := (matP T pa).map fun G => fillP G pb
def emptyF : Ending := .returned (.tuple #[.slice none 0 0, .bool false, .int .i64 0])
theorem apply_c {s s1 s2 : SV} {T : List (Tok × SV)} {pa pb : List Pt} (hs : CellsR w s T) (hcap : s.len <= s.cap) (ha : RdSl w s1 pa) (hb : RdSl w s2 pb) (ka : ∀ p ∈ pa, p.kind = 0 ∨ p.kind = 1) (kb : ∀ p ∈ pb, p.kind = 0 ∨ p.kind = 1) (la : pa.length <= 1000) (lb : pb.length <= 1000)
    (hT : ∀ t ∈ T, t.1.text.size <= 140737488355328) (hTl : T.length <= 100000) (hf : ∀ l, cmdP pa pb T = some l -> l.length <= 50000) :
    Calls Tryz.prog 87 #[.agg (ruV true s1 s2).toArray, .slice s.a s.len s.cap] w fun e w' => Pu w w' /\ (cmdP pa pb T = none -> e = emptyF) /\ ∀ l, cmdP pa pb T = some l -> ∃ s' : SV, e = .returned (.tuple #[.slice s'.a s'.len s'.cap, .bool true, .int .i64 0]) /\ RowAt w' 112 4 s' (l.flatMap ftV) := by
  have hsl := hs.1
  refine calls_by (F87_calls _ _ _ _ w) fun R hR => alB fun w1 hp1 hb1 => ⟨_, cl0 hb1, Br.t rfl ?_⟩
  intro J hJ
  refine hJ _ _ (Br.t (by decide) ?_)
  rw [ptrE_some]
  refine ⟨s1, cl hb1 1, ?_⟩
  rw [ptrE_some]
  refine ⟨_, cl0 hb1, (matched_c (hs.pu hp1) (ha.pu hp1) ka la hT hTl hcap).mono ?_⟩
  rintro e w2 ⟨hp2, m, n, rfl, hy⟩
  have hP2 := hp1.trans hp2
  refine ⟨some m, n, _, rfl, Br.of (fun c => ?_) (fun c => ?_)⟩
  · have hm : matP T pa = none := by
      cases h : matP T pa with
      | none => rfl
      | some x => rw [h] at c; cases c
    have hn : cmdP pa pb T = none := by unfold cmdP; rw [hm]; rfl
    refine hJ _ _ (Br.f (by decide) (hR _ _ ⟨hP2, fun _ => rfl, fun l hl => by rw [hn] at hl; cases hl⟩))
  · obtain ⟨G, hG⟩ : ∃ G, matP T pa = some G := by
      cases h : matP T pa with
      | none => rw [h] at c; cases c
      | some x => exact ⟨x, rfl⟩
    obtain ⟨rfl, H, hH, rfl⟩ := hy G hG
    have hn : cmdP pa pb T = some (fillP (gs H) pb) := by unfold cmdP; rw [hG]; rfl
    have hfl := hf _ hn
    have hb12 := hp2.blk hb1
    rw [ptrE_some]
    refine ⟨s2, cl hb12 2, (fill_c hH (hb.pu hP2) kb lb hfl).mono ?_⟩
    rintro e w3 ⟨hp3, s3, rfl, hr3⟩
    refine ⟨s3, _, rfl, Br.f rfl (dwE_intro fun w4 hp4 _ => ?_)⟩
    refine ⟨by omega, by show 0 <= s.cap; omega, by omega, hcap, by omega, by rw [toNat_i]; omega, alB fun w5 hp5 hb5 => ?_⟩
    rw [toNat_i] at hb5
    have hP4 := hP2.trans (hp3.trans hp4)
    obtain ⟨sa, hsa⟩ : ∃ x : SV, x = ⟨if s.cap = 0 then s.a else s.a.map (fun x => x.add (0 * 4)), (0 : Int).toNat - 0, s.cap - 0⟩ := ⟨_, rfl⟩
    obtain ⟨sc, hsc⟩ : ∃ x : SV, x = ⟨if s.cap = T.length then s.a else s.a.map (fun x => x.add (T.length * 4)), s.len - T.length, s.cap - T.length⟩ := ⟨_, rfl⟩
    refine (concat_c (rows := [(sa, []), (s3, fillP (gs H) pb), (sc, [])]) (by rw [hb5, hsa, hsc]; rfl) (fun x hx => ?_) (by show 3 <= 10; omega) (by simp; omega)).mono ?_
    · simp only [List.mem_cons, List.mem_nil_iff, or_false] at hx
      rcases hx with rfl | rfl | rfl
      · exact ⟨by rw [hsa]; rfl, fun j u hu => by simp at hu⟩
      · exact (CellsR.of hr3).pu (hp4.trans hp5)
      · exact ⟨by rw [hsc]; show s.len - T.length = 0; omega, fun j u hu => by simp at hu⟩
    rintro e w6 ⟨hp6, s6, rfl, hr6, _⟩
    refine ⟨s6, rfl, hR _ _ ⟨hP4.trans (hp5.trans hp6), fun h => ?_, fun l hl => ?_⟩⟩
    · rw [hn] at h; cases h
    · rw [hn] at hl
      cases hl
      exact ⟨s6, rfl, by simpa using hr6⟩
end Go.Proofs.YtjbfehippchniaaGreatDoor
