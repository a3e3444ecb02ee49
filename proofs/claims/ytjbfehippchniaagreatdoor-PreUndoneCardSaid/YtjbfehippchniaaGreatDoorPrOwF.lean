import Derived.Test.YtjbfehippchniaaGreatDoorPrOwE
import Derived.Test.YtjbfehippchniaaGreatDoorPrPrA
import Derived.Test.YtjbfehippchniaaGreatDoorPrOwC
import Derived.Test.YtjbfehippchniaaGreatDoorPrPrB
/- Pre: PreKeeps' law, but for the facts that are known. No condition but those stated. -/
set_option maxRecDepth 100000
set_option linter.unusedVariables false
set_option linter.unusedSimpArgs false
namespace Go.Proofs.YtjbfehippchniaaGreatDoor
open Go.Sh Go.Sh.Lx Go.Sh.Pr Go.RowKit Go.Shelf
variable {w0 w w' : World}
theorem many_c {s : SV} {l : List ByteArray} (hs : RdSl w s l) (hl : l.length <= 10) (hz : ∀ x ∈ l, x.size <= 140737488355328) : Calls Tryz.prog 13 #[.slice s.a s.len s.cap] w fun e w' => e = .returned (.bool (decide (((l.length + (l.map ByteArray.size).sum : Nat) : Int) > 12000))) /\ w' = w := by
  have hsl := hs.len
  have hsum : ∀ k, k <= l.length -> ((l.take k).map ByteArray.size).sum <= k * 140737488355328 := by
    intro k
    induction k with
    | zero => intro _; simp
    | succ k ih =>
      intro hk
      obtain ⟨x, hx⟩ := at_k (l := l) (k := k) (by omega)
      have h1 := ih (by omega)
      have h2 := hz x (List.mem_of_getElem? hx)
      rw [take_at hx, List.map_append, List.sum_append, Nat.succ_mul, show (List.map ByteArray.size [x]).sum = x.size by simp]
      omega
  refine calls_by (F13_calls _ w) fun R hR => loopUp l.length (fun k t w' => t = (((l.length + ((l.take k).map ByteArray.size).sum : Nat) : Int), (k : Int)) /\ w' = w) ⟨by rw [hsl]; simp, rfl⟩ ?_
  rintro k J t w1 hk ⟨rfl, rfl⟩ hJ
  dsimp only
  refine Br.of (fun q => ?_) (fun q => ?_)
  · have q := dtrue q
    obtain ⟨x, hx⟩ := at_k (l := l) (k := k) (by omega)
    obtain ⟨a, ha, h1, h2, hc⟩ := RdSl.wd hs hx
    refine ⟨a, ha, h1, h2, _, hc, ?_⟩
    have g1 := hsum k (by omega)
    have g2 := hz x (List.mem_of_getElem? hx)
    have g3 : k * 140737488355328 <= 10 * 140737488355328 := Nat.mul_le_mul_right _ (by omega)
    rw [wrap_in (by omega) (by omega), wrap_in (by omega) (by omega)]
    refine hJ _ _ (by omega) ⟨?_, rfl⟩
    rw [take_at hx, List.map_append, List.sum_append]
    have : (List.map ByteArray.size [x]).sum = x.size := by simp
    rw [this]
    congr 1
    omega
  · have q := dfalse q
    obtain rfl : k = l.length := by omega
    rw [List.take_length]
    exact hR _ _ ⟨rfl, rfl⟩
theorem over_c {s : SV} {l : List ByteArray} (hs : RdSl w s l) (hl : l.length <= 10) (hz : ∀ x ∈ l, x.size <= 140737488355328) : Calls Tryz.prog 5 #[.slice s.a s.len s.cap] w fun e w' => e = .returned (.bool (decide (((l.length + (l.map ByteArray.size).sum : Nat) : Int) > 12000))) /\ w' = w :=
  calls_by (F5_calls _ w) fun R hR => (many_c hs hl hz).mono fun e w' ⟨h1, h2⟩ => ⟨_, h1, hR _ _ ⟨rfl, h2⟩⟩
def MaxL (w : World) : Prop := ∃ m : Int, w.cell? ⟨Tryz.lays144_ren.g 1, 0, none⟩ = some (.int .i64 m)
theorem MaxL.pu (h : MaxL w) (hp : Pu w w') : MaxL w' := let ⟨m, hm⟩ := h; ⟨m, hp.cell hm⟩
def KnownC : Prop := ∀ w : World, Laid w -> MaxL w -> Calls Tryz.prog 7 #[] w fun e w' => e = .returned (.bool true) /\ Pu w w'
end Go.Proofs.YtjbfehippchniaaGreatDoor

/- Pre: a directive's word; a definition. No condition but those stated. -/
set_option maxRecDepth 100000
set_option linter.unusedVariables false
set_option linter.unusedSimpArgs false
namespace Go.Proofs.YtjbfehippchniaaGreatDoor
open Go.Sh Go.Sh.Lx Go.Sh.Pr Go.RowKit Go.Shelf
variable {w0 w w' : World}
structure Rdx (w0 w : World) (r : Nat) (d : List UInt8) (i : Nat) (f : Bool) : Prop where
  since : Pu w0 w
  new : w0.heap.size <= r
  blk : w.heap[r]? = some (.cells #[.string (bs d), .int .i64 (i : Int), .bool f] 78)
  le : i <= d.length
  lim : d.length <= 4294967280
variable {r i : Nat} {d : List UInt8} {f : Bool}
theorem Rdx.pu (h : Rdx w0 w r d i f) (hp : Pu w w') : Rdx w0 w' r d i f := ⟨h.since.trans hp, h.new, hp.blk h.blk, h.le, h.lim⟩
theorem Rdx.st (h : Rdx w0 w r d i f) {j : Nat} (hj : j <= d.length) {n : Int} (hn : n = (j : Int)) {K : World -> Prop} (hK : ∀ w', Rdx w0 w' r d j f -> Fr (· = r) w w' -> K w') : ptrE (some (⟨r, 0, none⟩ : Addr)) fun a => st1 (a.add 1) (.int .i64 n) w K := by
  rw [ptrE_some, add_def]
  subst hn
  refine st1_intro (o := 0 + 1) h.blk (by simp) fun w' hw' hb' => ?_
  have hf : Fr (· = r) w w' := by rw [hw']; exact Fr.setCell w ⟨r, 1, none⟩ _
  exact hK w' ⟨h.since.andNew hf fun k hk => by rw [show k = r from hk]; exact h.new, h.new, hb', hj, h.lim⟩ hf
def wB (b : UInt8) : Bool := Lx.letB b || Go.Sh.digB b
theorem wB_eq (b : UInt8) : (decide (b.toNat = 95) || (decide (97 <= b.toNat) && decide (b.toNat <= 122)) || (decide (65 <= b.toNat) && decide (b.toNat <= 90)) || (decide (48 <= b.toNat) && decide (b.toNat <= 57))) = wB b := rfl
theorem wordByte_c (b : UInt8) (w : World) : Calls Tryz.prog 79 #[.int .u8 ((b.toNat : Nat) : Int)] w fun e w' => e = .returned (.bool (wB b)) /\ w' = w := by
  refine calls_by (F79_calls _ w) fun R hR => ?_
  have hb := wB_eq b
  unfold F79_3 F79_2
  have key : ∀ v : Bool, v = wB b -> F79_1 R v [] w := fun v hv => hR _ _ ⟨by rw [hv], rfl⟩
  have c1 : (((b.toNat : Nat) : Int) == 95) = decide (b.toNat = 95) := by rw [beq_dec]; exact dec_eq (by omega)
  have c2 : decide (((b.toNat : Nat) : Int) ≥ 97) = decide (97 <= b.toNat) := dec_eq (by omega)
  have c3 : decide (((b.toNat : Nat) : Int) <= 122) = decide (b.toNat <= 122) := dec_eq (by omega)
  have c4 : decide (((b.toNat : Nat) : Int) ≥ 65) = decide (65 <= b.toNat) := dec_eq (by omega)
  have c5 : decide (((b.toNat : Nat) : Int) <= 90) = decide (b.toNat <= 90) := dec_eq (by omega)
  have c6 : decide (((b.toNat : Nat) : Int) ≥ 48) = decide (48 <= b.toNat) := dec_eq (by omega)
  have c7 : decide (((b.toNat : Nat) : Int) <= 57) = decide (b.toNat <= 57) := dec_eq (by omega)
  rw [c1, c2, c3, c4, c5, c6, c7]
  revert hb
  generalize decide (b.toNat = 95) = x1
  generalize decide (97 <= b.toNat) = x2
  generalize decide (b.toNat <= 122) = x3
  generalize decide (65 <= b.toNat) = x4
  generalize decide (b.toNat <= 90) = x5
  generalize decide (48 <= b.toNat) = x6
  generalize decide (b.toNat <= 57) = x7
  intro hb
  cases x1 <;> cases x2 <;> cases x3 <;> cases x4 <;> cases x5 <;> cases x6 <;> exact key _ (by rw [← hb]; simp)
def wdS (d : List UInt8) (i : Nat) : List UInt8 := (d.drop i).takeWhile wB
theorem wordR_c (hL : Laid w0) (hd : d.length <= 4000) (h : Rdx w0 w r d i f) : Calls Tryz.prog 43 #[.pointer (some ⟨r, 0, none⟩)] w fun e w' => e = .returned (.string (bs ((wdS d i).map capU))) /\ Rdx w0 w' r d (i + (wdS d i).length) f /\ Fr (· = r) w w' := by
  have hle := h.le
  have htw : (wdS d i).length <= (d.drop i).length := tw_le _ _
  rw [List.length_drop] at htw
  refine calls_by (F43_calls _ w) fun R hR => ⟨_, cl h.blk 1, ?_⟩
  refine loopUp (wdS d i).length (fun k _ w' => Rdx w0 w' r d (i + k) f /\ Fr (· = r) w w') ⟨h, Fr.refl _ _⟩ ?_
  rintro k J _ w1 hk ⟨h1, f1⟩ hJ
  have ht := head_test (f := wB) (d := d) (p := i) (k := k) hk
  refine dwE_intro fun w2 hp2 _ => ?_
  have h2 := h1.pu hp2
  have f2 : Fr (· = r) w w2 := f1.trans (Fr.pu hp2 : Fr (· = r) w1 w2) fun _ hi _ => hi
  have c0 : w2.cell? ⟨r, 0, none⟩ = some (.string (bs d)) := cl0 h2.blk
  have c1 : w2.cell? ((⟨r, 0, none⟩ : Addr).add 1) = some (.int .i64 ((i + k : Nat) : Int)) := cl h2.blk 1
  have fin : ¬ k < (wdS d i).length -> F43_1 R (some ⟨r, 0, none⟩) (i : Int) [] w2 := fun h9 => by
    obtain rfl : k = (wdS d i).length := by omega
    refine dwE_intro fun w3 hp3 _ => ?_
    have h3 := h2.pu hp3
    refine ⟨_, cl0 h3.blk, _, cl h3.blk 1, by omega, by rw [bs_size]; omega, by omega, by omega, ?_⟩
    have hex : (bs d).extract i (i + (wdS d i).length) = bs (wdS d i) := ext_tw wB d i hle
    rw [toNat_i, toNat_i, hex]
    refine (upper_c (hL.pu h3.since) _ (by omega)).mono ?_
    rintro e w4 ⟨rfl, hp4⟩
    refine ⟨_, rfl, hR _ _ ⟨?_, h3.pu hp4, f2.trans (Fr.pu (hp3.trans hp4) : Fr (· = r) w2 w4) fun _ hi _ => hi⟩⟩
    have hup : Lib.toUpperD (wdS d i) = (wdS d i).map capU := upD_low fun y hy => letdig_low (tw_mem (p := wB) hy)
    rw [hup]
  refine ⟨_, c1, _, c0, ?_⟩
  rw [bs_size]
  refine Br.of (fun q => ?_) (fun q => ?_)
  · have q := dtrue q
    obtain ⟨x, hx⟩ := at_k (l := d) (k := i + k) (by omega)
    rw [hx] at ht
    have ht : wB x = decide (k < (wdS d i).length) := ht
    refine ⟨_, c0, _, c1, x, by omega, by rw [toNat_i]; exact bs_get hx, (wordByte_c x w2).mono ?_⟩
    rintro e w3 ⟨rfl, rfl⟩
    refine ⟨_, rfl, ?_⟩
    rw [ht]
    refine Br.of (fun q2 => ?_) (fun q2 => fin (dfalse q2))
    have q2 := dtrue q2
    refine ⟨_, c1, ?_⟩
    rw [wrap_in (by omega) (by omega)]
    exact h2.st (j := i + k + 1) (by omega) (by omega) fun w4 h4 f4 => hJ _ _ q2 ⟨h4, f2.trans f4 fun _ hi _ => hi⟩
  · have q := dfalse q
    exact fin (by omega)
def dirsL : List ByteArray := [⟨#[68, 69, 70, 73, 78, 69]⟩, ⟨#[85, 78, 68, 69, 70]⟩, ⟨#[73, 70, 68, 69, 70]⟩, ⟨#[73, 70, 78, 68, 69, 70]⟩, ⟨#[69, 76, 83, 69]⟩, ⟨#[69, 78, 68, 73, 70]⟩, ⟨#[67, 79, 77, 77, 65, 78, 68]⟩, ⟨#[84, 82, 65, 78, 83, 76, 65, 84, 69]⟩]
theorem dirs_c (w : World) : Calls Tryz.prog 44 #[] w fun e w' => Pu w w' /\ ∃ s : SV, e = .returned (.slice s.a s.len s.cap) /\ RdSl w' s dirsL :=
  calls_by (F44_calls w) fun R hR => alB fun w1 hp1 hb1 => hR _ _ ⟨hp1, ⟨some ⟨w.heap.size, 0, none⟩, 8, 8⟩, rfl, rd_strs (l := dirsL) hb1 (by decide)⟩
def dirS (x : List UInt8) : ByteArray × List UInt8 × Bool :=
  if headB 35 (trimS (uncS x)) = false then (⟨#[]⟩, [], false)
  else ((fullS (((wdS (trimS ((trimS (uncS x)).drop 1)) 0).map capU).map capU) dirsL).1, trimS ((trimS ((trimS (uncS x)).drop 1)).drop (wdS (trimS ((trimS (uncS x)).drop 1)) 0).length), (fullS (((wdS (trimS ((trimS (uncS x)).drop 1)) 0).map capU).map capU) dirsL).2)
theorem dir_c (hL : Laid w) (x : List UInt8) (hx : x.length <= 4000) : Calls Tryz.prog 18 #[.string (bs x)] w fun e w' => e = .returned (.tuple #[.string (dirS x).1, .string (bs (dirS x).2.1), .bool (dirS x).2.2]) /\ Pu w w' := by
  have hul := uncS_len x
  have htl := trimS_len (uncS x)
  refine calls_by (F18_calls _ w) fun R hR => (uncommented_c x (by omega) w).mono ?_
  rintro e w1 ⟨rfl, hp1⟩
  refine ⟨_, rfl, (trimmed_c (uncS x) (by omega) w1).mono ?_⟩
  rintro e w2 ⟨rfl, hp2⟩
  refine ⟨_, rfl, (hash_c (trimS (uncS x)) w2).mono ?_⟩
  rintro e w3 ⟨rfl, rfl⟩
  have hP := hp1.trans hp2
  refine ⟨_, rfl, Br.of (fun q => ?_) (fun q => ?_)⟩
  · have q : headB 35 (trimS (uncS x)) = false := by simpa using q
    have e1 : dirS x = (⟨#[]⟩, [], false) := by unfold dirS; rw [if_pos q]
    exact hR _ _ ⟨by rw [e1], hP⟩
  · have q : headB 35 (trimS (uncS x)) = true := by simpa using q
    have hlen : 1 <= (trimS (uncS x)).length := by
      cases h : trimS (uncS x) with
      | nil => rw [h] at q; cases q
      | cons b t => simp
    have i1 : (1 : Int).toNat = 1 := rfl
    obtain ⟨t, ht⟩ : ∃ t, t = trimS (uncS x) := ⟨_, rfl⟩
    obtain ⟨u, hu⟩ : ∃ u, u = trimS (t.drop 1) := ⟨_, rfl⟩
    have hul2 := trimS_len (t.drop 1)
    rw [List.length_drop] at hul2
    have htt : t.length <= 4000 := by rw [ht]; omega
    have hus : u.length <= 4000 := by rw [hu]; omega
    rw [← ht] at hlen q ⊢
    refine ⟨Nat.le_refl _, by omega, by rw [bs_size]; omega, ?_⟩
    rw [i1, extract_drop]
    refine (trimmed_c (t.drop 1) (by rw [List.length_drop]; omega) w3).mono ?_
    rintro e w4 ⟨rfl, hp4⟩
    rw [← hu]
    refine ⟨_, rfl, alE_intro fun w5 hw5 => ?_⟩
    have hS : Rdx w w5 w4.heap.size u 0 false := ⟨hP.trans (hp4.trans (by rw [hw5]; exact Pu.alloc _ _)), (hP.trans hp4).size, by rw [hw5]; exact alloc_new _ _, Nat.zero_le _, by omega⟩
    refine (wordR_c hL hus hS).mono ?_
    rintro e w6 ⟨rfl, h6, _⟩
    refine ⟨_, rfl, (dirs_c w6).mono ?_⟩
    rintro e w7 ⟨hp7, s7, rfl, hs7⟩
    have hwl : (wdS u 0).length <= u.length := by have := tw_le wB (u.drop 0); rwa [List.drop_zero] at this
    refine ⟨s7, rfl, (full_c hs7 ((wdS u 0).map capU) (by rw [List.length_map]; omega)).mono ?_⟩
    rintro e w8 ⟨rfl, hp8⟩
    refine ⟨_, _, rfl, dwE_intro fun w9 hp9 _ => ?_⟩
    have h9 := ((h6.pu hp7).pu hp8).pu hp9
    refine ⟨_, cl0 h9.blk, _, cl h9.blk 1, Nat.le_refl _, by omega, by rw [toNat_i, bs_size]; omega, ?_⟩
    rw [toNat_i, Nat.zero_add, extract_drop]
    refine (trimmed_c (u.drop (wdS u 0).length) (by rw [List.length_drop]; omega) w9).mono ?_
    rintro e w10 ⟨rfl, hp10⟩
    have e1 : dirS x = ((fullS (((wdS u 0).map capU).map capU) dirsL).1, trimS (u.drop (wdS u 0).length), (fullS (((wdS u 0).map capU).map capU) dirsL).2) := by
      unfold dirS
      rw [← ht, ← hu, if_neg (by rw [q]; decide)]
    exact ⟨_, rfl, hR _ _ ⟨by rw [e1], h9.since.trans hp10⟩⟩
def defD (x : List UInt8) : Option (ByteArray × List Tok) := match tokP x with
  | some (t :: ts) => if goesS x true = false /\ t.kind = 0 /\ isNameS t.text.data.toList = true then some (t.text, ts) else none
  | _ => none
theorem define_c (hL : Laid w) (x : List UInt8) (hx : x.length <= 4000) : Calls Tryz.prog 37 #[.string (bs x)] w fun e w' => Pu w w' /\ ∃ (n : ByteArray) (s : SV) (b : Bool), e = .returned (.tuple #[.string n, .slice s.a s.len s.cap, .bool b]) /\ (b = (defD x).isSome) /\ ∀ m ts, defD x = some (m, ts) -> n = m /\ RdSl w' s ts := by
  refine calls_by (F37_calls _ w) fun R hR => (tokens_c hL x (by omega)).mono ?_
  rintro e w1 ⟨hp1, s, b, rfl, rfl, hrd⟩
  refine ⟨s, _, rfl, ?_⟩
  have no : ∀ {w2 : World} {sl : SV}, Pu w w2 -> defD x = none -> F37_1 R sl true [] w2 := fun {w2 sl} hp h => by
    refine Br.t rfl (hR _ _ ⟨hp, _, ⟨none, 0, 0⟩, false, rfl, by rw [h]; rfl, fun m ts h2 => ?_⟩)
    rw [h] at h2; cases h2
  cases ht : tokP x with
  | none => exact Br.t rfl (no hp1 (by unfold defD; rw [ht]))
  | some l =>
    rw [ht] at hrd
    have hrd := hrd rfl
    have e2 : tokV2 x = l := by unfold tokV2; rw [ht]; rfl
    rw [e2] at hrd
    have hsl := hrd.len
    refine Br.f rfl ((pgoes_c x (by omega) true w1).mono ?_)
    rintro e w2 ⟨rfl, hp2⟩
    have hP := hp1.trans hp2
    have hrd2 := hrd.pu hp2
    refine ⟨_, rfl, Br.of (fun q => no hP ?_) (fun q => ?_)⟩
    · unfold defD; rw [ht]
      cases l with
      | nil => rfl
      | cons t ts => dsimp only; rw [if_neg (by rw [q]; simp)]
    · refine Br.of (fun q2 => no hP ?_) (fun q2 => ?_)
      · have q2 : ((s.len : Nat) : Int) = 0 := btrue q2
        obtain rfl : l = [] := List.eq_nil_of_length_eq_zero (by omega)
        unfold defD; rw [ht]
      · have q2 : ¬ ((s.len : Nat) : Int) = 0 := bfalse q2
        cases l with
        | nil => simp at hsl; omega
        | cons t ts =>
          have hc := RdSl.tok hrd2 (i := 0) (t := t) rfl
          obtain ⟨a, ha, h1, h2, ck, c0, c1, c2⟩ := hc
          refine ⟨a, ha, by omega, by omega, _, ck, Br.of (fun q3 => no hP ?_) (fun q3 => ⟨a, ha, by omega, by omega, _, c2, ?_⟩)⟩
          · have q3 : t.kind ≠ 0 := bntrue q3
            unfold defD; rw [ht]; dsimp only; rw [if_neg (by simp [q3])]
          · have q3 : t.kind = 0 := bnfalse q3
            obtain ⟨y, hy, hy2⟩ := text_bs t.text
            rw [hy]
            refine (name_c y w2).mono ?_
            rintro e w3 ⟨rfl, hp3⟩
            refine ⟨_, rfl, ?_⟩
            cases hn : isNameS y with
            | false => exact no (hP.trans hp3) (by unfold defD; rw [ht]; dsimp only; rw [if_neg (by rw [hy2, hn]; simp)])
            | true =>
              obtain ⟨ts9, hts9⟩ : ∃ ts9, ts9 = ts := ⟨_, rfl⟩
              have hdef : defD x = some (t.text, ts) := by unfold defD; rw [ht]; dsimp only; rw [if_pos ⟨q, q3, by rw [hy2]; exact hn⟩]
              refine Br.f rfl (dwE_intro fun w4 hp4 _ => ?_)
              have hrd4 := (hrd2.pu hp3).pu hp4
              obtain ⟨a4, ha4, g1, g2, _, _, _, c4⟩ := RdSl.tok hrd4 (i := 0) (t := t) rfl
              have hcap := hrd4.cap
              rw [hy] at c4
              refine ⟨a4, ha4, by omega, by omega, _, c4, hcap, by omega, by show 1 <= s.len; omega, hR _ _ ⟨hP.trans (hp3.trans hp4), _, ⟨_, _, _⟩, true, rfl, by rw [hdef]; rfl, fun m ts' h9 => ?_⟩⟩
              rw [hdef] at h9
              have h9 := Option.some.inj h9
              have e8 : t.text = m := congrArg Prod.fst h9
              have e9 : ts = ts' := congrArg Prod.snd h9
              refine ⟨by rw [← e8]; exact hy.symm, ?_⟩
              have := rd_sub hrd4 (lo := 1) (hi := (t :: ts).length) (by simp) (Nat.le_refl _) _ (s.len - (1 : Int).toNat) _ rfl (by rw [hsl]; rfl) rfl
              rw [List.take_length] at this
              rw [← e9]
              exact this
end Go.Proofs.YtjbfehippchniaaGreatDoor

/- Pre: lines replaced by definitions. No condition but those stated. -/
set_option maxRecDepth 100000
set_option linter.unusedVariables false
set_option linter.unusedSimpArgs false
namespace Go.Proofs.YtjbfehippchniaaGreatDoor
open Go.Sh Go.Sh.Lx Go.Sh.Pr Go.RowKit Go.Shelf
variable {w0 w w' : World}
theorem cell_map {m : Nat} {es : Array MapEntry} {c : Nat} (hm : w.heap[m]? = some (.map es c)) (hf : Fr (· = m) w w') {a : Addr} {v : Value} (h : w.cell? a = some v) : w'.cell? a = some v := by
  have hne : a.block ≠ m := fun e => by
    unfold World.cell? at h
    rw [e, hm] at h
    cases h
  have hlt : a.block < w.heap.size := by
    rcases Nat.lt_or_ge a.block w.heap.size with h9 | h9
    · exact h9
    · unfold World.cell? at h
      rw [Array.getElem?_eq_none h9] at h
      cases h
  rw [World.cell?_of_block (hf.block _ hlt hne)]
  exact h
theorem rd_map {m : Nat} {es : Array MapEntry} {c : Nat} (hm : w.heap[m]? = some (.map es c)) (hf : Fr (· = m) w w') {s : SV} {l : List Tok} (h : RdSl w s l) : RdSl w' s l :=
  ⟨h.len, h.cap, h.lim, fun i x hx => by
    obtain ⟨a, ha, vs, h1, h2⟩ := h.get i x hx
    exact ⟨a, ha, vs, h1, fun j v hv => cell_map hm hf (h2 j v hv)⟩⟩
structure Stm (w0 w : World) (b m : Nat) (D : Defs) (v : Value) : Prop where
  since : Pu w0 w
  nb : w0.heap.size <= b
  nm : w0.heap.size <= m
  blk : w.heap[b]? = some (.cells #[.map (some m), v] 46)
  map : Go.Sh.MapAt w ekS slV m (D.map fun x => (x.1, x.2.1))
  rows : ∀ x ∈ D, RdSl w x.2.1 x.2.2 /\ x.2.2.length <= 1200
theorem Stm.pu {b m : Nat} {D : Defs} {v : Value} (h : Stm w0 w b m D v) (hp : Pu w w') : Stm w0 w' b m D v := ⟨h.since.trans hp, h.nb, h.nm, hp.blk h.blk, h.map.pu hp, fun x hx => ⟨(h.rows x hx).1.pu hp, (h.rows x hx).2⟩⟩
theorem Stm.sta {b m : Nat} {D : Defs} {rs : SV} (h : Stm w0 w b m D (slV rs)) : StA w ⟨b, 0, none⟩ D rs := ⟨⟨m, cl0 h.blk, h.map⟩, h.rows, cl h.blk 1⟩
abbrev Dfs := List (ByteArray × List Tok)
def dfs (D : Defs) : Dfs := D.map fun x => (x.1, x.2.2)
theorem dg_dfs (D : Defs) (k : ByteArray) : dg D k = AL.get (dfs D) k := by
  unfold dg dfs
  induction D with
  | nil => rfl
  | cons x D ih =>
    obtain ⟨a, b⟩ := x
    simp only [List.map_cons, AL.get]
    split
    · rfl
    · exact ih
theorem put_map1 (D : Defs) (k : ByteArray) (s : SV) (ts : List Tok) : (AL.put D k (s, ts)).map (fun x => (x.1, x.2.1)) = AL.put (D.map fun x => (x.1, x.2.1)) k s := by
  induction D with
  | nil => rfl
  | cons x D ih =>
    obtain ⟨a, b⟩ := x
    simp only [AL.put, List.map_cons]
    split
    · rfl
    · rw [List.map_cons, ih]
theorem put_map2 (D : Defs) (k : ByteArray) (s : SV) (ts : List Tok) : dfs (AL.put D k (s, ts)) = AL.put (dfs D) k ts := by
  unfold dfs
  induction D with
  | nil => rfl
  | cons x D ih =>
    obtain ⟨a, b⟩ := x
    simp only [AL.put, List.map_cons]
    split
    · rfl
    · rw [List.map_cons, ih]
theorem put_mem {D : Defs} {k : ByteArray} {v : SV × List Tok} {x : ByteArray × (SV × List Tok)} (h : x ∈ AL.put D k v) : x ∈ D ∨ x.2 = v := by
  induction D with
  | nil =>
    simp only [AL.put, List.mem_singleton] at h
    subst h; exact .inr rfl
  | cons y D ih =>
    obtain ⟨a, b⟩ := y
    simp only [AL.put] at h
    split at h
    · rcases List.mem_cons.1 h with rfl | h
      · exact .inr rfl
      · exact .inl (List.mem_cons_of_mem _ h)
    · rcases List.mem_cons.1 h with rfl | h
      · exact .inl (List.mem_cons_self ..)
      · rcases ih h with h | h
        · exact .inl (List.mem_cons_of_mem _ h)
        · exact .inr h
structure DefR (x : List UInt8) (n : ByteArray) (ts : List Tok) : Prop where
  len : x.length <= 200
  one : x.contains 10 = false
  dir : (dirS x).1 = ⟨#[68, 69, 70, 73, 78, 69]⟩ /\ (dirS x).2.2 = true
  def_ : defD (dirS x).2.1 = some (n, ts)
theorem trim_le2 (x : List UInt8) : (dirS x).2.1.length <= x.length := by
  unfold dirS
  have h1 := uncS_len x
  have h2 := trimS_len (uncS x)
  split
  · simp
  · have h3 := trimS_len ((trimS (uncS x)).drop 1)
    have h4 := trimS_len ((trimS ((trimS (uncS x)).drop 1)).drop (wdS (trimS ((trimS (uncS x)).drop 1)) 0).length)
    rw [List.length_drop] at h3 h4
    dsimp only
    omega
theorem nl_c (l : List UInt8) (w : World) : Calls Tryz.prog 36 #[.string (bs l), .string (⟨#[10]⟩ : ByteArray)] w fun e w' => e = .returned (.bool (l.contains 10)) /\ w' = w := by
  refine (Any.strings_Contains_one Tryz.lays144 (bs l) 10 w).mono ?_
  rintro e w' ⟨rfl, rfl⟩
  rw [bs_list, contains_index]; exact ⟨rfl, rfl⟩
theorem check_def_c (hL : Laid w) {x : List UInt8} {n : ByteArray} {ts : List Tok} (h : DefR x n ts) : Calls Tryz.prog 17 #[.string (bs x)] w fun e w' => e = .returned (.int .i64 0) /\ Pu w w' := by
  have hlen := h.len
  have htl := trim_le2 x
  refine calls_by (F17_calls _ w) fun R hR => Br.f (by rw [bs_size]; exact decide_eq_false (by omega)) ((dir_c hL x (by omega)).mono ?_)
  rintro e w1 ⟨rfl, hp1⟩
  refine ⟨_, _, _, rfl, ?_⟩
  rw [h.dir.2]
  refine Br.f rfl ((nl_c x w1).mono ?_)
  rintro e w2 ⟨rfl, rfl⟩
  rw [h.one, h.dir.1]
  refine ⟨_, rfl, Br.f rfl (Br.t (by rw [toList_beq]; exact decide_eq_true rfl) ((define_c (hL.pu hp1) _ (by omega)).mono ?_))⟩
  rintro e w3 ⟨hp3, n3, s3, b3, rfl, hb, _⟩
  rw [h.def_] at hb
  exact ⟨_, _, _, rfl, Br.f (by rw [hb]; rfl) (hR _ _ ⟨rfl, hp1.trans hp3⟩)⟩
theorem learn_def_c (hL : Laid w) {b m : Nat} {D : Defs} {v : Value} (hS : Stm w0 w b m D v) {x : List UInt8} {n : ByteArray} {ts : List Tok} (h : DefR x n ts) : Calls Tryz.prog 19 #[.pointer (some ⟨b, 0, none⟩), .string (dirS x).1, .string (bs (dirS x).2.1)] w fun e w' => e = .returned (.int .i64 0) /\ ∃ s : SV, Stm w0 w' b m (AL.put D n (s, ts)) v := by
  have hlen := h.len
  have htl := trim_le2 x
  have hts : ts.length <= 1200 := by
    have hd := h.def_
    unfold defD at hd
    cases ht : tokP (dirS x).2.1 with
    | none => rw [ht] at hd; cases hd
    | some l =>
      rw [ht] at hd
      have hl := tokP_len ht
      cases l with
      | nil => cases hd
      | cons t l =>
        dsimp only at hd
        split at hd
        · cases hd
          rw [List.length_cons] at hl; omega
        · cases hd
  refine calls_by (F19_calls _ _ _ w) fun R hR => ?_
  refine Br.t (by rw [h.dir.1, toList_beq]; exact decide_eq_true rfl) ((define_c hL _ (by omega)).mono ?_)
  rintro e w1 ⟨hp1, n1, s1, b1, rfl, hb, hm⟩
  rw [h.def_] at hb
  obtain ⟨rfl, hrd⟩ := hm n ts h.def_
  have h1 := hS.pu hp1
  refine ⟨_, _, _, rfl, Br.f (by rw [hb]; rfl) ?_⟩
  rw [ptrE_some]
  refine ⟨_, cl0 h1.blk, ?_⟩
  obtain ⟨w2, hrun, hM2, hf2, hz2⟩ := h1.map.upd (P := Tryz.prog) (kt := 9) (t := 43) (e := 25) (keys_str Tryz.underlying9) (by kernel_rfl) n1 s1
  have hrun2 : (Instr.mapUpdate 43 (.map (some m)) (.string n1) (.slice s1.a s1.len s1.cap)).run Tryz.prog w1 = .ok () w2 := hrun
  obtain ⟨es, clk, hmb, _⟩ := h1.map
  have hbm : b ≠ m := fun e => by
    have := h1.blk
    rw [e, hmb] at this; cases this
  refine ⟨w2, hrun2, hR _ _ ⟨rfl, s1, ?_⟩⟩
  refine ⟨h1.since.andNew hf2 fun i hi => by rw [show i = m from hi]; exact h1.nm, h1.nb, h1.nm, hf2.blk h1.blk hbm, ?_, fun y hy => ?_⟩
  · rw [put_map1]; exact hM2
  · rcases put_mem hy with hy | hy
    · exact ⟨rd_map hmb hf2 (h1.rows y hy).1, (h1.rows y hy).2⟩
    · rw [hy]; exact ⟨rd_map hmb hf2 hrd, hts⟩
end Go.Proofs.YtjbfehippchniaaGreatDoor

/- Pre: Line, with definitions. No condition but those stated. -/
set_option maxRecDepth 100000
set_option linter.unusedVariables false
set_option linter.unusedSimpArgs false
namespace Go.Proofs.YtjbfehippchniaaGreatDoor
open Go.Sh Go.Sh.Lx Go.Sh.Pr Go.RowKit Go.Shelf
variable {w0 w w' : World}
def endL (o : List UInt8 × Int) : List UInt8 × Int := if o.2 ≠ 0 then ([], o.2) else if 4000 < (Lib.trimSuffix o.1 [10]).length then ([], 3) else (Lib.trimSuffix o.1 [10], 0)
theorem suffix_c (l : List UInt8) (hl : l.length <= 140737488355328) (w : World) : Calls Tryz.prog 21 #[.string (bs l), .string (⟨#[10]⟩ : ByteArray)] w fun e w' => e = .returned (.string (bs (Lib.trimSuffix l [10]))) /\ w' = w := by
  refine (Any.strings_TrimSuffix Tryz.lays102 (bs l) ⟨#[10]⟩ w (by rw [bs_size]; omega)).mono ?_
  rintro e w' ⟨rfl, rfl⟩
  rw [bs_list]
  exact ⟨rfl, rfl⟩
theorem repG_len {f : ByteArray -> Option (List Tok)} : ∀ (k : Nat) (l : List Ft), (∀ x ∈ l, x.t.text.size <= 5000) -> l.length <= 4100 -> (∀ (l l' : List Ft), (∀ x ∈ l, x.t.text.size <= 5000) -> defS f l = some l' -> ∀ x ∈ l', x.t.text.size <= 5000) -> (repG f k l).1.length <= 30000000 := by
  intro k
  induction k with
  | zero =>
    intro l hl hn hf
    cases hd : defS f l with
    | none =>
      rw [repG_none hd]
      have := join_up (tks l) fun t ht => by obtain ⟨x, hx, rfl⟩ := List.mem_map.1 ht; exact hl x hx
      have htl : (tks l).length = l.length := List.length_map _
      unfold lineT
      split
      · simp
      · rw [List.length_append, List.length_singleton]; omega
    | some l' => rw [repG_zero hd]; simp
  | succ k ih =>
    intro l hl hn hf
    cases hd : defS f l with
    | none =>
      rw [repG_none hd]
      have := join_up (tks l) fun t ht => by obtain ⟨x, hx, rfl⟩ := List.mem_map.1 ht; exact hl x hx
      have htl : (tks l).length = l.length := List.length_map _
      unfold lineT
      split
      · simp
      · rw [List.length_append, List.length_singleton]; omega
    | some l' =>
      rw [repG_succ hd]
      split
      · simp
      · have hlo := join_low (tks l')
        have htl : (tks l').length = l'.length := List.length_map _
        exact ih l' (hf l l' hl hd) (by omega) hf
def OkD (D : Defs) : Prop := ∀ x ∈ D, x.2.2.length <= 1200 /\ ∀ t ∈ x.2.2, okT t
theorem repS_len {D : Defs} (hD : OkD D) (d : List UInt8) : (replS (dg D) d).1.length <= 30000000 := by
  unfold replS
  cases ht : tokP d with
  | none => simp
  | some ts =>
    have h1 := tokP_len ht
    refine repG_len 40 _ (fun x hx => ?_) (by rw [List.length_map]; omega) fun l l' hl hd x hx => ?_
    · obtain ⟨t, ht2, rfl⟩ := List.mem_map.1 hx
      exact (tokP_ok ht t ht2).2
    · -- out of the line, or out of a definition
      have key : ∀ (l l' : List Ft), (∀ x ∈ l, x.t.text.size <= 5000) -> defS (dg D) l = some l' -> ∀ x ∈ l', x.t.text.size <= 5000 := by
        intro l
        induction l with
        | nil => intro l' _ h; cases h
        | cons y l ih =>
          intro l' hl h x hx
          unfold defS at h
          cases hy : defAt (dg D) y with
          | none =>
            rw [hy] at h
            obtain ⟨m, hm, rfl⟩ := Option.map_eq_some_iff.1 h
            rcases List.mem_cons.1 hx with rfl | hx
            · exact hl x (List.mem_cons_self ..)
            · exact ih m (fun z hz => hl z (List.mem_cons_of_mem _ hz)) hm x hx
          | some dd =>
            rw [hy] at h
            dsimp only at h
            cases h
            rcases List.mem_append.1 hx with hx | hx
            · obtain ⟨t, ht3, rfl⟩ := List.mem_map.1 hx
              unfold defAt at hy
              split at hy
              · cases hg : dg D y.t.text with
                | none => rw [hg] at hy; cases hy
                | some d2 =>
                  rw [hg] at hy
                  dsimp only at hy
                  split at hy
                  · cases hy
                  · cases hy
                    unfold dg at hg
                    cases hv : AL.get D y.t.text with
                    | none => rw [hv] at hg; cases hg
                    | some v =>
                      rw [hv] at hg
                      cases hg
                      obtain ⟨z, hz, e⟩ := al_mem hv
                      exact ((hD z hz).2 t (by rw [e]; exact ht3)).2
              · cases hy
            · exact hl x (List.mem_cons_of_mem _ hx)
      exact key l l' hl hd x hx
theorem line_end {R : Rt} {b m : Nat} {D : Defs} {ra : Option Addr} {rk : Nat} (hL : Laid w) (hS : Stm w0 w b m D (.slice ra 0 rk)) (hD : OkD D) (d : List UInt8) (hd : d.length <= 140737488355328)
    (hR : ∀ w', Pu w0 w' -> R (.returned (.tuple #[.string (bs (endL (replS (dg D) d)).1), .int .i64 (endL (replS (dg D) d)).2])) w') : F9_1 R (bs d) (some ⟨b, 0, none⟩) [] w := by
  refine (replaced_nil_c (ra := ra) (rk := rk) hL (Stm.sta (rs := ⟨ra, 0, rk⟩) hS) hD d hd).mono ?_
  rintro e w1 ⟨hp1, rfl⟩
  have hP := hS.since.trans hp1
  have hlen := repS_len hD d
  refine ⟨_, _, rfl, Br.of (fun q => ?_) (fun q => ?_)⟩
  · have q := bntrue q
    have e1 : endL (replS (dg D) d) = ([], (replS (dg D) d).2) := by unfold endL; rw [if_pos q]
    rw [e1] at hR
    exact hR _ hP
  · have q := bnfalse q
    refine (suffix_c _ (by omega) w1).mono ?_
    rintro e w2 ⟨rfl, rfl⟩
    refine ⟨_, rfl, ?_⟩
    rw [bs_size]
    refine Br.of (fun q2 => ?_) (fun q2 => ?_)
    · have q2 := dtrue q2
      have e1 : endL (replS (dg D) d) = ([], 3) := by unfold endL; rw [if_neg (by simp [q]), if_pos (by omega)]
      rw [e1] at hR
      exact hR _ hP
    · have q2 := dfalse q2
      have e1 : endL (replS (dg D) d) = (Lib.trimSuffix (replS (dg D) d).1 [10], 0) := by unfold endL; rw [if_neg (by simp [q]), if_neg (by omega)]
      rw [e1] at hR
      exact hR _ hP
theorem defR_ok {x : List UInt8} {n : ByteArray} {ts : List Tok} (h : DefR x n ts) : ts.length <= 1200 /\ ∀ t ∈ ts, okT t := by
  have hd := h.def_
  unfold defD at hd
  cases ht : tokP (dirS x).2.1 with
  | none => rw [ht] at hd; cases hd
  | some l =>
    rw [ht] at hd
    have hl := tokP_len ht
    have ho := tokP_ok ht
    cases l with
    | nil => cases hd
    | cons t l =>
      dsimp only at hd
      split at hd
      · cases hd
        rw [List.length_cons] at hl
        exact ⟨by omega, fun t ht => ho t (List.mem_cons_of_mem _ ht)⟩
      · cases hd
def putR (D : Dfs) (x : List UInt8 × (ByteArray × List Tok)) : Dfs := AL.put D x.2.1 x.2.2
theorem line_defs_c (hL : Laid w0) {s : SV} (xs : List (List UInt8 × (ByteArray × List Tok))) (hs : RdSl w0 s (xs.map fun x => bs x.1)) (hx : ∀ x ∈ xs, DefR x.1 x.2.1 x.2.2) (d : List UInt8) (hd : d.length <= 140737488355328) :
    Calls Tryz.prog 9 #[.string (bs d), .slice s.a s.len s.cap] w0 fun e w' => e = .returned (.tuple #[.string (bs (endL (replS (AL.get (xs.foldl putR [])) d)).1), .int .i64 (endL (replS (AL.get (xs.foldl putR [])) d)).2]) /\ Pu w0 w' := by
  have hsl := hs.len
  rw [List.length_map] at hsl
  have hlim := hs.lim
  refine calls_by (F9_calls _ _ w0) fun R hR => alE_intro fun w1 hw1 => alE_intro fun w2 hw2 => ?_
  have hp1 : Pu w0 w1 := by rw [hw1]; exact Pu.alloc _ _
  have hp2 : Pu w1 w2 := by rw [hw2]; exact Pu.alloc _ _
  have hM : Go.Sh.MapAt w1 ekS slV w0.heap.size ([] : List (ByteArray × SV)) := by rw [hw1]; exact Go.Sh.MapAt.new w0 ekS slV
  have hS2 : Stm w0 w2 w1.heap.size w0.heap.size [] (.slice none 0 0) := ⟨hp1.trans hp2, hp1.size, Nat.le_refl _, by rw [hw2]; exact alloc_new _ _, hM.pu hp2, fun x hx => by cases hx⟩
  have hcell : ∀ {w : World}, Pu w0 w -> ∀ {k : Nat} {x : List UInt8 × (ByteArray × List Tok)}, xs[k]? = some x -> ∃ a, s.a = some a /\ (0 : Int) <= (k : Int) /\ (k : Int) < ((s.len : Nat) : Int) /\ w.cell? (a.add (((k : Int)).toNat * 1)) = some (.string (bs x.1)) := fun {w} hp {k x} hk =>
    RdSl.wd (hs.pu hp) (i := k) (x := bs x.1) (by rw [List.getElem?_map, hk]; rfl)
  refine loopUp xs.length (fun k n w' => n = (k : Int) /\ Stm w0 w' w1.heap.size w0.heap.size [] (.slice none 0 0)) ⟨rfl, hS2⟩ ?_
  rintro k J n w3 hk ⟨rfl, hS3⟩ hJ
  refine Br.of (fun q => ?_) (fun q => ?_)
  · have q := dtrue q
    obtain ⟨x, hxk⟩ := at_k (l := xs) (k := k) (by omega)
    have hxR := hx x (List.mem_of_getElem? hxk)
    obtain ⟨a, ha, h1, h2, hc⟩ := hcell hS3.since hxk
    refine ⟨a, ha, h1, h2, _, hc, (check_def_c (hL.pu hS3.since) hxR).mono ?_⟩
    rintro e w4 ⟨rfl, hp4⟩
    refine ⟨_, rfl, Br.f rfl ?_⟩
    rw [wrap_in (by omega) (by omega)]
    exact hJ _ _ (by omega) ⟨rfl, hS3.pu hp4⟩
  · refine loopUp xs.length (fun k n w' => n = (k : Int) /\ ∃ D, Stm w0 w' w1.heap.size w0.heap.size D (.slice none 0 0) /\ OkD D /\ dfs D = (xs.take k).foldl putR []) ⟨rfl, [], hS3, (fun x hx => by cases hx), rfl⟩ ?_
    rintro k J2 n w4 hk ⟨rfl, D, hS4, hD, he⟩ hJ2
    refine Br.of (fun q2 => ?_) (fun q2 => ?_)
    · have q2 := dtrue q2
      obtain ⟨x, hxk⟩ := at_k (l := xs) (k := k) (by omega)
      have hxR := hx x (List.mem_of_getElem? hxk)
      have hlen := hxR.len
      obtain ⟨a, ha, h1, h2, hc⟩ := hcell hS4.since hxk
      refine ⟨a, ha, h1, h2, _, hc, (dir_c (hL.pu hS4.since) x.1 (by omega)).mono ?_⟩
      rintro e w5 ⟨rfl, hp5⟩
      have hS5 := hS4.pu hp5
      refine ⟨_, _, _, rfl, (learn_def_c (hL.pu hS5.since) hS5 hxR).mono ?_⟩
      rintro e w6 ⟨rfl, s6, hS6⟩
      refine ⟨_, rfl, Br.f rfl ?_⟩
      rw [wrap_in (by omega) (by omega)]
      refine hJ2 _ _ (by omega) ⟨rfl, _, hS6, fun y hy => ?_, ?_⟩
      · rcases put_mem hy with hy | hy
        · exact hD y hy
        · rw [hy]; exact defR_ok hxR
      · rw [put_map2, take_at hxk, List.foldl_append, ← he]; rfl
    · have q2 := dfalse q2
      obtain rfl : k = xs.length := by omega
      rw [List.take_length] at he
      have hf : dg D = AL.get (xs.foldl putR []) := by funext k; rw [dg_dfs, he]
      refine line_end (hL.pu hS4.since) hS4 hD d hd fun w5 hp5 => ?_
      rw [hf]
      exact hR _ _ ⟨rfl, hp5⟩
end Go.Proofs.YtjbfehippchniaaGreatDoor

/- Pre: a name that is defined as itself changes nothing: the plain law. No condition. -/
set_option maxRecDepth 100000
set_option linter.unusedVariables false
set_option linter.unusedSimpArgs false
namespace Go.Proofs.YtjbfehippchniaaGreatDoor
open Go.Sh Go.Sh.Lx Go.Sh.Pr Go.RowKit Go.Shelf
def slf (n : ByteArray) : ByteArray -> Option (List Tok) := AL.get [(n, [⟨0, 0, n⟩])]
theorem slf_at (n : ByteArray) (x : Ft) : defAt (slf n) x = if x.t.kind = 0 /\ x.t.text = n /\ memB n x.fr = false then some [⟨0, 0, n⟩] else none := by
  unfold defAt slf
  by_cases hk : x.t.kind = 0
  · rw [if_pos hk]
    by_cases ht : n = x.t.text
    · subst ht
      simp only [AL.get, if_true]
      by_cases hm : memB x.t.text x.fr = true
      · rw [if_pos hm, if_neg (by rw [hm]; simp)]
      · rw [if_neg hm, if_pos ⟨hk, trivial, by simpa using hm⟩]
    · have : AL.get [(n, [(⟨0, 0, n⟩ : Tok)])] x.t.text = none := by simp [AL.get, ht]
      rw [this, if_neg (fun h => ht h.2.1.symm)]
  · rw [if_neg hk, if_neg (fun h => hk h.1)]
def todo (n : ByteArray) (l : List Ft) : Nat := l.countP fun x => (defAt (slf n) x).isSome
def plainT (l : List Ft) : Prop := ∀ x ∈ l, x.t.at_ = 0
theorem slf_step (n : ByteArray) : ∀ {l l' : List Ft}, plainT l -> defS (slf n) l = some l' -> tks l' = tks l /\ todo n l' + 1 = todo n l /\ plainT l'
  | [], l', _, h => by cases h
  | x :: l, l', hp, h => by
    unfold defS at h
    have hat := slf_at n x
    cases hx : defAt (slf n) x with
    | some d =>
      rw [hx] at h hat
      dsimp only at h
      cases h
      split at hat
      · rename_i hc
        cases hat
        obtain ⟨c1, c2, c3⟩ := hc
        have ht : x.t = ⟨0, 0, n⟩ := by
          have h0 := hp x (List.mem_cons_self ..)
          obtain ⟨⟨k, a, s⟩, fr⟩ := x
          dsimp only at c1 c2 h0
          subst c1 c2 h0
          rfl
        have hnew : defAt (slf n) ⟨⟨0, 0, n⟩, x.fr ++ [x.t.text]⟩ = none := by
          rw [slf_at, if_neg]
          rintro ⟨_, _, h3⟩
          rw [c2] at h3
          have : memB n (x.fr ++ [n]) = true := List.any_eq_true.2 ⟨n, by simp, decide_eq_true rfl⟩
          rw [this] at h3; cases h3
        refine ⟨?_, ?_, ?_⟩
        · show (⟨0, 0, n⟩ : Tok) :: tks l = x.t :: tks l
          rw [ht]
        · unfold todo
          show List.countP _ ((⟨⟨0, 0, n⟩, x.fr ++ [x.t.text]⟩ : Ft) :: l) + 1 = _
          rw [List.countP_cons, List.countP_cons, hnew, hx]
          simp
        · intro y hy
          have hy : y ∈ (⟨⟨0, 0, n⟩, x.fr ++ [x.t.text]⟩ : Ft) :: l := hy
          rcases List.mem_cons.1 hy with rfl | hy
          · rfl
          · exact hp y (List.mem_cons_of_mem _ hy)
      · cases hat
    | none =>
      rw [hx] at h
      dsimp only at h
      obtain ⟨m, hm, rfl⟩ := Option.map_eq_some_iff.1 h
      obtain ⟨h1, h2, h3⟩ := slf_step n (fun y hy => hp y (List.mem_cons_of_mem _ hy)) hm
      refine ⟨?_, ?_, ?_⟩
      · show x.t :: tks m = x.t :: tks l
        rw [h1]
      · unfold todo at h2 ⊢
        rw [List.countP_cons, List.countP_cons, hx]
        simp; omega
      · intro y hy
        rcases List.mem_cons.1 hy with rfl | hy
        · exact hp y (List.mem_cons_self ..)
        · exact h3 y hy
theorem trim_line (ts : List Tok) : Lib.trimSuffix (lineT ts) [10] = joinP ts := by
  unfold lineT
  split
  · rename_i h; subst h; rfl
  · unfold Lib.trimSuffix
    have : Lib.hasSuffix (joinP ts ++ [10]) [10] = true := by
      unfold Lib.hasSuffix
      simp
    rw [if_pos this]
    simp
theorem slf_end (n : ByteArray) : ∀ (k : Nat) (l : List Ft), plainT l -> todo n l <= k -> endL (repG (slf n) k l) = endL (lineT (tks l), 0)
  | k, l, hp, hk => by
    cases hd : defS (slf n) l with
    | none => rw [repG_none hd]
    | some l' =>
      obtain ⟨h1, h2, h3⟩ := slf_step n hp hd
      match k, hk with
      | 0, hk => omega
      | k + 1, hk =>
        rw [repG_succ hd, h1]
        split
        · rename_i hlen
          unfold endL
          dsimp only
          rw [if_pos (by decide), if_neg (by decide), trim_line, if_pos hlen]
        · rw [slf_end n k l' h3 (by omega), h1]
theorem undone_law {n : ByteArray} {d : List UInt8} (hc : ((lexF d).1.countP fun t => decide (t.text = n)) <= 40) : endL (replS (slf n) d) = endL (replS (AL.get []) d) := by
  unfold replS
  cases ht : tokP d with
  | none => rfl
  | some ts =>
    dsimp only
    have h0 : defS (AL.get ([] : Dfs)) (ts.map hid) = none := by
      have := defS_nil (ts.map hid)
      exact this
    have hz : ∀ t ∈ ts, t.at_ = 0 /\ t ∈ Z (lexF d).1 := fun t h => by
      unfold tokP at ht
      split at ht
      · cases ht
      · split at ht
        · cases ht; cases h
        · split at ht
          · cases ht
            have hm := List.mem_of_mem_take h
            refine ⟨?_, hm⟩
            obtain ⟨u, _, rfl⟩ := List.mem_map.1 hm
            rfl
          · cases ht
    have hsub : ts.Sublist (Z (lexF d).1) := by
      unfold tokP at ht
      split at ht
      · cases ht
      · split at ht
        · cases ht; exact List.nil_sublist _
        · split at ht
          · cases ht; exact List.take_sublist _ _
          · cases ht
    rw [repG_none h0, tks_hid]
    have hp : plainT (ts.map hid) := fun x hx => by
      obtain ⟨t, h, rfl⟩ := List.mem_map.1 hx
      exact (hz t h).1
    have htd : todo n (ts.map hid) <= 40 := by
      unfold todo
      have e1 : (ts.map hid).countP (fun x => (defAt (slf n) x).isSome) <= ts.countP fun t => decide (t.text = n) := by
        rw [List.countP_map]
        refine List.countP_mono_left fun t _ h => ?_
        have h : (defAt (slf n) (hid t)).isSome = true := h
        rw [slf_at] at h
        split at h
        · rename_i hc; exact decide_eq_true hc.2.1
        · cases h
      have e2 : ts.countP (fun t => decide (t.text = n)) <= (Z (lexF d).1).countP fun t => decide (t.text = n) := hsub.countP_le
      have e3 : (Z (lexF d).1).countP (fun t => decide (t.text = n)) = (lexF d).1.countP fun t => decide (t.text = n) := by
        unfold Z
        rw [List.countP_map]; rfl
      omega
    rw [slf_end n 40 (ts.map hid) hp htd, tks_hid]
theorem nm_facts : ∀ c ∈ nmset, wB c = true /\ capU c = c /\ Lx.blkB c = false /\ c.toNat ≠ 38 /\ c.toNat ≠ 59 /\ c.toNat ≠ 42 /\ c ≠ 10 /\ Lx.nlB c = false /\ (Lx.letB c || Go.Sh.digB c) = true /\ (Go.Sh.digB c = false -> Lx.letB c = true) := by decide +kernel
theorem name_open {n : List UInt8} (h : isNameS n = true) : ∃ c r, n = c :: r /\ n.length <= 10 /\ (∀ x ∈ n, x ∈ nmset) /\ Go.Sh.digB c = false := by
  unfold isNameS at h
  simp only [Bool.and_eq_true, decide_eq_true_eq] at h
  obtain ⟨h1, h2, h3, h4⟩ := h
  cases n with
  | nil => simp at h1
  | cons c r =>
    refine ⟨c, r, rfl, h2, fun x hx => ?_, ?_⟩
    · have := List.all_eq_true.1 h3 x hx
      simpa using this
    · simpa using h4
theorem unc_id {d : List UInt8} (h : ∀ c ∈ d, c.toNat ≠ 38) : uncS d = d := by
  unfold uncS
  have : (outS 0 0 d).find? (fun i => ampB (d.drop i)) = none := by
    rw [List.find?_eq_none]
    intro i _ hi
    cases hd : d.drop i with
    | nil => rw [hd] at hi; cases hi
    | cons b t =>
      have hb : b ∈ d := by
        have : b ∈ d.drop i := by rw [hd]; exact List.mem_cons_self ..
        exact List.mem_of_mem_drop this
      rw [hd] at hi
      cases t with
      | nil => cases hi
      | cons c t =>
        unfold ampB at hi
        rw [Bool.and_eq_true] at hi
        exact h b hb (of_decide_eq_true hi.1)
  rw [this]
theorem dw_id {p : UInt8 -> Bool} {c : UInt8} {r : List UInt8} (h : p c = false) : (c :: r).dropWhile p = c :: r := by rw [List.dropWhile_cons, if_neg (by rw [h]; decide)]
theorem trim_id {c : UInt8} {v : List UInt8} {x : UInt8} {u : List UInt8} (h1 : Lx.blkB c = false) (h2 : Lx.blkB x = false) (e : c :: v = u ++ [x]) : trimS (c :: v) = c :: v := by
  unfold trimS
  rw [dw_id h1, e, List.reverse_append, List.reverse_singleton, List.singleton_append, dw_id h2, List.reverse_cons, List.reverse_reverse]
theorem trim_blk (v : List UInt8) : trimS (32 :: v) = trimS v := by
  unfold trimS
  rw [List.dropWhile_cons, if_pos (by decide)]
theorem lx_name {c : UInt8} {r y : List UInt8} {b : Bool} (hn : ∀ x ∈ c :: r, x ∈ nmset) (hc : Go.Sh.digB c = false) (hl : (c :: r).length <= 10) (hy : y = [] ∨ ∃ z, y = 32 :: z) : LX (c :: (r ++ y)) b = (⟨0, 0, bs (c :: r)⟩ :: (LX y true).1, (LX y true).2) := by
  obtain ⟨f1, f2, f3, f4, f5, f6, f7, f8, f9, f10⟩ := nm_facts c (hn c (List.mem_cons_self ..))
  have htw : (c :: (r ++ y)).takeWhile (fun c => Lx.letB c || Go.Sh.digB c) = c :: r := by
    rw [← List.cons_append, List.takeWhile_append_of_pos fun x hx => (nm_facts x (hn x hx)).2.2.2.2.2.2.2.2.1]
    rcases hy with rfl | ⟨z, rfl⟩
    · simp
    · rw [List.takeWhile_cons, if_neg (by decide), List.append_nil]
  have hmap : (c :: r).map capU = c :: r := by
    conv => rhs; rw [← List.map_id (c :: r)]
    exact List.map_congr_left fun x hx => (nm_facts x (hn x hx)).2.1
  have hamp : ampB (c :: (r ++ y)) = false := by
    cases hv : r ++ y with
    | nil => rfl
    | cons a t =>
      show (decide (c.toNat = 38) && decide (a.toNat = 38)) = false
      rw [decide_eq_false f4]; rfl
  have hs : stepS c (r ++ y) b = .tok 0 (c :: r) r.length := by
    rw [step_tok f8 f3 (by rw [hamp, decide_eq_false f6]; rfl) (by rw [decide_eq_false f5]; rfl)]
    unfold tokS
    rw [if_pos (f10 hc)]
    dsimp only
    rw [htw, if_neg (by omega), hmap]
    rfl
  rw [LX_tok hs, List.drop_left]
theorem lx_two {n : List UInt8} (h : isNameS n = true) : LX (n ++ 32 :: n) false = ([⟨0, 0, bs n⟩, ⟨0, 0, bs n⟩, endZ], true) := by
  obtain ⟨c, r, rfl, hl, hn, hc⟩ := name_open h
  rw [List.cons_append, lx_name hn hc hl (.inr ⟨_, rfl⟩)]
  have h32 : stepS 32 (c :: r) true = .go 0 := step_blk (by decide) _ _
  rw [LX_go h32, List.drop_zero]
  have := lx_name (b := true) (y := []) hn hc hl (.inl rfl)
  rw [List.append_nil] at this
  rw [this, LX_nil]
  rfl
theorem tokP_two {n : List UInt8} (h : isNameS n = true) : tokP (n ++ 32 :: n) = some [⟨0, 0, bs n⟩, ⟨0, 0, bs n⟩] := by
  have h2 := lx_two h
  obtain ⟨c, r, rfl, hl, hn, hc⟩ := name_open h
  refine tokP_line (by simp only [List.length_append, List.length_cons] at hl ⊢; omega) ?_ ?_ ?_ ?_
  · unfold okL; rw [h2]
  · intro t ht
    simp only [List.mem_cons, List.not_mem_nil, or_false] at ht
    rcases ht with rfl | rfl
    · show (0 : Int) ≠ 5; decide
    · show (0 : Int) ≠ 5; decide
  · rw [h2]; rfl
  · rw [h2]; show 3 <= 1200; decide
def selfR (n : List UInt8) : List UInt8 := [35, 68, 69, 70, 73, 78, 69, 32] ++ n ++ [32] ++ n
theorem self_rule {n : List UInt8} (h : isNameS n = true) : DefR (selfR n) (bs n) [⟨0, 0, bs n⟩] := by
  have ht := tokP_two h
  have hname := h
  obtain ⟨c, r, rfl, hl, hn, hc⟩ := name_open h
  have hmem : ∀ x ∈ selfR (c :: r), x.toNat ≠ 38 /\ x ≠ 10 := fun x hx => by
    unfold selfR at hx
    have lit : ∀ y ∈ ([35, 68, 69, 70, 73, 78, 69, 32] : List UInt8), y.toNat ≠ 38 /\ y ≠ 10 := by decide
    have l32 : ∀ y ∈ ([32] : List UInt8), y.toNat ≠ 38 /\ y ≠ 10 := by decide
    have nm : ∀ y ∈ c :: r, y.toNat ≠ 38 /\ y ≠ 10 := fun y hy => ⟨(nm_facts y (hn y hy)).2.2.2.1, (nm_facts y (hn y hy)).2.2.2.2.2.2.1⟩
    rcases List.mem_append.1 hx with hx | hx
    · rcases List.mem_append.1 hx with hx | hx
      · rcases List.mem_append.1 hx with hx | hx
        · exact lit x hx
        · exact nm x hx
      · exact l32 x hx
    · exact nm x hx
  -- the last byte of the name
  obtain ⟨u, z, hz⟩ : ∃ u z, c :: r = u ++ [z] := ⟨(c :: r).dropLast, (c :: r).getLast (by simp), (List.dropLast_concat_getLast (by simp)).symm⟩
  have hzm : z ∈ nmset := hn z (by rw [hz]; simp)
  have hzb := (nm_facts z hzm).2.2.1
  have hcb := (nm_facts c (hn c (List.mem_cons_self ..))).2.2.1
  have e1 : uncS (selfR (c :: r)) = selfR (c :: r) := unc_id fun x hx => (hmem x hx).1
  have e2 : trimS (selfR (c :: r)) = selfR (c :: r) := by
    refine trim_id (c := 35) (x := z) (u := [35, 68, 69, 70, 73, 78, 69, 32] ++ (c :: r) ++ [32] ++ u) (by decide) hzb ?_
    show selfR (c :: r) = _
    unfold selfR
    rw [List.append_assoc _ u [z], ← hz]
  have e3 : (selfR (c :: r)).drop 1 = [68, 69, 70, 73, 78, 69, 32] ++ (c :: r) ++ [32] ++ (c :: r) := rfl
  have e4 : trimS ([68, 69, 70, 73, 78, 69, 32] ++ (c :: r) ++ [32] ++ (c :: r)) = [68, 69, 70, 73, 78, 69, 32] ++ (c :: r) ++ [32] ++ (c :: r) := by
    refine trim_id (c := 68) (x := z) (u := [68, 69, 70, 73, 78, 69, 32] ++ (c :: r) ++ [32] ++ u) (by decide) hzb ?_
    show [68, 69, 70, 73, 78, 69, 32] ++ (c :: r) ++ [32] ++ (c :: r) = _
    rw [List.append_assoc _ u [z], ← hz]
  have e5 : wdS ([68, 69, 70, 73, 78, 69, 32] ++ (c :: r) ++ [32] ++ (c :: r)) 0 = [68, 69, 70, 73, 78, 69] := rfl
  have e6 : fullS ((([68, 69, 70, 73, 78, 69] : List UInt8).map capU).map capU) dirsL = (⟨#[68, 69, 70, 73, 78, 69]⟩, true) := by
    refine fullS_in ?_ |>.trans rfl
    decide +kernel
  have e7 : ([68, 69, 70, 73, 78, 69, 32] ++ (c :: r) ++ [32] ++ (c :: r)).drop ([68, 69, 70, 73, 78, 69] : List UInt8).length = 32 :: ((c :: r) ++ 32 :: (c :: r)) := by
    show 32 :: ((c :: r) ++ [32] ++ (c :: r)) = _
    rw [List.append_assoc]; rfl
  have e8 : trimS ((c :: r) ++ 32 :: (c :: r)) = (c :: r) ++ 32 :: (c :: r) := by
    refine trim_id (c := c) (x := z) (u := (c :: r) ++ 32 :: u) hcb hzb ?_
    show (c :: r) ++ 32 :: (c :: r) = _
    have e9 : (c :: r) ++ 32 :: u ++ [z] = (c :: r) ++ 32 :: (u ++ [z]) := by simp
    rw [e9, ← hz]
  have hdir : dirS (selfR (c :: r)) = (⟨#[68, 69, 70, 73, 78, 69]⟩, (c :: r) ++ 32 :: (c :: r), true) := by
    unfold dirS
    rw [e1, e2, if_neg (fun h => by cases (show true = false from h)), e3, e4, e5, e6, e7, trim_blk, e8]
  refine ⟨?_, ?_, ⟨by rw [hdir], by rw [hdir]⟩, ?_⟩
  · unfold selfR
    simp only [List.length_append, List.length_cons, List.length_nil] at hl ⊢
    omega
  · simp only [List.contains_eq_mem, decide_eq_false_iff_not]
    exact fun hm => (hmem 10 hm).2 rfl
  · rw [hdir]
    unfold defD
    dsimp only
    rw [ht]
    dsimp only
    have hg : goesS ((c :: r) ++ 32 :: (c :: r)) true = false := by
      have hu : uncS ((c :: r) ++ 32 :: (c :: r)) = (c :: r) ++ 32 :: (c :: r) := unc_id fun x hx => by
        rcases List.mem_append.1 hx with hx | hx
        · exact (nm_facts x (hn x hx)).2.2.2.1
        · rcases List.mem_cons.1 hx with rfl | hx
          · decide
          · exact (nm_facts x (hn x hx)).2.2.2.1
      unfold goesS
      rw [hu, e8]
      have hsem : semS ((c :: r) ++ 32 :: (c :: r)) = false := by
        unfold semS
        have : ((c :: r) ++ 32 :: (c :: r)).getLast? = some z := by
          have e9 : (c :: r) ++ 32 :: (u ++ [z]) = ((c :: r) ++ 32 :: u) ++ [z] := by simp
          conv => lhs; rw [show (c :: r) ++ 32 :: (c :: r) = (c :: r) ++ 32 :: (u ++ [z]) by rw [← hz], e9]
          rw [List.getLast?_concat]
        rw [this]
        exact decide_eq_false (nm_facts z hzm).2.2.2.2.1
      rw [hsem]; simp
    rw [if_pos ⟨hg, rfl, hname⟩]
end Go.Proofs.YtjbfehippchniaaGreatDoor

/- Pre: PreUndone's law, but for the facts that are known. No condition but those stated. -/
set_option maxRecDepth 100000
set_option linter.unusedVariables false
set_option linter.unusedSimpArgs false
namespace Go.Proofs.YtjbfehippchniaaGreatDoor
open Go.Sh Go.Sh.Lx Go.Sh.Pr Go.RowKit Go.Shelf
variable {w0 w w' : World}
theorem undone_c (hK : KnownC) {w : World} (hL : Laid w) (hM : MaxL w) (s nm : ByteArray) (hz : s.size <= 140737488355328) (hzn : nm.size <= 140737488355328) : Calls Tryz.prog 3 #[.string s, .string nm] w fun e w' => e = .returned (.bool true) /\ Pu w w' := by
  obtain ⟨d, rfl, _⟩ := text_bs s
  obtain ⟨n, rfl, _⟩ := text_bs nm
  rw [bs_size] at hz hzn
  refine calls_by (F3_calls _ _ w) fun R hR => alB fun w1 hp1 hb1 => ?_
  have known : ∀ {w2 : World} {K : Bool -> World -> Prop}, Pu w w2 -> (∀ w3, Pu w w3 -> K true w3) -> Calls Tryz.prog 7 #[] w2 fun e w3 => ∃ b : Bool, e = .returned (.bool b) /\ K b w3 := fun {w2 K} hp hk =>
    (hK w2 (hL.pu hp) (hM.pu hp)).mono fun e w3 ⟨h1, h2⟩ => ⟨true, h1, hk w3 (hp.trans h2)⟩
  have done : ∀ w3, Pu w w3 -> R (.returned (.bool true)) w3 := fun w3 hp => hR _ _ ⟨rfl, hp⟩
  have hrd := rd_strs (l := [bs d, bs n]) hb1 (by simp)
  have hx1 : ∀ x ∈ [bs d, bs n], x.size <= 140737488355328 := fun x hx => by
    simp only [List.mem_cons, List.not_mem_nil, or_false] at hx
    rcases hx with rfl | rfl
    · rw [bs_size]; exact hz
    · rw [bs_size]; exact hzn
  refine (over_c hrd (by simp) hx1).mono ?_
  rintro e w2 ⟨rfl, rfl⟩
  refine ⟨_, rfl, Br.of (fun q => known hp1 done) (fun q => ?_)⟩
  have q := dfalse q
  have hd : d.length <= 12000 := by simp [bs_size] at q; omega
  refine (rname_c n w2).mono ?_
  rintro e w3 ⟨rfl, hp3⟩
  have hP3 := hp1.trans hp3
  refine ⟨_, rfl, Br.of (fun q2 => known hP3 done) (fun q2 => ?_)⟩
  have hname : isNameS n = true := by simpa using q2
  refine (rlex_c d (by omega)).mono ?_
  rintro e w4 ⟨hp4, s4, rfl, hrl⟩
  have hP4 := hP3.trans hp4
  have hsl := hrl.len
  have hll := lexF_len d
  refine ⟨s4, _, _, rfl, ?_⟩
  refine loopUp (lexF d).1.length (fun k t w' => t = (((((lexF d).1.take k).countP fun t => decide (t.text = bs n) : Nat) : Int), (k : Int)) /\ w' = w4) ⟨rfl, rfl⟩ ?_
  rintro k J t w5 hk ⟨rfl, rfl⟩ hJ
  dsimp only
  have hcl : ((lexF d).1.take k).countP (fun t => decide (t.text = bs n)) <= k := by
    have := List.countP_le_length (p := fun t : Tok => decide (t.text = bs n)) (l := (lexF d).1.take k)
    rw [List.length_take] at this
    omega
  refine Br.of (fun q3 => ?_) (fun q3 => ?_)
  · have q3 := dtrue q3
    obtain ⟨x, hx⟩ := at_k (l := (lexF d).1) (k := k) (by omega)
    obtain ⟨a, ha, h1, h2, ck, c0, c1, c2⟩ := RdSl.tok hrl hx
    refine ⟨a, ha, h1, h2, _, c2, ?_⟩
    rw [toList_beq, wrap_in (n := (k : Int) + 1) (by omega) (by omega)]
    have e1 : ((lexF d).1.take (k + 1)).countP (fun t => decide (t.text = bs n)) = ((lexF d).1.take k).countP (fun t => decide (t.text = bs n)) + if x.text = bs n then 1 else 0 := by
      rw [take_at hx, List.countP_append]
      simp [List.countP_cons]
    refine Br.of (fun q4 => ?_) (fun q4 => ?_)
    · rw [if_pos (dtrue q4)] at e1
      rw [wrap_in (by omega) (by omega)]
      exact hJ _ _ (by omega) ⟨by rw [e1]; rfl, rfl⟩
    · rw [if_neg (dfalse q4)] at e1
      exact hJ _ _ (by omega) ⟨by rw [e1]; rfl, rfl⟩
  · have q3 := dfalse q3
    obtain rfl : k = (lexF d).1.length := by omega
    rw [List.take_length]
    unfold F3_1
    refine Br.of (fun q4 => known hP4 done) (fun q4 => ?_)
    have q4 := dfalse q4
    have hcnt : ((lexF d).1.countP fun t => decide (t.text = bs n)) <= 40 := by omega
    have law := undone_law hcnt
    have hnil : RdSl w5 (⟨none, 0, 0⟩ : SV) (([] : List (List UInt8 × (ByteArray × List Tok))).map fun x => bs x.1) := RdSl.nil _ _ _
    refine (line_defs_c (hL.pu hP4) [] hnil (fun x hx => by cases hx) d (by omega)).mono ?_
    rintro e w6 ⟨rfl, hp6⟩
    have hP6 := hP4.trans hp6
    have hself := self_rule hname
    have e35 : (⟨#[35, 68, 69, 70, 73, 78, 69, 32]⟩ : ByteArray) = bs [35, 68, 69, 70, 73, 78, 69, 32] := rfl
    have e32 : (⟨#[32]⟩ : ByteArray) = bs [32] := rfl
    have hnl : n.length <= 10 := by
      obtain ⟨c, r, _, h, _⟩ := name_open hname
      exact h
    refine ⟨_, _, rfl, ?_, ?_, ?_, ?_⟩
    · rw [e35, bs_size, bs_size]; simp; omega
    · rw [e35, e32, bs_append, bs_size, bs_size]; simp; omega
    · rw [e35, e32, bs_append, bs_append, bs_size, bs_size]; simp; omega
    · rw [e35, e32, bs_append, bs_append, bs_append]
      refine alB fun w7 hp7 hb7 => ?_
      have hr7 := rd_strs (l := [bs (selfR n)]) hb7 (by simp)
      have hP7 := hP6.trans hp7
      refine (line_defs_c (hL.pu hP7) [(selfR n, (bs n, [⟨0, 0, bs n⟩]))] hr7 (fun x hx => by
        obtain rfl := List.mem_singleton.1 hx
        exact hself) d (by omega)).mono ?_
      rintro e w8 ⟨rfl, hp8⟩
      have hP8 := hP7.trans hp8
      have hput : ([(selfR n, (bs n, [(⟨0, 0, bs n⟩ : Tok)]))] : List (List UInt8 × (ByteArray × List Tok))).foldl putR [] = [(bs n, [⟨0, 0, bs n⟩])] := rfl
      have law2 : endL (replS (AL.get [(bs n, [(⟨0, 0, bs n⟩ : Tok)])]) d) = endL (replS (AL.get ([] : Dfs)) d) := law
      rw [hput, law2]
      refine ⟨_, _, rfl, Br.t ?_ (Br.t ?_ (known hP8 done))⟩
      · rw [toList_beq]; exact decide_eq_true rfl
      · exact beq_self_eq_true _
end Go.Proofs.YtjbfehippchniaaGreatDoor

/- Pre: the reader of rules: markers. No condition but those stated. -/
set_option maxRecDepth 100000
set_option linter.unusedVariables false
set_option linter.unusedSimpArgs false
namespace Go.Proofs.YtjbfehippchniaaGreatDoor
open Go.Sh Go.Sh.Lx Go.Sh.Pr Go.RowKit Go.Shelf
variable {w0 w w' : World} {r i : Nat} {d : List UInt8} {f : Bool}
theorem fr_pu (h : Fr (· = r) w w') {w2 : World} (k : Pu w' w2) : Fr (· = r) w w2 := h.trans (Fr.pu k : Fr (· = r) w' w2) fun _ hi _ => hi
theorem pu_fr (h : Pu w w') {w2 : World} (k : Fr (· = r) w' w2) : Fr (· = r) w w2 := (Fr.pu h : Fr (· = r) w w').trans k fun _ hi _ => hi
theorem fr_fr (h : Fr (· = r) w w') {w2 : World} (k : Fr (· = r) w' w2) : Fr (· = r) w w2 := h.trans k fun _ hi _ => hi
def hasS (d : List UInt8) (i : Nat) (u : List UInt8) : Bool := decide ((d.drop i).take u.length = u)
theorem hasS_le {u : List UInt8} (h : hasS d i u = true) : i + u.length <= d.length ∨ u = [] := by
  have h := of_decide_eq_true h
  have := congrArg List.length h
  rw [List.length_take, List.length_drop] at this
  by_cases hu : u = []
  · exact .inr hu
  · have := List.length_pos_iff.2 hu
    exact .inl (by omega)
theorem take_c (h : Rdx w0 w r d i f) (u : List UInt8) (hu : u ≠ []) (hul : u.length <= 100) : Calls Tryz.prog 135 #[.pointer (some ⟨r, 0, none⟩), .string (bs u)] w fun e w' => e = .returned (.bool (hasS d i u)) /\ Rdx w0 w' r d (if hasS d i u then i + u.length else i) f /\ Fr (· = r) w w' := by
  have hle := h.le
  have hlim := h.lim
  refine calls_by (F135_calls _ _ w) fun R hR => dwE_intro fun w1 hp1 _ => ?_
  have h1 := h.pu hp1
  refine ⟨_, cl0 h1.blk, _, cl h1.blk 1, Nat.le_refl _, by omega, by rw [bs_size, toNat_i]; omega, ?_⟩
  rw [toNat_i, extract_drop]
  refine (hasPrefix_c (d.drop i) u w1).mono ?_
  rintro e w2 ⟨rfl, rfl⟩
  refine ⟨_, rfl, ?_⟩
  show Br (!hasS d i u) _ _
  cases hh : hasS d i u with
  | false =>
    rw [hh] at hR
    exact Br.t rfl (hR _ _ ⟨rfl, h1, Fr.pu hp1⟩)
  | true =>
    have hl := (hasS_le hh).resolve_right hu
    rw [hh] at hR
    refine Br.f rfl ⟨_, cl h1.blk 1, ?_⟩
    rw [bs_size, wrap_in (by omega) (by omega)]
    exact h1.st (j := i + u.length) hl (by omega) fun w3 h3 f3 => hR _ _ ⟨rfl, h3, pu_fr hp1 f3⟩
structure Pt where
  kind : Int
  t : Tok
  nm : ByteArray
def ptV (p : Pt) : List Value := [.int .i64 p.kind, .int .i64 p.t.kind, .int .i64 p.t.at_, .string p.t.text, .string p.nm, .slice none 0 0, .slice none 0 0]
def zT0 : Tok := ⟨0, 0, ⟨#[]⟩⟩
def mkP (n : List UInt8) : Pt := ⟨1, zT0, bs n⟩
def flatB (c : UInt8) : Bool := !([34, 46, 44, 58, 91, 93, 92] : List UInt8).contains c
def Flat (d : List UInt8) : Prop := d.all flatB = true
theorem flat_no (h : Flat d) {c : UInt8} {u : List UInt8} (hc : flatB c = false) : hasS d i (c :: u) = false := by
  refine decide_eq_false fun e => ?_
  have hm : c ∈ d := by
    have : c ∈ (d.drop i).take (c :: u).length := by rw [e]; exact List.mem_cons_self ..
    exact List.mem_of_mem_drop (List.mem_of_mem_take this)
  have := List.all_eq_true.1 h c hm
  rw [hc] at this; cases this
theorem take_no (hf : Flat d) (h : Rdx w0 w r d i f) {c : UInt8} {u : List UInt8} (hc : flatB c = false) (hul : (c :: u).length <= 100) : Calls Tryz.prog 135 #[.pointer (some ⟨r, 0, none⟩), .string (bs (c :: u))] w fun e w' => e = .returned (.bool false) /\ Rdx w0 w' r d i f /\ Fr (· = r) w w' := by
  have := take_c h (c :: u) (by simp) hul
  rw [flat_no hf hc] at this
  exact this
def marksS (d : List UInt8) (i : Nat) : Option (List UInt8 × Nat) :=
  if hasS d i [60] then (if hasS d (i + 1 + (wdS d (i + 1)).length) [62] then some ((wdS d (i + 1)).map capU, i + 1 + (wdS d (i + 1)).length + 1) else none) else none
def markS (d : List UInt8) (i : Nat) : Option (List UInt8 × Nat) := match marksS d i with
  | some (n, j) => if isNameS n then some (n, j) else none
  | none => none
def partE (v : Array Value) (b : Bool) : Ending := .returned (.tuple #[.agg v, .bool b])
def MarksR (w0 w : World) (r : Nat) (d : List UInt8) (i : Nat) (f : Bool) : Rt := fun e w' => Fr (· = r) w w' /\ match marksS d i with
  | some (n, j) => e = partE (ptV (mkP n)).toArray true /\ Rdx w0 w' r d j f
  | none => (∃ p : Pt, e = partE (ptV p).toArray false) /\ ∃ j, Rdx w0 w' r d j f
theorem size128 : sizeB Tryz.prog 128 = 7 := by kernel_rfl
def pz : Array Value := #[.int .i64 0, .int .i64 0, .int .i64 0, .string (⟨#[]⟩ : ByteArray), .string (⟨#[]⟩ : ByteArray), .slice none 0 0, .slice none 0 0]
theorem stP {b : Nat} {c : Array Value} (p : Pt) (hb : w.heap[b]? = some (.cells c 128)) (hc : c.size = 7) {K : World -> Prop} (hK : ∀ w', w'.heap[b]? = some (.cells (ptV p).toArray 128) -> Fr (· = b) w w' -> K w') : stA Tryz.prog 128 ⟨b, 0, none⟩ (ptV p).toArray w K := by
  refine ⟨by rw [size128]; rfl, rfl, ?_⟩
  refine stL_fill (ptV p) 0 c w K hb (by rw [hc]; rfl) fun w' h1 h2 h3 h4 h5 h6 => hK w' ?_ ⟨h4, h5, h6, by omega, fun k hk hn => h3 k hn⟩
  rw [h1]; rfl
theorem ldP {b : Nat} {p : Pt} {b5 : Bool} {R : Rt} (hb : w.heap[b]? = some (.cells (ptV p).toArray 128)) (h : R (partE (ptV p).toArray b5) w) :
    ∃ nR0_0 : Int, w.cell? ((⟨b, 0, none⟩ : Addr).add 0) = some (.int .i64 nR0_0) /\ ∃ nR0_1 : Int, w.cell? ((⟨b, 0, none⟩ : Addr).add 1) = some (.int .i64 nR0_1) /\ ∃ nR0_2 : Int, w.cell? ((⟨b, 0, none⟩ : Addr).add 2) = some (.int .i64 nR0_2) /\
    ∃ sR0_3 : ByteArray, w.cell? ((⟨b, 0, none⟩ : Addr).add 3) = some (.string sR0_3) /\ ∃ sR0_4 : ByteArray, w.cell? ((⟨b, 0, none⟩ : Addr).add 4) = some (.string sR0_4) /\
    ∃ lR0_5 : SV, w.cell? ((⟨b, 0, none⟩ : Addr).add 5) = some (.slice lR0_5.a lR0_5.len lR0_5.cap) /\ ∃ lR0_6 : SV, w.cell? ((⟨b, 0, none⟩ : Addr).add 6) = some (.slice lR0_6.a lR0_6.len lR0_6.cap) /\
    R (.returned (.tuple #[.agg #[.int .i64 nR0_0, .int .i64 nR0_1, .int .i64 nR0_2, .string sR0_3, .string sR0_4, .slice lR0_5.a lR0_5.len lR0_5.cap, .slice lR0_6.a lR0_6.len lR0_6.cap], .bool b5])) w :=
  ⟨_, cl hb 0, _, cl hb 1, _, cl hb 2, _, cl hb 3, _, cl hb 4, ⟨none, 0, 0⟩, cl hb 5, ⟨none, 0, 0⟩, cl hb 6, h⟩
theorem Rdx.fr2 (h : Rdx w0 w r d i f) {b : Nat} (hb : b ≠ r) (hn : w0.heap.size <= b) (hf : Fr (· = b) w w') : Rdx w0 w' r d i f :=
  ⟨h.since.andNew hf fun k hk => by rw [show k = b from hk]; exact hn, h.new, hf.blk h.blk fun e => hb e.symm, h.le, h.lim⟩
theorem fr_new {b : Nat} (h : Fr (· = r) w w') (hn : w.heap.size <= b) {w2 : World} (k : Fr (· = b) w' w2) : Fr (· = r) w w2 := h.trans k fun j hj hlt => by rw [show j = b from hj] at hlt; omega
set_option maxHeartbeats 1000000 in
theorem marks_c (hL : Laid w0) (hd : d.length <= 4000) (hF : Flat d) (h : Rdx w0 w r d i f) : Calls Tryz.prog 158 #[.pointer (some ⟨r, 0, none⟩)] w (MarksR w0 w r d i f) := by
  have hrlt := blk_lt h.blk
  have hws := h.since.size
  have hle := h.le
  refine calls_by (F158_calls _ w) fun R hR => alB fun w1 hp1 hb1 => ?_
  have h1 := h.pu hp1
  have hz1 := blk_lt hb1
  have e60 : (⟨#[60]⟩ : ByteArray) = bs [60] := rfl
  rw [e60]
  refine (take_c h1 [60] (by simp) (by simp)).mono ?_
  rintro e w2 ⟨rfl, h2, f2⟩
  have f02 := pu_fr hp1 f2
  have hb2 := f2.blk hb1 (by omega)
  refine ⟨_, rfl, ?_⟩
  cases hh : hasS d i [60] with
  | false =>
    rw [hh] at h2
    have hms : marksS d i = none := by unfold marksS; rw [hh]; rfl
    refine Br.t rfl (stP ⟨0, zT0, ⟨#[]⟩⟩ hb2 rfl fun w3 hb3 f3 => ldP (b5 := false) hb3 (hR _ _ ⟨fr_new f02 (Nat.le_refl _) f3, ?_⟩))
    rw [hms]
    exact ⟨⟨_, rfl⟩, _, h2.fr2 (by omega) hws f3⟩
  | true =>
    rw [hh] at h2
    have h2 : Rdx w0 w2 r d (i + 1) f := h2
    refine Br.f rfl (alB fun w3 hp3 hb3 => ?_)
    have hz2 := f2.size
    refine stP ⟨1, zT0, ⟨#[]⟩⟩ hb3 rfl fun w4 hb4 f4 => ?_
    have h4 := (h2.pu hp3).fr2 (b := w2.heap.size) (by omega) (by omega) f4
    have f04 := fr_new (fr_pu f02 hp3) (by omega) f4
    have hb42 := f4.blk (hp3.blk hb2) (by omega)
    rw [ptrE_some]
    refine ⟨_, cl h4.blk 2, ?_⟩
    -- behind the opening: the name, the end
    have rest : ∀ w5 : World, Rdx w0 w5 r d (i + 1) f -> Fr (· = r) w4 w5 -> F158_17 R (some ⟨r, 0, none⟩) (some ⟨w.heap.size, 0, none⟩) (⟨#[62]⟩ : ByteArray) (some ⟨w2.heap.size, 0, none⟩) [] w5 := fun w5 h5 f5 => by
      have hb5 := f5.blk hb4 (by omega)
      have hb52 := f5.blk hb42 (by omega)
      have f05 := fr_fr f04 f5
      refine (wordR_c hL hd h5).mono ?_
      rintro e w6 ⟨rfl, h6, f6⟩
      refine ⟨_, rfl, ?_⟩
      have hb6 := f6.blk hb5 (by omega)
      have hb62 := f6.blk hb52 (by omega)
      have f06 := fr_fr f05 f6
      rw [ptrE_some, add_def]
      refine st1_intro (o := 0 + 4) hb6 (by show 0 + 4 < 7; omega) fun w7 hw7 hb7 => ?_
      have f7 : Fr (· = w2.heap.size) w6 w7 := by rw [hw7]; exact Fr.setCell w6 ⟨_, 4, none⟩ _
      have hb7 : w7.heap[w2.heap.size]? = some (.cells (ptV (mkP ((wdS d (i + 1)).map capU))).toArray 128) := hb7
      have hb72 := f7.blk hb62 (by omega)
      have h7 := h6.fr2 (b := w2.heap.size) (by omega) (by omega) f7
      have f07 := fr_new f06 (by omega) f7
      -- the end
      have fin : ∀ w8 : World, Rdx w0 w8 r d (i + 1 + (wdS d (i + 1)).length) f -> Fr (· = r) w7 w8 -> F158_1 R (some ⟨r, 0, none⟩) (some ⟨w.heap.size, 0, none⟩) (⟨#[62]⟩ : ByteArray) (some ⟨w2.heap.size, 0, none⟩) [] w8 := fun w8 h8 f8 => by
        have hb8 := f8.blk hb7 (by omega)
        have hb82 := f8.blk hb72 (by omega)
        have f08 := fr_fr f07 f8
        refine dwE_intro fun w9 hp9 _ => ?_
        have hb9 := hp9.blk hb8
        have hb92 := hp9.blk hb82
        have e62 : (⟨#[62]⟩ : ByteArray) = bs [62] := rfl
        refine ⟨fun w' => w'.heap[w2.heap.size]? = some (.cells (ptV (mkP ((wdS d (i + 1)).map capU))).toArray 128), hb9, ?_⟩
        rw [ptrE_some]
        refine ⟨_, fun w' h' => cl h' 0, _, fun w' h' => cl h' 1, _, fun w' h' => cl h' 2, _, fun w' h' => cl h' 3, _, fun w' h' => cl h' 4, ⟨none, 0, 0⟩, fun w' h' => cl h' 5, ⟨none, 0, 0⟩, fun w' h' => cl h' 6, ?_⟩
        rw [e62]
        refine (take_c (h8.pu hp9) [62] (by simp) (by simp)).mono ?_
        rintro e w10 ⟨rfl, h10, f10⟩
        have hb10 := f10.blk hb9 (by omega)
        have hb102 := f10.blk hb92 (by omega)
        have f010 := fr_fr (fr_pu f08 hp9) f10
        refine ⟨_, rfl, hb10, ?_⟩
        rw [ptrE_some]
        refine stP (mkP ((wdS d (i + 1)).map capU)) hb102 rfl fun w11 hb11 f11 => ?_
        have h11 := h10.fr2 (b := w.heap.size) (by omega) hws f11
        have f011 := fr_new f010 (Nat.le_refl _) f11
        have hfin : R (partE (ptV (mkP ((wdS d (i + 1)).map capU))).toArray (hasS d (i + 1 + (wdS d (i + 1)).length) [62])) w11 := hR _ _ ⟨f011, by
          cases hh2 : hasS d (i + 1 + (wdS d (i + 1)).length) [62] with
          | false =>
            have hms : marksS d i = none := by unfold marksS; rw [hh, hh2]; rfl
            rw [hms]
            exact ⟨⟨_, rfl⟩, _, h11⟩
          | true =>
            have hms : marksS d i = some ((wdS d (i + 1)).map capU, i + 1 + (wdS d (i + 1)).length + 1) := by unfold marksS; rw [hh, hh2]; rfl
            rw [hms]
            rw [hh2] at h11
            exact ⟨rfl, h11⟩⟩
        exact ldP hb11 hfin
      rw [show F158_15 R (some ⟨r, 0, none⟩) (some ⟨w.heap.size, 0, none⟩) (⟨#[62]⟩ : ByteArray) (some ⟨w2.heap.size, 0, none⟩) [] w7 = (ptrE (some ⟨r, 0, none⟩ : Option Addr) fun a36 => ∃ b38 : Bool, w7.cell? (a36.add 2) = some (.bool b38) /\ F158_14 R (some ⟨r, 0, none⟩) (some ⟨w.heap.size, 0, none⟩) (⟨#[62]⟩ : ByteArray) (some ⟨w2.heap.size, 0, none⟩) b38 [] w7) from rfl, ptrE_some]
      refine ⟨_, cl h7.blk 2, ?_⟩
      unfold F158_14
      refine Br.of (fun _ => fin w7 h7 (Fr.refl _ _)) (fun _ => ?_)
      have e44 : (⟨#[44, 46, 46, 46]⟩ : ByteArray) = bs [44, 46, 46, 46] := rfl
      have e58 : (⟨#[58]⟩ : ByteArray) = bs [58] := rfl
      unfold F158_13
      rw [e44]
      refine (take_no hF h7 (by decide) (by simp)).mono ?_
      rintro e w8 ⟨rfl, h8, f8⟩
      refine ⟨_, rfl, Br.f rfl ?_⟩
      unfold F158_11
      rw [e58]
      refine (take_no hF h8 (by decide) (by simp)).mono ?_
      rintro e w9 ⟨rfl, h9, f9⟩
      exact ⟨_, rfl, Br.f rfl (fin w9 h9 (fr_fr f8 f9))⟩
    have e34 : (⟨#[34]⟩ : ByteArray) = bs [34] := rfl
    have e46 : (⟨#[46]⟩ : ByteArray) = bs [46] := rfl
    refine Br.of (fun hf => ?_) (fun hf => ?_)
    · rw [e34]
      refine (take_no hF h4 (by decide) (by simp)).mono ?_
      rintro e w5 ⟨rfl, h5, f5⟩
      refine ⟨_, rfl, Br.f rfl ?_⟩
      rw [ptrE_some]
      refine ⟨_, cl h5.blk 2, ?_⟩
      rw [hf]
      refine Br.t rfl ?_
      rw [e46]
      refine (take_no hF h5 (by decide) (by simp)).mono ?_
      rintro e w6 ⟨rfl, h6, f6⟩
      exact ⟨_, rfl, Br.f rfl (rest w6 h6 (fr_fr f5 f6))⟩
    · rw [ptrE_some]
      refine ⟨_, cl h4.blk 2, ?_⟩
      rw [hf]
      exact Br.f rfl (rest w4 h4 (Fr.refl _ _))
def MarkR (w0 w : World) (r : Nat) (d : List UInt8) (i : Nat) (f : Bool) : Rt := fun e w' => Fr (· = r) w w' /\ match markS d i with
  | some (n, j) => e = partE (ptV (mkP n)).toArray true /\ Rdx w0 w' r d j f
  | none => (∃ p : Pt, e = partE (ptV p).toArray false) /\ Rdx w0 w' r d i f
theorem mark_c (hL : Laid w0) (hd : d.length <= 4000) (hF : Flat d) (h : Rdx w0 w r d i f) : Calls Tryz.prog 136 #[.pointer (some ⟨r, 0, none⟩)] w (MarkR w0 w r d i f) := by
  have hrlt := blk_lt h.blk
  have hws := h.since.size
  have hle := h.le
  refine calls_by (F136_calls _ w) fun R hR => alB fun w1 hp1 hb1 => ?_
  have h1 := h.pu hp1
  rw [ptrE_some]
  refine ⟨_, cl h1.blk 1, (marks_c hL hd hF h1).mono ?_⟩
  rintro e w2 ⟨f2, h2⟩
  have f02 := pu_fr hp1 f2
  have hz1 := blk_lt hb1
  have hb2 := f2.blk hb1 (by omega)
  have hz2 := f2.size
  -- nothing: back to where it was
  have back : ∀ {w3 : World} {j : Nat}, Rdx w0 w3 r d j f -> Fr (· = r) w w3 -> w3.heap[w.heap.size]? = some (.cells pz 128) -> markS d i = none -> ptrE (some ⟨r, 0, none⟩ : Option Addr) fun a6 => st1 (a6.add 1) (.int .i64 (i : Int)) w3 fun w7 => stA Tryz.prog 128 (⟨w.heap.size, 0, none⟩ : Addr) pz w7 fun w8 =>
      ∃ nR0_0 : Int, w8.cell? ((⟨w.heap.size, 0, none⟩ : Addr).add 0) = some (.int .i64 nR0_0) /\ ∃ nR0_1 : Int, w8.cell? ((⟨w.heap.size, 0, none⟩ : Addr).add 1) = some (.int .i64 nR0_1) /\ ∃ nR0_2 : Int, w8.cell? ((⟨w.heap.size, 0, none⟩ : Addr).add 2) = some (.int .i64 nR0_2) /\
      ∃ sR0_3 : ByteArray, w8.cell? ((⟨w.heap.size, 0, none⟩ : Addr).add 3) = some (.string sR0_3) /\ ∃ sR0_4 : ByteArray, w8.cell? ((⟨w.heap.size, 0, none⟩ : Addr).add 4) = some (.string sR0_4) /\
      ∃ lR0_5 : SV, w8.cell? ((⟨w.heap.size, 0, none⟩ : Addr).add 5) = some (.slice lR0_5.a lR0_5.len lR0_5.cap) /\ ∃ lR0_6 : SV, w8.cell? ((⟨w.heap.size, 0, none⟩ : Addr).add 6) = some (.slice lR0_6.a lR0_6.len lR0_6.cap) /\
      R (.returned (.tuple #[.agg #[.int .i64 nR0_0, .int .i64 nR0_1, .int .i64 nR0_2, .string sR0_3, .string sR0_4, .slice lR0_5.a lR0_5.len lR0_5.cap, .slice lR0_6.a lR0_6.len lR0_6.cap], .bool false])) w8 := fun {w3 j} h3 f3 hb3 hm => by
    refine h3.st (j := i) hle rfl fun w4 h4 f4 => ?_
    have hb4 := f4.blk hb3 (by omega)
    refine stP ⟨0, zT0, ⟨#[]⟩⟩ hb4 rfl fun w5 hb5 f5 => ldP (b5 := false) hb5 (hR _ _ ⟨fr_new (fr_fr f3 f4) (Nat.le_refl _) f5, ?_⟩)
    rw [hm]
    exact ⟨⟨_, rfl⟩, h4.fr2 (by omega) hws f5⟩
  cases hms : marksS d i with
  | none =>
    rw [hms] at h2
    obtain ⟨⟨p, rfl⟩, j, h2⟩ := h2
    have hm : markS d i = none := by unfold markS; rw [hms]
    refine ⟨_, _, _, _, _, ⟨none, 0, 0⟩, ⟨none, 0, 0⟩, _, rfl, alB fun w3 hp3 hb3 => ?_⟩
    refine stP p hb3 rfl fun w4 hb4 f4 => ?_
    exact Br.t rfl (back ((h2.pu hp3).fr2 (b := w2.heap.size) (by omega) (by omega) f4) (fr_new (fr_pu f02 hp3) (by omega) f4) (f4.blk (hp3.blk hb2) (by omega)) hm)
  | some q =>
    obtain ⟨n, j⟩ := q
    rw [hms] at h2
    obtain ⟨rfl, h2⟩ := h2
    refine ⟨_, _, _, _, _, ⟨none, 0, 0⟩, ⟨none, 0, 0⟩, _, rfl, alB fun w3 hp3 hb3 => ?_⟩
    refine stP (mkP n) hb3 rfl fun w4 hb4 f4 => ?_
    have h4 := (h2.pu hp3).fr2 (b := w2.heap.size) (by omega) (by omega) f4
    have f04 := fr_new (fr_pu f02 hp3) (by omega) f4
    have hb42 := f4.blk (hp3.blk hb2) (by omega)
    refine Br.f rfl ⟨_, cl hb4 4, (name_c n w4).mono ?_⟩
    rintro e w5 ⟨rfl, hp5⟩
    have hb5 := hp5.blk hb4
    have hb52 := hp5.blk hb42
    refine ⟨_, rfl, ?_⟩
    cases hn : isNameS n with
    | false =>
      have hm : markS d i = none := by unfold markS; rw [hms]; dsimp only; rw [hn]; rfl
      exact Br.t rfl (back (h4.pu hp5) (fr_pu f04 hp5) hb52 hm)
    | true =>
      have hm : markS d i = some (n, j) := by unfold markS; rw [hms]; dsimp only; rw [hn]; rfl
      refine Br.f rfl ⟨_, cl hb5 0, _, cl hb5 1, _, cl hb5 2, _, cl hb5 3, _, cl hb5 4, ⟨none, 0, 0⟩, cl hb5 5, ⟨none, 0, 0⟩, cl hb5 6, ?_⟩
      refine stP (mkP n) hb52 rfl fun w6 hb6 f6 => ldP (b5 := true) hb6 (hR _ _ ⟨fr_new (fr_pu f04 hp5) (Nat.le_refl _) f6, ?_⟩)
      rw [hm]
      exact ⟨rfl, (h4.pu hp5).fr2 (by omega) hws f6⟩
end Go.Proofs.YtjbfehippchniaaGreatDoor

/- Pre: the reader of rules: tokens, rows. No condition but those stated. -/
set_option maxRecDepth 100000
set_option linter.unusedVariables false
set_option linter.unusedSimpArgs false
namespace Go.Proofs.YtjbfehippchniaaGreatDoor
open Go.Sh Go.Sh.Lx Go.Sh.Pr Go.RowKit Go.Shelf
variable {w0 w w' : World} {r i : Nat} {d : List UInt8} {f : Bool}
def Asc (d : List UInt8) : Prop := d.all (fun c => decide (c.toNat < 128)) = true
theorem Asc.at {c : UInt8} (h : Asc d) (hc : c ∈ d) : c.toNat < 128 := of_decide_eq_true (List.all_eq_true.1 h c hc)
theorem wrap32 : ∀ k : Nat, k < 128 -> IntKind.i32.wrap (k : Int) = (k : Int) := by decide +kernel
def lastBad (x : List UInt8) : Bool := match x.getLast? with
  | some c => ([32, 9, 59] : List UInt8).contains c
  | none => false
def tkC (x : List UInt8) : Option Tok :=
  if (lexF ([40, 32] ++ x)).2.2 = 0 then (match (lexF ([40, 32] ++ x)).1 with
    | [_, t, _] => if lastBad x then none else if Lib.contains x [38, 38] then none else some (zT t)
    | _ => none) else none
def tkG (d : List UInt8) (i : Nat) : Nat -> Option (Tok × Nat)
  | 0 => none
  | e + 1 => if e + 1 <= i then none else match tkC ((d.take (e + 1)).drop i) with
    | some t => some (t, e + 1)
    | none => tkG d i e
def tokE (t : Tok) (b : Bool) : Ending := .returned (.tuple #[.agg (tokV t).toArray, .bool b])
def TokRR (w0 w : World) (r : Nat) (d : List UInt8) (i : Nat) (f : Bool) : Rt := fun e w' => Fr (· = r) w w' /\ match tkG d i d.length with
  | some (t, j) => e = tokE t true /\ Rdx w0 w' r d j f
  | none => (∃ t, e = tokE t false) /\ Rdx w0 w' r d i f
theorem size30 : sizeB Tryz.prog 30 = 3 := by kernel_rfl
theorem stT {b : Nat} {c : Array Value} (t : Tok) (hb : w.heap[b]? = some (.cells c 30)) (hc : c.size = 3) {K : World -> Prop} (hK : ∀ w', w'.heap[b]? = some (.cells (tokV t).toArray 30) -> Fr (· = b) w w' -> K w') : stA Tryz.prog 30 ⟨b, 0, none⟩ (tokV t).toArray w K := by
  refine ⟨by rw [size30]; rfl, rfl, ?_⟩
  refine stL_fill (tokV t) 0 c w K hb (by rw [hc]; rfl) fun w' h1 h2 h3 h4 h5 h6 => hK w' ?_ ⟨h4, h5, h6, by omega, fun k hk hn => h3 k hn⟩
  rw [h1]; rfl
theorem ldT {b : Nat} {t : Tok} {b5 : Bool} {R : Rt} (hb : w.heap[b]? = some (.cells (tokV t).toArray 30)) (h : R (tokE t b5) w) :
    ∃ n0 : Int, w.cell? ((⟨b, 0, none⟩ : Addr).add 0) = some (.int .i64 n0) /\ ∃ n1 : Int, w.cell? ((⟨b, 0, none⟩ : Addr).add 1) = some (.int .i64 n1) /\ ∃ s2 : ByteArray, w.cell? ((⟨b, 0, none⟩ : Addr).add 2) = some (.string s2) /\ R (.returned (.tuple #[.agg #[.int .i64 n0, .int .i64 n1, .string s2], .bool b5])) w :=
  ⟨_, cl hb 0, _, cl hb 1, _, cl hb 2, h⟩
theorem amps_c (hM : MaxL w) (x : List UInt8) (hx : x.length <= 4000) : Calls Tryz.prog 36 #[.string (bs x), .string (⟨#[38, 38]⟩ : ByteArray)] w fun e w' => e = .returned (.bool (Lib.contains x [38, 38])) /\ w' = w := by
  obtain ⟨m, hm⟩ := hM
  have := Any.strings_Contains Tryz.lays144 (bs x) ⟨#[38, 38]⟩ m w (by rw [bs_size]; omega) hm
  rw [bs_list] at this
  exact this
theorem rune_c (c : UInt8) (hc : c.toNat < 128) (w : World) : Calls Tryz.prog 140 #[.string (⟨#[32, 9, 59]⟩ : ByteArray), .int .i32 (IntKind.i32.wrap ((c.toNat : Nat) : Int))] w fun e w' => e = .returned (.bool (([32, 9, 59] : List UInt8).contains c)) /\ w' = w := by
  rw [wrap32 _ hc]
  refine (Any.strings_ContainsRune_ascii Tryz.lays151 ⟨#[32, 9, 59]⟩ ((c.toNat : Nat) : Int) w (by omega) (by omega)).mono ?_
  rintro e w' ⟨rfl, rfl⟩
  have e1 : (((c.toNat : Nat) : Int)).toNat.toUInt8 = c := by rw [toNat_i]; simp [Nat.toUInt8]
  rw [e1]
  have e2 : (⟨#[32, 9, 59]⟩ : ByteArray).data.toList = [32, 9, 59] := rfl
  rw [e2, contains_index]
  exact ⟨rfl, rfl⟩
set_option maxHeartbeats 1000000 in
theorem rtok_c (hL : Laid w0) (hM : MaxL w0) (hd : d.length <= 4000) (hA : Asc d) (h : Rdx w0 w r d i f) : Calls Tryz.prog 137 #[.pointer (some ⟨r, 0, none⟩)] w (TokRR w0 w r d i f) := by
  have hrlt := blk_lt h.blk
  have hws := h.since.size
  have hle := h.le
  refine calls_by (F137_calls _ w) fun R hR => alB fun w1 hp1 hb1 => ?_
  have h1 := h.pu hp1
  have hz1 := blk_lt hb1
  rw [ptrE_some]
  refine ⟨_, cl0 h1.blk, ?_⟩
  rw [bs_size]
  refine loopUp (d.length - i) (fun k n w' => n = ((d.length - k : Nat) : Int) /\ Rdx w0 w' r d i f /\ Pu w w' /\ (∃ c, w'.heap[w.heap.size]? = some (.cells c 30) /\ c.size = 3) /\ tkG d i d.length = tkG d i (d.length - k)) ⟨rfl, h1, hp1, ⟨_, hb1, rfl⟩, rfl⟩ ?_
  rintro k J n w2 hk ⟨rfl, h2, hp2, ⟨c2, hb2, hc2⟩, he⟩ hJ
  rw [show F137_2 R J (some ⟨r, 0, none⟩) (some ⟨w.heap.size, 0, none⟩) ((d.length - k : Nat) : Int) [] w2 = _ from rfl]
  unfold F137_2
  rw [ptrE_some]
  refine ⟨_, cl h2.blk 1, Br.of (fun q => ?_) (fun q => ?_)⟩
  · have q : ((d.length - k : Nat) : Int) > (i : Int) := dtrue q
    obtain ⟨e, hee⟩ : ∃ e, d.length - k = e + 1 := ⟨d.length - k - 1, by omega⟩
    rw [hee] at he ⊢
    obtain ⟨x, hx⟩ : ∃ x, x = (d.take (e + 1)).drop i := ⟨_, rfl⟩
    have hxl : x.length = e + 1 - i := by rw [hx, List.length_drop, List.length_take]; omega
    have hg : tkG d i (e + 1) = match tkC x with
        | some t => some (t, e + 1)
        | none => tkG d i e := by
      conv => lhs; unfold tkG
      rw [if_neg (by omega), hx]
    rw [hg] at he
    -- not this one
    have next : ∀ {w3 : World}, Pu w2 w3 -> tkC x = none -> J (IntKind.i64.wrap (((e + 1 : Nat) : Int) - 1)) w3 := fun {w3} hp3 hn => by
      rw [hn] at he
      rw [wrap_in (by omega) (by omega)]
      exact hJ _ _ (by omega) ⟨by omega, h2.pu hp3, hp2.trans hp3, ⟨c2, hp3.blk hb2, hc2⟩, by rw [he, show d.length - (k + 1) = e by omega]⟩
    have next2 : ∀ {w3 : World}, Pu w2 w3 -> tkC x = none -> J (((e + 1 : Nat) : Int) - 1) w3 := fun {w3} hp3 hn => by
      have := next hp3 hn
      rwa [wrap_in (by omega) (by omega)] at this
    refine dwE_intro fun w3 hp3 _ => ?_
    have h3 := h2.pu hp3
    rw [ptrE_some]
    refine ⟨_, cl0 h3.blk, ?_⟩
    rw [ptrE_some]
    have e40 : (⟨#[40, 32]⟩ : ByteArray) = bs [40, 32] := rfl
    refine ⟨_, cl h3.blk 1, by omega, by rw [bs_size]; omega, by omega, by omega, ?_⟩
    rw [toNat_i, toNat_i, extract_take, ← hx, e40, bs_append]
    refine ⟨by rw [bs_size, bs_size, hxl]; simp; omega, ?_⟩
    refine (lex_c (hL.pu h3.since) ([40, 32] ++ x) (by simp; omega)).mono ?_
    rintro e4 w4 ⟨hp4, s4, rfl, hs4⟩
    have hsl := hs4.len
    refine ⟨s4, _, _, rfl, dwE_intro fun w5 hp5 _ => ?_⟩
    have hp25 := hp3.trans (hp4.trans hp5)
    have h5 := h2.pu hp25
    have hs5 := hs4.pu hp5
    refine ⟨fun w' => w' = w5, rfl, Br.of (fun q1 => ?_) (fun q1 => next hp25 ?_)⟩
    · have q1 : (lexF ([40, 32] ++ x)).2.2 = 0 := btrue q1
      refine Br.of (fun q2 => ?_) (fun q2 => next hp25 ?_)
      · have q2 : ((s4.len : Nat) : Int) = 3 := btrue q2
        obtain ⟨t0, t1, t2, hts⟩ : ∃ t0 t1 t2, (lexF ([40, 32] ++ x)).1 = [t0, t1, t2] := by
          have h3l : (lexF ([40, 32] ++ x)).1.length = 3 := by omega
          match (lexF ([40, 32] ++ x)).1, h3l with
          | [a, b, c], _ => exact ⟨a, b, c, rfl⟩
        rw [hts] at hs5
        have htk : tkC x = if lastBad x then none else if Lib.contains x [38, 38] then none else some (zT t1) := by unfold tkC; rw [if_pos q1, hts]
        obtain ⟨c, hc⟩ := at_k (l := d) (k := e) (by omega)
        have hcl : lastBad x = ([32, 9, 59] : List UInt8).contains c := by
          have : x.getLast? = some c := by
            rw [List.getLast?_eq_getElem?, hxl, hx, List.getElem?_drop, List.getElem?_take, if_pos (by omega), show i + (e + 1 - i - 1) = e by omega, hc]
          unfold lastBad; rw [this]
        rw [ptrE_some, wrap_in (by omega) (by omega)]
        refine ⟨_, fun w' hw => by subst hw; exact cl0 h5.blk, c, by omega, by rw [show (((e + 1 : Nat) : Int) - 1).toNat = e by omega]; exact bs_get hc, (rune_c c (hA.at (List.mem_of_getElem? hc)) w5).mono ?_⟩
        rintro e6 w6 ⟨rfl, rfl⟩
        rw [← hcl]
        refine ⟨_, rfl, rfl, Br.of (fun q3 => ?_) (fun q3 => ?_)⟩
        · have q3 : lastBad x = false := by simpa using q3
          rw [ptrE_some]
          refine ⟨_, fun w' hw => by subst hw; exact cl0 h5.blk, ?_⟩
          rw [ptrE_some]
          refine ⟨_, fun w' hw => by subst hw; exact cl h5.blk 1, by omega, by rw [bs_size]; omega, by omega, by omega, ?_⟩
          rw [toNat_i i, extract_take, ← hx]
          refine (amps_c (hM.pu h5.since) x (by omega)).mono ?_
          rintro e7 w7 ⟨rfl, rfl⟩
          refine ⟨_, rfl, Br.of (fun q4 => ?_) (fun q4 => ?_)⟩
          · have q4 : Lib.contains x [38, 38] = false := by simpa using q4
            rw [q3, q4] at htk
            have htk : tkC x = some (zT t1) := htk
            rw [htk] at he
            obtain ⟨a, ha, g1, g2, ck, c0, c1, c2'⟩ := RdSl.tok hs5 (i := 1) (t := t1) rfl
            refine ⟨a, ha, by omega, by omega, _, c0, _, c1, _, c2', alB fun w8 hp8 hb8 => ?_⟩
            have hz7 := (hp2.trans hp25).size
            refine stT t1 hb8 rfl fun w9 hb9 f9 => ?_
            rw [add_def]
            refine st1_intro (o := 0 + 1) hb9 (by show 0 + 1 < 3; omega) fun w10 hw10 hb10 => ?_
            have f10 : Fr (· = w7.heap.size) w9 w10 := by rw [hw10]; exact Fr.setCell w9 ⟨_, 1, none⟩ _
            have hb10 : w10.heap[w7.heap.size]? = some (.cells (tokV (zT t1)).toArray 30) := hb10
            have hr7 := blk_lt h5.blk
            have h10 := ((h5.pu hp8).fr2 (b := w7.heap.size) (by omega) h5.since.size f9).fr2 (b := w7.heap.size) (by omega) h5.since.size f10
            refine h10.st (j := e + 1) (by omega) rfl fun w11 h11 f11 => ?_
            have hb11 := f11.blk hb10 (by omega)
            refine ⟨_, cl hb11 0, _, cl hb11 1, _, cl hb11 2, ?_⟩
            rw [ptrE_some]
            have hltw := blk_lt (hp25.blk hb2)
            have hbw : w11.heap[w.heap.size]? = some (.cells c2 30) := f11.blk (f10.blk (f9.blk (hp8.blk (hp25.blk hb2)) (by omega)) (by omega)) (by omega)
            refine stT (zT t1) hbw hc2 fun w12 hb12 f12 => ?_
            have h12 := h11.fr2 (b := w.heap.size) (by omega) hws f12
            have hfr : Fr (· = r) w w12 := by
              have a1 : Fr (· = r) w w7 := Fr.pu (hp2.trans hp25)
              exact fr_new (fr_fr (fr_new (b := w7.heap.size) (fr_new (b := w7.heap.size) (fr_pu a1 hp8) hz7 f9) hz7 f10) f11) (Nat.le_refl _) f12
            have hfin : R (tokE (zT t1) true) w12 := hR _ _ ⟨hfr, by rw [he]; exact ⟨rfl, h12⟩⟩
            exact ldT hb12 hfin
          · have q4 : Lib.contains x [38, 38] = true := by simpa using q4
            exact next2 hp25 (by rw [htk, q3, q4]; rfl)
        · have q3 : lastBad x = true := by simpa using q3
          exact next2 hp25 (by rw [htk, q3]; rfl)
      · have q2 : ¬ ((s4.len : Nat) : Int) = 3 := bfalse q2
        unfold tkC
        rw [if_pos q1]
        split
        · rename_i h9
          rw [h9] at hsl
          exact absurd (by rw [hsl]; rfl) q2
        · rfl
    · have q1 : ¬ (lexF ([40, 32] ++ x)).2.2 = 0 := bfalse q1
      unfold tkC; rw [if_neg q1]
  · have q : ¬ ((d.length - k : Nat) : Int) > (i : Int) := dfalse q
    unfold F137_1
    rw [ptrE_some]
    refine stT zT0 hb2 hc2 fun w3 hb3 f3 => ?_
    have hn : tkG d i d.length = none := by
      rw [he]
      cases hdk : d.length - k with
      | zero => rfl
      | succ e => unfold tkG; rw [if_pos (by omega)]
    have hfin : R (tokE zT0 false) w3 := hR _ _ ⟨fr_new (Fr.pu hp2) (Nat.le_refl _) f3, by
      rw [hn]
      exact ⟨⟨_, rfl⟩, h2.fr2 (by omega) hws f3⟩⟩
    exact ldT hb3 hfin
theorem info128 : (Tryz.prog.info? 128).map (fun i => (i.zero, i.size, i.bytes)) = some (some (.agg #[.int .i64 0, .int .i64 0, .int .i64 0, .string ⟨#[]⟩, .string ⟨#[]⟩, .slice none 0 0, .slice none 0 0]), 7, 104) := by kernel_rfl
theorem ptV_len (p : Pt) : (ptV p).length = 7 := rfl
theorem ptV_one (p : Pt) : ∀ u ∈ ptV p, u.oneCell' = true := by
  intro u hu
  simp [ptV] at hu
  rcases hu with rfl | rfl | rfl | rfl | rfl | rfl | rfl <;> rfl
theorem push_pt {s : SV} {L : List Pt} (h : RowAt w 128 7 s (L.flatMap ptV)) (hl : L.length <= 100000) {b : Nat} (p : Pt) (hb : w.heap[b]? = some (.cells (ptV p).toArray 128)) :
    ∃ (s' : SV) (w' : World), (Builtin.append_ #[70, 70] 70 #[.slice s.a s.len s.cap, .slice (some ⟨b, 0, none⟩) 1 1]).run Tryz.prog w = .ok (.slice s'.a s'.len s'.cap) w' /\ RowAt w' 128 7 s' ((L ++ [p]).flatMap ptV) /\ Fr (· ∈ blkOf s) w w' /\ (∀ k ∈ blkOf s', k ∈ blkOf s ∨ w.heap.size <= k) := by
  have hsl := h.len ptV_len (by decide)
  obtain ⟨s', w', h1, h2, h3, h4, _⟩ := row_append_any (P := Tryz.prog) (t := 70) (ty := 70) Tryz.underlying70 info128 rfl (by decide) h (A := some ⟨b, 0, none⟩) (m := 1) (c := 1) (news := ptV p) rfl (fun j u hu => ⟨_, rfl, by rw [cl hb]; simpa using hu⟩) (ptV_one p) (by omega)
  refine ⟨s', w', h1, ?_, h3, h4⟩
  rw [List.flatMap_append]; simpa using h2
def ptT (t : Tok) : Pt := ⟨0, t, ⟨#[]⟩⟩
def skipB (d : List UInt8) (i : Nat) : Nat := i + ((d.drop i).takeWhile Lx.blkB).length
def rowG (d : List UInt8) : Nat -> Nat -> Option (List Pt)
  | 0, _ => none
  | n + 1, i => if skipB d i = d.length then some [] else match markS d (skipB d i) with
    | some (nm, e) => (rowG d n e).map (mkP nm :: ·)
    | none => match tkG d (skipB d i) d.length with
      | some (t, e) => (rowG d n e).map (ptT t :: ·)
      | none => none
theorem row_c (hL : Laid w0) (hM : MaxL w0) (hd : d.length <= 4000) (hA : Asc d) (hF : Flat d) (h : Rdx w0 w r d 0 f) {n : Nat} (hn : n <= 1000) {ps : List Pt} (hps : rowG d n 0 = some ps) : Calls Tryz.prog 101 #[.pointer (some ⟨r, 0, none⟩), .bool false] w fun e w' => Pu w0 w' /\ ∃ s : SV, e = .returned (.tuple #[.slice s.a s.len s.cap, .bool true]) /\ RowAt w' 128 7 s (ps.flatMap ptV) := by
  have hrlt := blk_lt h.blk
  refine calls_by (F101_calls _ _ w) fun R hR => ?_
  intro J hJ
  have key : ∀ (n i : Nat) (acc : List Pt) (s : SV) (w1 : World) (qs : List Pt), rowG d n i = some qs -> acc ++ qs = ps -> acc.length + n <= 1000 -> Rdx w0 w1 r d i f -> RowAt w1 128 7 s (acc.flatMap ptV) -> (∀ k ∈ blkOf s, w0.heap.size <= k /\ k ≠ r) -> J s w1 := by
    intro n
    induction n with
    | zero => intro i acc s w1 qs hq; cases hq
    | succ n ih =>
      intro i acc s w1 qs hq hacc hlen h1 hrow hbk
      refine hJ s w1 ?_
      unfold rowG at hq
      have hle := h1.le
      have htw : ((d.drop i).takeWhile Lx.blkB).length <= (d.drop i).length := tw_le _ _
      rw [List.length_drop] at htw
      -- the loop over blanks
      refine loopUp ((d.drop i).takeWhile Lx.blkB).length (fun k _ w' => Rdx w0 w' r d (i + k) f /\ RowAt w' 128 7 s (acc.flatMap ptV)) ⟨h1, hrow⟩ ?_
      rintro k J2 _ w2 hk ⟨h2, hr2⟩ hJ2
      have ht := head_test (f := Lx.blkB) (d := d) (p := i) (k := k) hk
      refine dwE_intro fun w3 hp3 _ => ?_
      have h3 := h2.pu hp3
      have hr3 := hr2.pu hp3
      have c0 : w3.cell? ⟨r, 0, none⟩ = some (.string (bs d)) := cl0 h3.blk
      have c1 : w3.cell? ((⟨r, 0, none⟩ : Addr).add 1) = some (.int .i64 ((i + k : Nat) : Int)) := cl h3.blk 1
      have hown : ∀ {w9 : World} {vs : List Value}, RowAt w9 128 7 s vs -> r ∉ blkOf s := fun _ hk => (hbk r hk).2 rfl
      -- behind the blanks
      have rest : ¬ k < ((d.drop i).takeWhile Lx.blkB).length -> F101_2 R J (some ⟨r, 0, none⟩) false s [] w3 := fun h9 => by
        have hki : i + k = skipB d i := by unfold skipB; omega
        rw [hki] at h3
        refine dwE_intro fun w4 hp4 _ => ?_
        have h4 := h3.pu hp4
        have hr4 := hr3.pu hp4
        rw [ptrE_some]
        refine ⟨_, cl h4.blk 1, ?_⟩
        rw [ptrE_some]
        refine ⟨_, cl0 h4.blk, ?_⟩
        rw [bs_size]
        refine Br.of (fun q => ?_) (fun q => ?_)
        · have q : ((skipB d i : Nat) : Int) = (d.length : Int) := btrue q
          rw [if_pos (by omega)] at hq
          have e1 : [] = qs := Option.some.inj hq
          rw [← e1, List.append_nil] at hacc
          rw [hacc] at hr4
          exact hR _ _ ⟨h4.since, s, rfl, hr4⟩
        · have q : ¬ ((skipB d i : Nat) : Int) = (d.length : Int) := bfalse q
          rw [if_neg (by omega)] at hq
          have t1 : (⟨#[92, 91]⟩ : ByteArray) = bs [92, 91] := rfl
          have t2 : (⟨#[92, 93]⟩ : ByteArray) = bs [92, 93] := rfl
          have t3 : (⟨#[92, 60]⟩ : ByteArray) = bs [92, 60] := rfl
          have t4 : (⟨#[91]⟩ : ByteArray) = bs [91] := rfl
          have t5 : (⟨#[93]⟩ : ByteArray) = bs [93] := rfl
          have keepR : ∀ {w8 w9 : World}, RowAt w8 128 7 s (acc.flatMap ptV) -> Fr (· = r) w8 w9 -> RowAt w9 128 7 s (acc.flatMap ptV) := fun hr hf => hr.fr hf fun k hk e => (hbk k hk).2 e
          rw [t1]
          refine (take_no hF h4 (by decide) (by simp)).mono ?_
          rintro e w5 ⟨rfl, h5, f5⟩
          refine ⟨_, rfl, Br.f rfl ?_⟩
          rw [t2]
          refine (take_no hF h5 (by decide) (by simp)).mono ?_
          rintro e w6 ⟨rfl, h6, f6⟩
          refine ⟨_, rfl, Br.f rfl ?_⟩
          rw [t3]
          refine (take_no hF h6 (by decide) (by simp)).mono ?_
          rintro e w7 ⟨rfl, h7, f7⟩
          refine ⟨_, rfl, Br.f rfl ?_⟩
          rw [t4]
          refine (take_no hF h7 (by decide) (by simp)).mono ?_
          rintro e w8 ⟨rfl, h8, f8⟩
          refine ⟨_, rfl, Br.f rfl ?_⟩
          rw [t5]
          refine (take_no hF h8 (by decide) (by simp)).mono ?_
          rintro e w9 ⟨rfl, h9, f9⟩
          have hr9 := keepR (keepR (keepR (keepR (keepR hr4 f5) f6) f7) f8) f9
          refine ⟨_, rfl, Br.f rfl ?_⟩
          unfold F101_1
          refine (mark_c hL hd hF h9).mono ?_
          rintro e w10 ⟨f10, h10⟩
          have hr10 := keepR hr9 f10
          -- a part is put behind
          have push : ∀ {p : Pt} {w11 : World} {b j : Nat}, Rdx w0 w11 r d j f -> RowAt w11 128 7 s (acc.flatMap ptV) -> w11.heap[b]? = some (.cells (ptV p).toArray 128) -> (∀ qs', rowG d n j = some qs' -> p :: qs' = qs -> True) -> (∃ qs', rowG d n j = some qs' /\ p :: qs' = qs) -> ∃ l130 : SV, ∃ w5 : World, (Builtin.append_ #[70, 70] 70 #[.slice s.a s.len s.cap, .slice (some ⟨b, 0, none⟩) 1 1]).run Tryz.prog w11 = .ok (.slice l130.a l130.len l130.cap) w5 /\ J l130 w5 := fun {p w11 b j} h11 hr11 hb11 _ hq2 => by
            obtain ⟨qs', hq3, e3⟩ := hq2
            obtain ⟨s2, w12, hrun, hr12, f12, hn12⟩ := push_pt hr11 (by omega) p hb11
            refine ⟨s2, w12, hrun, ih j (acc ++ [p]) s2 w12 qs' hq3 (by rw [List.append_assoc, List.singleton_append, e3]; exact hacc) (by rw [List.length_append]; simp; omega) ?_ hr12 fun k hk => ?_⟩
            · exact ⟨h11.since.andNew f12 fun k hk => (hbk k hk).1, h11.new, f12.blk h11.blk (hown hr11), h11.le, h11.lim⟩
            · have hr0 := blk_lt h11.blk
              have hs0 := h11.since.size
              rcases hn12 k hk with h | h
              · exact hbk k h
              · exact ⟨by omega, by omega⟩
          cases hm : markS d (skipB d i) with
          | some q =>
            obtain ⟨nm, j⟩ := q
            rw [hm] at h10 hq
            obtain ⟨rfl, h10⟩ := h10
            obtain ⟨qs', hq3, e3⟩ := Option.map_eq_some_iff.1 hq
            refine ⟨_, _, _, _, _, ⟨none, 0, 0⟩, ⟨none, 0, 0⟩, _, rfl, alB fun w11 hp11 hb11 => ?_⟩
            have hz10 := blk_lt h10.blk
            have hbs : ∀ k ∈ blkOf s, k < w10.heap.size := hr10.lt
            refine stP (mkP nm) hb11 rfl fun w12 hb12 f12 => ?_
            have h12 := (h10.pu hp11).fr2 (b := w10.heap.size) (by omega) h10.since.size f12
            have hr12 := (hr10.pu hp11).fr f12 fun k hk e => by have := hbs k hk; rw [show k = _ from e] at this; omega
            refine Br.t rfl ⟨_, cl hb12 0, _, cl hb12 1, _, cl hb12 2, _, cl hb12 3, _, cl hb12 4, ⟨none, 0, 0⟩, cl hb12 5, ⟨none, 0, 0⟩, cl hb12 6, alB fun w13 hp13 hb13 => ?_⟩
            exact push (p := mkP nm) (h12.pu hp13) (hr12.pu hp13) hb13 (fun _ _ _ => trivial) ⟨qs', hq3, e3⟩
          | none =>
            rw [hm] at h10 hq
            obtain ⟨⟨p0, rfl⟩, h10⟩ := h10
            dsimp only at hq
            refine ⟨_, _, _, _, _, ⟨none, 0, 0⟩, ⟨none, 0, 0⟩, _, rfl, alB fun w11 hp11 hb11 => ?_⟩
            have hz10 := blk_lt h10.blk
            have hbs : ∀ k ∈ blkOf s, k < w10.heap.size := hr10.lt
            refine stP p0 hb11 rfl fun w12 hb12 f12 => ?_
            have h12 := (h10.pu hp11).fr2 (b := w10.heap.size) (by omega) h10.since.size f12
            have hr12 := (hr10.pu hp11).fr f12 fun k hk e => by have := hbs k hk; rw [show k = _ from e] at this; omega
            refine Br.f rfl ((rtok_c hL hM hd hA h12).mono ?_)
            rintro e w13 ⟨f13, h13⟩
            have hr13 := keepR hr12 f13
            cases htk : tkG d (skipB d i) d.length with
            | none => rw [htk] at hq; cases hq
            | some q =>
              obtain ⟨t, j⟩ := q
              rw [htk] at h13 hq
              obtain ⟨rfl, h13⟩ := h13
              obtain ⟨qs', hq3, e3⟩ := Option.map_eq_some_iff.1 hq
              refine ⟨_, _, _, _, rfl, alB fun w14 hp14 hb14 => ?_⟩
              have hz13 := blk_lt h13.blk
              have hbs3 : ∀ k ∈ blkOf s, k < w13.heap.size := hr13.lt
              refine stT t hb14 rfl fun w15 hb15 f15 => ?_
              have h15 := (h13.pu hp14).fr2 (b := w13.heap.size) (by omega) h13.since.size f15
              have hr15 := (hr13.pu hp14).fr f15 fun k hk e => by have := hbs3 k hk; rw [show k = _ from e] at this; omega
              refine Br.f rfl ⟨_, cl hb15 0, _, cl hb15 1, _, cl hb15 2, alB fun w16 hp16 hb16 => ?_⟩
              exact push (p := ptT t) (h15.pu hp16) (hr15.pu hp16) hb16 (fun _ _ _ => trivial) ⟨qs', hq3, e3⟩
      have go : ∀ n : Int, n = ((i + k : Nat) : Int) -> k < ((d.drop i).takeWhile Lx.blkB).length -> ptrE (some (⟨r, 0, none⟩ : Addr)) fun a7 => st1 (a7.add 1) (.int .i64 (IntKind.i64.wrap (n + 1))) w3 fun w8 => J2 () w8 := fun n hn hlt => by
        subst hn
        rw [wrap_in (by omega) (by omega)]
        exact h3.st (j := i + k + 1) (by omega) (by omega) fun w4 h4 f4 => hJ2 _ _ hlt ⟨h4, hr3.fr f4 fun k hk e => (hbk k hk).2 e⟩
      refine ⟨_, c1, _, c0, ?_⟩
      rw [bs_size]
      refine Br.of (fun q => ?_) (fun q => rest (by have := dfalse q; omega))
      have q := dtrue q
      obtain ⟨y, hy⟩ := at_k (l := d) (k := i + k) (by omega)
      rw [hy] at ht
      have ht : Lx.blkB y = decide (k < ((d.drop i).takeWhile Lx.blkB).length) := ht
      have hyb : (bs d)[(((i + k : Nat) : Int)).toNat]? = some y := by rw [toNat_i]; exact bs_get hy
      have yes : Lx.blkB y = true -> k < ((d.drop i).takeWhile Lx.blkB).length := fun h => by rw [h] at ht; exact of_decide_eq_true ht.symm
      refine ⟨_, c0, _, c1, y, by omega, hyb, Br.of (fun q2 => ⟨_, c1, go _ rfl (yes ?_)⟩) (fun q2 => ⟨_, c0, _, c1, y, by omega, hyb, Br.of (fun q3 => ⟨_, c1, go _ rfl (yes ?_)⟩) (fun q3 => rest fun h => ?_)⟩)⟩
      · have q2 : ((y.toNat : Nat) : Int) = 32 := btrue q2
        unfold Lx.blkB; rw [decide_eq_true (p := y.toNat = 32) (by omega)]; simp
      · have q3 : ((y.toNat : Nat) : Int) = 9 := btrue q3
        unfold Lx.blkB; rw [decide_eq_true (p := y.toNat = 9) (by omega)]; simp
      · have q2 : ¬ ((y.toNat : Nat) : Int) = 32 := bfalse q2
        have q3 : ¬ ((y.toNat : Nat) : Int) = 9 := bfalse q3
        rw [decide_eq_true h] at ht
        unfold Lx.blkB at ht
        rw [decide_eq_false (p := y.toNat = 32) (by omega), decide_eq_false (p := y.toNat = 9) (by omega)] at ht
        cases ht
  exact key n 0 [] ⟨none, 0, 0⟩ w ps hps rfl (by simp; omega) h (RowAt.nil _ _ _) (by simp [blkOf])
end Go.Proofs.YtjbfehippchniaaGreatDoor
