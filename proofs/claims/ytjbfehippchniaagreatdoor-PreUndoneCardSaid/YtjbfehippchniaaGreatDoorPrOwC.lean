import Derived.Test.YtjbfehippchniaaGreatDoorPrOwB
import Derived.Test.YtjbfehippchniaaGreatDoorPrPrA
import Derived.Lib.OthersKept
/- Lex: the program's Lex: which tokens it gives. The signs: what the library's tables of letters and of bytes lay. -/
set_option maxRecDepth 100000
set_option linter.unusedVariables false
set_option linter.unusedSimpArgs false
namespace Go.Proofs.YtjbfehippchniaaGreatDoor
open Go.Sh Go.Sh.Lx Go.RowKit
theorem rowOf_get : ∀ {xs : List Tok} {i : Nat} {t : Tok}, xs[i]? = some t -> ∀ (j : Nat) (v : Value), (tokV t)[j]? = some v -> (rowOf xs)[i * 3 + j]? = some v
  | [], i, t, h, j, v, hv => by simp at h
  | x :: xs, 0, t, h, j, v, hv => by
    have h : x = t := by simpa using h
    subst h
    unfold rowOf
    have hj : j < (tokV x).length := (List.getElem?_eq_some_iff.1 hv).1
    rw [List.flatMap_cons, List.getElem?_append_left (by omega), Nat.zero_mul, Nat.zero_add]; exact hv
  | x :: xs, i + 1, t, h, j, v, hv => by
    have ih := rowOf_get (xs := xs) (i := i) (t := t) (by simpa using h) j v hv
    unfold rowOf at ih ⊢
    have e3 : (tokV x).length = 3 := rfl
    rw [List.flatMap_cons, List.getElem?_append_right (by omega), e3, show (i + 1) * 3 + j - 3 = i * 3 + j by omega]; exact ih
theorem rd_toks {w : World} {s : SV} {xs : List Tok} (h : RowAt w 30 3 s (rowOf xs)) (hall : ∀ t ∈ xs, In64 t.kind /\ In64 t.at_) (hl : xs.length <= 100000) : RdSl w s xs := by
  have hlen : s.len = xs.length := by have h1 := h.1; have h2 := rowOf_len xs; omega
  have hcap := h.le_cap
  refine ⟨hlen, hcap.1, by omega, fun i t ht => ?_⟩
  · obtain ⟨a, ha, hc0, _⟩ := h.cell (j := i * 3 + 0) (rowOf_get ht 0 _ rfl)
    refine ⟨a, ha, tokV t, ⟨rfl, hall t (List.mem_of_getElem? ht)⟩, fun j v hv => ?_⟩
    obtain ⟨a', ha', hc, _⟩ := h.cell (rowOf_get ht j v hv)
    rw [ha] at ha'; cases ha'
    obtain ⟨g, hg, _⟩ := h.base (fun e => by have := rowOf_get ht 0 _ rfl; rw [e] at this; simp at this)
    rw [ha] at hg; cases hg
    rw [add_def, add_def]; rw [add_def] at hc
    show w.cell? ⟨g, 0 + i * 3 + j, none⟩ = _
    rw [show 0 + i * 3 + j = 0 + (i * 3 + j) by omega]; exact hc
def TokIn (n : Nat) : Stp -> Prop
  | .tok k t m => m <= n /\ 0 <= k /\ k <= 4
  | .bad i => i <= n
  | _ => False
def StpIn (n : Nat) : Stp -> Prop
  | .go m => m <= n
  | .eol => True
  | .tok k t m => m <= n /\ 0 <= k /\ k <= 4
  | .bad i => i <= n
theorem tokS_in {x : UInt8} {r : List UInt8} : TokIn r.length (tokS x r) := by
  unfold tokS
  split
  · have := tw_le (fun c => letB c || digB c) (x :: r)
    rw [List.length_cons] at this
    dsimp only
    split
    · exact Nat.zero_le _
    · exact ⟨by omega, by omega, by omega⟩
  · split
    · have := tw_le digB (x :: r)
      rw [List.length_cons] at this
      dsimp only
      split
      · exact Nat.zero_le _
      · exact ⟨by omega, by omega, by omega⟩
    · split
      · unfold quoteS
        have h1 := tw_le (fun b => !nlB b && !decide (b = x)) r
        dsimp only
        split
        · rename_i hq
          have hq2 := (List.getElem?_eq_some_iff.1 hq).1
          split
          · rename_i i hi
            have : i < (List.takeWhile (fun b => !nlB b && !decide (b = x)) r).length := by
              unfold badAt at hi
              rw [List.findIdx?_eq_some_iff_getElem] at hi
              exact hi.1
            show i + 1 <= r.length; omega
          · exact ⟨by omega, by omega, by omega⟩
        · exact Nat.zero_le _
      · split
        · rename_i d n hd
          have hn : n <= r.length + 1 := by
            unfold dateL at hd
            split at hd
            · rename_i h2
              have hlen := congrArg List.length h2
              rw [List.length_take, List.length_cons] at hlen
              have : n = 2 := by simp at hd; omega
              simp at hlen; omega
            · split at hd
              · cases hd
              · rename_i h2
                split at hd
                · have : n = 13 := by simp at hd; omega
                  rw [List.length_cons] at h2; omega
                · cases hd
          exact ⟨by omega, by omega, by omega⟩
        · split
          · rename_i w hw
            unfold signS at hw
            have h9 := List.find?_some hw
            have h8 := congrArg List.length (of_decide_eq_true h9)
            rw [List.length_map, List.length_take, List.length_cons] at h8
            exact ⟨by omega, by omega, by omega⟩
          · exact Nat.zero_le _
theorem badAt_lt {l : List UInt8} {i : Nat} (h : badAt l = some i) : i < l.length := by
  unfold badAt at h
  rw [List.findIdx?_eq_some_iff_getElem] at h
  exact h.1
theorem stepS_in {x : UInt8} {r : List UInt8} {line : Bool} : StpIn r.length (stepS x r line) := by
  unfold stepS
  have h1 := lnN_le (x :: r)
  have h2 := lnN_le r
  unfold lnN at h1 h2
  rw [List.length_cons] at h1
  split
  · trivial
  · split
    · exact Nat.zero_le _
    · split
      · split
        · rename_i i hi; have := badAt_lt hi; show i <= _; omega
        · show _ - 1 <= _; omega
      · split
        · split
          · rename_i i hi; have := badAt_lt hi; show i + 1 <= _; omega
          · exact goN_le r
        · have := tokS_in (x := x) (r := r)
          cases ht : tokS x r with
          | go m => rw [ht] at this; exact this.elim
          | eol => rw [ht] at this; exact this.elim
          | tok k t m => rw [ht] at this; exact this
          | bad i => rw [ht] at this; exact this
theorem stepS_go {x : UInt8} {r : List UInt8} {line : Bool} {m : Nat} (h : stepS x r line = .go m) : m <= r.length := by have := stepS_in (x := x) (r := r) (line := line); rw [h] at this; exact this
theorem stepS_tok {x : UInt8} {r : List UInt8} {line : Bool} {k : Int} {t : List UInt8} {m : Nat} (h : stepS x r line = .tok k t m) : m <= r.length /\ 0 <= k /\ k <= 4 := by have := stepS_in (x := x) (r := r) (line := line); rw [h] at this; exact this
theorem stepS_bad {x : UInt8} {r : List UInt8} {line : Bool} {i : Nat} (h : stepS x r line = .bad i) : i <= r.length := by have := stepS_in (x := x) (r := r) (line := line); rw [h] at this; exact this
theorem lexS_bounds : ∀ (n : Nat) (r : List UInt8) (p : Nat) (line : Bool), r.length <= n -> (∀ t ∈ (lexS r p line).1, 0 <= t.kind /\ t.kind <= 5 /\ 0 <= t.at_ /\ t.at_ <= ((p + r.length : Nat) : Int)) /\ (lexS r p line).1.length <= r.length + 1 /\ (∀ i, (lexS r p line).2 = some i -> i <= p + r.length) := by
  have endB : ∀ (p q : Nat), p <= q -> 0 <= (endT p).kind /\ (endT p).kind <= 5 /\ 0 <= (endT p).at_ /\ (endT p).at_ <= (q : Int) := fun p q h => ⟨by show (0 : Int) <= 5; omega, by show (5 : Int) <= 5; omega, by show (0 : Int) <= (p : Int); omega, by show (p : Int) <= (q : Int); omega⟩
  intro n
  induction n with
  | zero =>
    intro r p line h
    obtain rfl : r = [] := List.eq_nil_of_length_eq_zero (by omega)
    rw [lexS_nil]
    refine ⟨fun t ht => ?_, ?_, fun i hi => by cases hi⟩
    · cases line with
      | false => simp at ht
      | true => simp at ht; subst ht; exact endB _ _ (Nat.le_refl _)
    · cases line <;> simp
  | succ n ih =>
    intro r p line h
    cases r with
    | nil =>
      rw [lexS_nil]
      refine ⟨fun t ht => ?_, ?_, fun i hi => by cases hi⟩
      · cases line with
        | false => simp at ht
        | true => simp at ht; subst ht; exact endB _ _ (Nat.le_refl _)
      · cases line <;> simp
    | cons x r =>
      have hr : r.length <= n := by simpa using h
      have hxl : (x :: r).length = r.length + 1 := rfl
      cases hs : stepS x r line with
      | go m =>
        rw [lexS_go hs]
        obtain ⟨h1, h2, h3⟩ := ih (r.drop m) (p + 1 + m) line (by rw [List.length_drop]; omega)
        rw [List.length_drop] at h1 h2 h3
        have hm : m <= r.length := stepS_go hs
        refine ⟨fun t ht => ?_, by omega, fun i hi => by have := h3 i hi; omega⟩
        obtain ⟨a, b, c, e⟩ := h1 t ht
        exact ⟨a, b, c, by omega⟩
      | eol =>
        rw [lexS_eol hs]
        obtain ⟨h1, h2, h3⟩ := ih r (p + 1) false hr
        refine ⟨fun t ht => ?_, ?_, fun i hi => by have := h3 i hi; omega⟩
        · rcases List.mem_append.1 ht with ht | ht
          · cases line with
            | false => simp at ht
            | true => simp at ht; subst ht; exact endB _ _ (by omega)
          · obtain ⟨a, b, c, e⟩ := h1 t ht
            exact ⟨a, b, c, by omega⟩
        · rw [List.length_append]
          cases line <;> simp <;> omega
      | tok k t0 m =>
        rw [lexS_tok hs]
        obtain ⟨h1, h2, h3⟩ := ih (r.drop m) (p + 1 + m) true (by rw [List.length_drop]; omega)
        rw [List.length_drop] at h1 h2 h3
        obtain ⟨hm, hk⟩ := stepS_tok hs
        refine ⟨fun t ht => ?_, by simp only [List.length_cons]; omega, fun i hi => by have := h3 i hi; omega⟩
        rcases List.mem_cons.1 ht with rfl | ht
        · exact ⟨by show (0 : Int) <= k; omega, by show k <= 5; omega, by show (0 : Int) <= (p : Int); omega, by show (p : Int) <= _; omega⟩
        · obtain ⟨a, b, c, e⟩ := h1 t ht
          exact ⟨a, b, c, by omega⟩
      | bad i =>
        rw [lexS_bad hs]
        exact ⟨fun t ht => by simp at ht, by simp, fun j hj => by cases hj; have := stepS_bad hs; omega⟩
theorem build_run (d : List UInt8) (w : World) : (Instr.build 152 #[(0, .string (bs d)), (2, .agg (arrF 256 clsV)), (5, .int .i64 (-1))]).run Tryz.prog w = .ok (.agg (arrF 261 (scF d 0 false false (-1)))) w := by kernel_rfl
theorem all_c (p0 : Option Addr) (w : World) : Calls Tryz.prog 121 #[.pointer p0] w fun e w' => e = .returned (.func (.func 149) #[] #[.pointer (some ⟨w.heap.size, 0, none⟩)]) /\ w' = w.alloc (.cells #[.pointer p0] 148) := by
  refine calls_by (F121_calls _ w) fun R hR => alE_intro fun w1 hw1 => hR _ _ ⟨rfl, hw1⟩
theorem enters37 : ∀ args w, (callFunc 149 args).run Tryz.prog w = .ok (.enter 149 args) w := fun args w => run_callFunc (by kernel_rfl) args w
theorem lexR_c {w0 : World} (hL : Laid w0) (d : List UInt8) (hd : d.length <= 9223372036854775807) : Calls Tryz.prog 81 #[.string (bs d)] w0 fun e w' => Pu w0 w' /\ ∃ s : SV, e = .returned (.tuple #[.slice s.a s.len s.cap, .int .i64 (lexF d).2.1, .int .i64 (lexF d).2.2]) /\ RdSl w' s (lexF d).1 /\ RowAt w' 30 3 s (rowOf (lexF d).1) /\ ∀ k ∈ blkOf s, w0.heap.size <= k := by
  refine calls_by (F81_calls _ w0) fun R hR => Br.of (fun q => ?_) (fun q => ?_)
  · have q := dtrue q
    rw [bs_size_i] at q
    refine hR _ _ ⟨Pu.refl _, ⟨none, 0, 0⟩, ?_, ?_, ?_, by simp [blkOf]⟩
    · unfold lexF; rw [if_pos (by omega)]
    · unfold lexF; rw [if_pos (by omega)]; exact RdSl.nil _ _ _
    · unfold lexF; rw [if_pos (by omega)]; exact RowAt.nil _ _ _
  · have q := dfalse q
    rw [bs_size_i] at q
    have hdl : d.length <= 4000 := by omega
    refine (classes_c w0).mono ?_
    rintro e w1 ⟨rfl, hp1⟩
    refine ⟨_, arrF_size _ _, rfl, ?_⟩
    show rawE _ _ _ _
    unfold rawE
    rw [build_run]
    show alE (.cells (arrF 261 (scF d 0 false false (-1))) 152) w1 _
    refine alB fun w2 hp2 hb2 => (all_c _ w2).mono ?_
    rintro e w3 ⟨rfl, rfl⟩
    obtain ⟨b, hb⟩ : ∃ b, b = w1.heap.size := ⟨_, rfl⟩
    rw [← hb] at hb2 ⊢
    have hz1 := hp1.size
    have hz2 := hp2.size
    have hlt := blk_lt hb2
    have hS2 : Sc w0 w2 b d 0 false false (-1) := ⟨hp1.trans hp2, by omega, hb2, Nat.zero_le _, hdl⟩
    obtain ⟨w3, hw3⟩ : ∃ w3, w3 = w2.alloc (.cells #[.pointer (some ⟨b, 0, none⟩)] 148) := ⟨_, rfl⟩
    rw [← hw3]
    have hp3 : Pu w2 w3 := by rw [hw3]; exact Pu.alloc _ _
    have hS3 := hS2.pu hp3
    have hc3 : w3.heap[w2.heap.size]? = some (.cells #[.pointer (some ⟨b, 0, none⟩)] 148) := by rw [hw3]; exact alloc_new _ _
    have hz3 : w3.heap.size = w2.heap.size + 1 := by rw [hw3]; simp
    obtain ⟨hbT, hbN, hbI⟩ := lexS_bounds d.length d 0 false (Nat.le_refl _)
    refine ⟨_, rfl, ?_⟩
    have hcol : Calls Tryz.prog 120 #[.func (.func 149) #[] #[.pointer (some ⟨w2.heap.size, 0, none⟩)]] w3 fun e w' => ∃ (s : SV) (xs : List Tok), e = .returned (.slice s.a s.len s.cap) /\ TokS w0 b d xs w' /\ RowAt w' 30 3 s (rowOf xs) /\ Fr (· = b) w3 w' /\ ∀ k ∈ blkOf s, w3.heap.size <= k := by
      refine calls_by (F120_calls _ w3) fun R hR => ?_
      refine (appendSeq_c (b := b) (S := TokS w0 b d) (N := (lexS d 0 false).1.length + 1) enters37 (by omega) (by omega) ?_ ?_).mono ?_
      · rintro xs A A' ⟨h1, p, l, h2⟩ hf
        exact ⟨h1, p, l, h2.fr hf (by omega) (fun i hi => by have hi : w3.heap.size <= i := hi; omega)⟩
      · rintro w4 rfl
        have hp4 : Pu w3 (w3.alloc (.cells #[.slice none 0 0] 25)) := Pu.alloc _ _
        exact all1_own 3 (by omega) hL (hS3.pu hp4) w2.heap.size w3.heap.size (cl0 (hp4.blk hc3)) (by omega) (by omega) (by omega) hp4.size
      · rintro e w5 ⟨s, xs, rfl, h⟩
        exact ⟨s, rfl, hR _ _ ⟨s, xs, rfl, h⟩⟩
    refine hcol.mono ?_
    rintro e w5 ⟨s, xs, rfl, ⟨hx, p, l, hS⟩, hrow, hf, hnk⟩
    subst hx
    have hP5 := hS.since
    have hrd := rd_toks hrow (fun t ht => by
      obtain ⟨a, b', c, e⟩ := hbT t ht
      exact ⟨⟨by omega, by omega⟩, by omega, by omega⟩) (by omega)
    refine ⟨s, rfl, _, hS.bd, ?_⟩
    have hlF : lexF d = match (lexS d 0 false).2 with
        | some i => ([], (i : Int), 2)
        | none => if 1200 < (lexS d 0 false).1.length then ([], 0, 3) else ((lexS d 0 false).1, ((lexS d 0 false).1.length : Int), 0) := by unfold lexF; rw [if_neg (by omega)]; cases (lexS d 0 false).2 <;> rfl
    cases h2 : (lexS d 0 false).2 with
    | some i =>
      rw [h2] at hlF hS
      refine Br.t (decide_eq_true (by show (i : Int) ≥ 0; omega)) (dwE_intro fun w6 hp6 _ => ⟨_, (hS.pu hp6).bd, hR _ _ ⟨hP5.trans hp6, ⟨none, 0, 0⟩, ?_, ?_, ?_, by simp [blkOf]⟩⟩)
      · rw [hlF]; rfl
      · rw [hlF]; exact RdSl.nil _ _ _
      · rw [hlF]; exact RowAt.nil _ _ _
    | none =>
      rw [h2] at hlF
      refine Br.f (decide_eq_false (by show ¬ (-1 : Int) ≥ 0; omega)) (Br.of (fun q2 => ?_) (fun q2 => ?_))
      · have q2 := dtrue q2
        rw [hrd.len] at q2
        refine hR _ _ ⟨hP5, ⟨none, 0, 0⟩, ?_, ?_, ?_, by simp [blkOf]⟩
        · rw [hlF]; dsimp only; rw [if_pos (by omega)]
        · rw [hlF]; dsimp only; rw [if_pos (by omega)]; exact RdSl.nil _ _ _
        · rw [hlF]; dsimp only; rw [if_pos (by omega)]; exact RowAt.nil _ _ _
      · have q2 := dfalse q2
        rw [hrd.len] at q2
        refine hR _ _ ⟨hP5, s, ?_, ?_, ?_, fun k hk => by have := hnk k hk; omega⟩
        · rw [hlF]; dsimp only; rw [if_neg (by omega), hrd.len]
        · rw [hlF]; dsimp only; rw [if_neg (by omega)]; exact hrd
        · rw [hlF]; dsimp only; rw [if_neg (by omega)]; exact hrow
theorem lex_c {w0 : World} (hL : Laid w0) (d : List UInt8) (hd : d.length <= 9223372036854775807) : Calls Tryz.prog 81 #[.string (bs d)] w0 fun e w' => Pu w0 w' /\ ∃ s : SV, e = .returned (.tuple #[.slice s.a s.len s.cap, .int .i64 (lexF d).2.1, .int .i64 (lexF d).2.2]) /\ RdSl w' s (lexF d).1 :=
  (lexR_c hL d hd).mono fun _ _ ⟨h1, s, h2, h3, _⟩ => ⟨h1, s, h2, h3⟩
end Go.Proofs.YtjbfehippchniaaGreatDoor

/- Lex: the reference's reader: its state, and its small steps. No condition but those stated. -/
set_option maxRecDepth 100000
set_option linter.unusedVariables false
set_option linter.unusedSimpArgs false
namespace Go.Proofs.YtjbfehippchniaaGreatDoor
open Go.Sh Go.Sh.Lx Go.RowKit
structure Rd (w0 w : World) (b : Nat) (d : List UInt8) (p : Nat) (l : Bool) (bad : Int) (s : SV) (ts : List Tok) : Prop where
  since : Pu w0 w
  new : w0.heap.size <= b
  blk : w.heap[b]? = some (.cells #[.string (bs d), .int .i64 (p : Int), .bool l, .int .i64 bad, .slice s.a s.len s.cap] 41)
  row : RowAt w 30 3 s (rowOf ts)
  own : ∀ k ∈ blkOf s, w0.heap.size <= k /\ k ≠ b
  le : p <= d.length
  lim : d.length <= 4000
variable {w0 w w' : World} {b p : Nat} {d : List UInt8} {l : Bool} {bad : Int} {s : SV} {ts : List Tok}
theorem Rd.pu (h : Rd w0 w b d p l bad s ts) (hp : Pu w w') : Rd w0 w' b d p l bad s ts := ⟨h.since.trans hp, h.new, hp.blk h.blk, h.row.pu hp, h.own, h.le, h.lim⟩
theorem Rd.s_ (h : Rd w0 w b d p l bad s ts) : w.cell? (⟨b, 0, none⟩ : Addr) = some (.string (bs d)) := cl0 h.blk
theorem Rd.at_ (h : Rd w0 w b d p l bad s ts) : w.cell? ((⟨b, 0, none⟩ : Addr).add 1) = some (.int .i64 (p : Int)) := cl h.blk 1
theorem Rd.ln (h : Rd w0 w b d p l bad s ts) : w.cell? ((⟨b, 0, none⟩ : Addr).add 2) = some (.bool l) := cl h.blk 2
theorem Rd.bd (h : Rd w0 w b d p l bad s ts) : w.cell? ((⟨b, 0, none⟩ : Addr).add 3) = some (.int .i64 bad) := cl h.blk 3
theorem Rd.out (h : Rd w0 w b d p l bad s ts) : w.cell? ((⟨b, 0, none⟩ : Addr).add 4) = some (.slice s.a s.len s.cap) := cl h.blk 4
theorem Rd.st (h : Rd w0 w b d p l bad s ts) {o : Nat} (ho : o < 5) {v : Value} {p' : Nat} {l' : Bool} {bad' : Int} {K : World -> Prop} (hp' : p' <= d.length)
    (hs : (#[.string (bs d), .int .i64 (p : Int), .bool l, .int .i64 bad, .slice s.a s.len s.cap] : Array Value).setIfInBounds o v = #[.string (bs d), .int .i64 (p' : Int), .bool l', .int .i64 bad', .slice s.a s.len s.cap])
    (hK : ∀ w', Rd w0 w' b d p' l' bad' s ts -> K w') : ptrE (some (⟨b, 0, none⟩ : Addr)) fun a => st1 (a.add o) v w K := by
  show st1 ((⟨b, 0, none⟩ : Addr).add o) v w K
  rw [add_def, Nat.zero_add]
  refine st1_intro h.blk (by simpa using ho) fun w' hw' hb' => ?_
  rw [hs] at hb'
  have hf : Fr (· = b) w w' := by rw [hw']; exact Fr.setCell w ⟨b, o, none⟩ v
  exact hK w' ⟨Pu.andNew h.since hf (fun i hi => by rw [show i = b from hi]; exact h.new), h.new, hb', h.row.fr hf (fun k hk => (h.own k hk).2), h.own, hp', h.lim⟩
theorem Rd.st_at (h : Rd w0 w b d p l bad s ts) {p' : Nat} (hp' : p' <= d.length) {n : Int} (hn : n = (p' : Int)) {K : World -> Prop} (hK : ∀ w', Rd w0 w' b d p' l bad s ts -> K w') : ptrE (some (⟨b, 0, none⟩ : Addr)) fun a => st1 (a.add 1) (.int .i64 n) w K := by
  subst hn; exact h.st (by omega) hp' rfl hK
theorem Rd.st_ln (h : Rd w0 w b d p l bad s ts) {l' : Bool} {K : World -> Prop} (hK : ∀ w', Rd w0 w' b d p l' bad s ts -> K w') : ptrE (some (⟨b, 0, none⟩ : Addr)) fun a => st1 (a.add 2) (.bool l') w K := h.st (by omega) h.le rfl hK
theorem Rd.st_bd (h : Rd w0 w b d p l bad s ts) {bad' : Int} {K : World -> Prop} (hK : ∀ w', Rd w0 w' b d p l bad' s ts -> K w') : ptrE (some (⟨b, 0, none⟩ : Addr)) fun a => st1 (a.add 3) (.int .i64 bad') w K := h.st (by omega) h.le rfl hK
theorem Rd.push (h : Rd w0 w b d p l bad s ts) {r : Nat} {t : Tok} (ht : TokB w r t) (hc : ts.length <= 100000) : ∃ (s' : SV) (w5 : World), (Builtin.append_ #[25, 25] 25 #[.slice s.a s.len s.cap, .slice (some ⟨r, 0, none⟩) 1 1]).run Tryz.prog w = .ok (.slice s'.a s'.len s'.cap) w5 /\
    ∀ K : World -> Prop, (∀ w', Rd w0 w' b d p l bad s' (ts ++ [t]) -> K w') -> ptrE (some (⟨b, 0, none⟩ : Addr)) fun a => st1 (a.add 4) (.slice s'.a s'.len s'.cap) w5 K := by
  obtain ⟨i0, hi, hz0, hz1, hz2⟩ := info_parts info49
  have hl := h.row.1
  have hrl := rowOf_len ts
  have hsi := h.since.size
  have hbl := blk_lt h.blk
  obtain ⟨s', w5, hrun, r1, r2, r3, r4⟩ := row_append (P := Tryz.prog) (w := w) (s := s) (vs := rowOf ts) (t := 25) (ty := 25) Tryz.underlying25 hi hz0 hz1 rfl (by decide) h.row (a := ⟨r, 0, none⟩) (m := 1) (c := 1) (news := tokV t) rfl
    (fun j u hu => by rw [cl ht]; simpa using hu) (by intro u hu; simp [tokV] at hu; rcases hu with rfl | rfl | rfl <;> rfl) (by rw [hz2]; omega)
  have e : rowOf ts ++ tokV t = rowOf (ts ++ [t]) := by unfold rowOf; rw [List.flatMap_append]; simp
  rw [e] at r1
  refine ⟨s', w5, hrun, fun K hK => ?_⟩
  have hb5 := r2.blk h.blk (fun hk => (h.own b hk).2 rfl)
  show st1 ((⟨b, 0, none⟩ : Addr).add 4) _ w5 K
  rw [add_def]
  refine st1_intro hb5 (by simp) fun w' hw' hb' => ?_
  have hf : Fr (· = b) w5 w' := by rw [hw']; exact Fr.setCell w5 ⟨b, 0 + 4, none⟩ _
  have hown : ∀ k ∈ blkOf s', w0.heap.size <= k /\ k ≠ b := fun k hk => by
    rcases r3 k hk with h9 | h9
    · exact h.own k h9
    · exact ⟨by omega, by omega⟩
  exact hK w' ⟨Pu.andNew (Pu.andNew h.since r2 (fun i hi => (h.own i hi).1)) hf (fun i hi => by rw [show i = b from hi]; exact h.new), h.new, hb', r1.fr hf (fun k hk => (hown k hk).2), hown, h.le, h.lim⟩
def unitE : Ending := .returned (.tuple #[])
def failI (bad q : Int) : Int := if bad < 0 then q else if q < bad then q else bad
theorem fails_c (h : Rd w0 w b d p l bad s ts) (q : Int) : Calls Tryz.prog 60 #[.pointer (some ⟨b, 0, none⟩), .int .i64 q] w fun e w' => e = unitE /\ Rd w0 w' b d p l (failI bad q) s ts := by
  refine calls_by (F60_calls _ _ w) fun R hR => ⟨_, h.bd, Br.of (fun q1 => ?_) (fun q1 => ⟨_, h.bd, Br.of (fun q2 => ?_) (fun q2 => ?_)⟩)⟩
  · refine h.st_bd fun w1 h1 => hR _ _ ⟨rfl, ?_⟩
    unfold failI; rw [if_pos (dtrue q1)]; exact h1
  · refine h.st_bd fun w1 h1 => hR _ _ ⟨rfl, ?_⟩
    unfold failI; rw [if_neg (dfalse q1), if_pos (dtrue q2)]; exact h1
  · refine hR _ _ ⟨rfl, ?_⟩
    unfold failI; rw [if_neg (dfalse q1), if_neg (dfalse q2)]; exact h
theorem rend_c (h : Rd w0 w b d p l bad s ts) {q : Nat} (hq : q <= d.length) : Calls Tryz.prog 33 #[.pointer (some ⟨b, 0, none⟩), .int .i64 (q : Int)] w fun e w' => e = .returned (.int .i64 ((q + lnN (d.drop q) : Nat) : Int)) /\ w' = w := by
  have hlim := h.lim
  have hln := lnN_le (d.drop q)
  rw [List.length_drop] at hln
  refine calls_by (F33_calls _ _ w) fun R hR => loopUp (lnN (d.drop q)) (fun k t w' => t = ((q + k : Nat) : Int) /\ w' = w) ⟨rfl, rfl⟩ ?_
  rintro k J t w1 hk ⟨rfl, rfl⟩ hJ
  have ht := head_test (f := fun x => !nlB x) (d := d) (p := q) (k := k) hk
  have hlno : ((d.drop q).takeWhile fun x => !nlB x).length = lnN (d.drop q) := rfl
  rw [hlno] at ht
  have fin : ¬ k < lnN (d.drop q) -> F33_1 R ((q + k : Nat) : Int) [] w1 := fun h9 => hR _ _ ⟨by rw [show k = lnN (d.drop q) by omega], rfl⟩
  refine ⟨_, h.s_, Br.of (fun q1 => ?_) (fun q1 => ?_)⟩
  · have q1 := dtrue q1
    rw [bs_size_i] at q1
    obtain ⟨x, hx⟩ := at_k (l := d) (k := q + k) (by omega)
    rw [hx] at ht
    have ht : (!nlB x) = decide (k < lnN (d.drop q)) := ht
    have e10 : (((x.toNat : Nat) : Int) != 10) = !nlB x := by
      unfold bne; rw [beq_dec]; unfold nlB; congr 1; exact dec_eq (by omega)
    refine ⟨_, h.s_, x, by omega, by rw [toNat_i]; exact bs_get hx, ?_⟩
    rw [e10, ht]
    refine Br.of (fun q2 => ?_) (fun q2 => fin (dfalse q2))
    rw [wrap_in (by omega) (by omega)]
    exact hJ _ _ (dtrue q2) ⟨by omega, rfl⟩
  · have q1 := dfalse q1
    rw [bs_size_i] at q1
    exact fin (by omega)
theorem badAt_snoc (l : List UInt8) (x : UInt8) : badAt (l ++ [x]) = match badAt l with
    | some i => some i
    | none => if isB x then none else some l.length := by
  unfold badAt
  rw [List.findIdx?_append]
  cases h : List.findIdx? (fun b => !isB b) l with
  | some i => rfl
  | none =>
    rw [List.findIdx?_cons]
    cases isB x <;> simp
def badP (p : Nat) (c : List UInt8) : Int := badI ((badAt c).map (p + ·))
theorem badP_snoc (p : Nat) (l : List UInt8) (x : UInt8) : badP p (l ++ [x]) = if isB x then badP p l else failI (badP p l) ((p + l.length : Nat) : Int) := by
  unfold badP
  rw [badAt_snoc]
  cases h : badAt l with
  | some i =>
    have hi := badAt_lt h
    cases isB x with
    | true => rfl
    | false =>
      show ((p + i : Nat) : Int) = failI ((p + i : Nat) : Int) ((p + l.length : Nat) : Int)
      unfold failI; rw [if_neg (by omega), if_neg (by omega)]
  | none =>
    cases isB x with
    | true => rfl
    | false => rfl
theorem take_drop_succ {d : List UInt8} {p k : Nat} {x : UInt8} (hx : d[p + k]? = some x) : (d.drop p).take (k + 1) = (d.drop p).take k ++ [x] := take_at (by rw [get_drop]; exact hx)
theorem skips_c (h : Rd w0 w b d p l (-1) s ts) {n : Nat} (hn : p + n <= d.length) : Calls Tryz.prog 32 #[.pointer (some ⟨b, 0, none⟩), .int .i64 ((p + n : Nat) : Int)] w fun e w' => e = unitE /\ Rd w0 w' b d (p + n) l (badP p ((d.drop p).take n)) s ts := by
  have hlim := h.lim
  refine calls_by (F32_calls _ _ w) fun R hR => loopUp n (fun k _ w' => Rd w0 w' b d (p + k) l (badP p ((d.drop p).take k)) s ts) (by rw [List.take_zero]; exact h) ?_
  rintro k J _ w1 hk h1 hJ
  refine ⟨_, h1.at_, Br.of (fun q1 => ?_) (fun q1 => ?_)⟩
  · have q1 := dtrue q1
    have hk2 : k < n := by omega
    obtain ⟨x, hx⟩ := at_k (l := d) (k := p + k) (by omega)
    refine dwE_intro fun w2 hp2 _ => ?_
    have h2 := h1.pu hp2
    refine ⟨_, h2.s_, _, h2.at_, x, by omega, by rw [toNat_i]; exact bs_get hx, (isByte_c x w2).mono ?_⟩
    rintro e w3 ⟨rfl, rfl⟩
    have hsn := badP_snoc p ((d.drop p).take k) x
    have hlk : ((d.drop p).take k).length = k := by rw [List.length_take, List.length_drop]; omega
    rw [← take_drop_succ hx, hlk] at hsn
    refine ⟨_, rfl, Br.of (fun q2 => ?_) (fun q2 => ?_)⟩
    · have q2 : isB x = false := by simpa using q2
      rw [q2] at hsn
      refine ⟨_, h2.at_, (fails_c h2 _).mono ?_⟩
      rintro e w4 ⟨rfl, h4⟩
      exact ⟨rfl, _, h4.at_, h4.st_at (p' := p + (k + 1)) (by omega) (by rw [wrap_in (by omega) (by omega)]; omega) fun w5 h5 => hJ _ _ hk2 (by rw [hsn, if_neg (by simp)]; exact h5)⟩
    · have q2 : isB x = true := by simpa using q2
      rw [q2, if_pos rfl] at hsn
      exact ⟨_, h2.at_, h2.st_at (p' := p + (k + 1)) (by omega) (by rw [wrap_in (by omega) (by omega)]; omega) fun w5 h5 => hJ _ _ hk2 (by rw [hsn]; exact h5)⟩
  · have q1 := dfalse q1
    obtain rfl : k = n := by omega
    exact hR _ _ ⟨rfl, h1⟩
theorem isComment_c {x : UInt8} {r : List UInt8} (h : Rd w0 w b d p l bad s ts) (hd : d.drop p = x :: r) : Calls Tryz.prog 30 #[.pointer (some ⟨b, 0, none⟩)] w fun e w' => e = .returned (.bool (ampB (x :: r))) /\ Rd w0 w' b d p l bad s ts := by
  have hlim := h.lim
  have hgx : d[p]? = some x := by have := congrArg (·[0]?) hd; simpa [get_drop] using this
  have hdl : (d.drop p).length = r.length + 1 := by rw [hd]; rfl
  rw [List.length_drop] at hdl
  refine calls_by (F30_calls _ w) fun R hR => dwE_intro fun w1 hp1 _ => ?_
  have h1 := h.pu hp1
  refine ⟨_, h1.at_, _, h1.s_, ?_⟩
  rw [wrap_in (n := (p : Int) + 1) (by omega) (by omega)]
  refine Br.of (fun q1 => ⟨_, h1.s_, _, h1.at_, x, by omega, by rw [toNat_i]; exact bs_get hgx, Br.of (fun q2 => ?_) (fun q2 => hR _ _ ⟨?_, h1⟩)⟩) (fun q1 => hR _ _ ⟨?_, h1⟩)
  · have q1 := dtrue q1
    rw [bs_size_i] at q1
    cases r with
    | nil => simp at hdl; omega
    | cons y r =>
      have hgy : d[p + 1]? = some y := by have := congrArg (·[1]?) hd; simpa [get_drop] using this
      refine ⟨_, h1.s_, _, h1.at_, y, ?_⟩
      rw [wrap_in (n := (p : Int) + 1) (by omega) (by omega)]
      refine ⟨by omega, by rw [show ((p : Int) + 1).toNat = p + 1 by omega]; exact bs_get hgy, hR _ _ ⟨?_, h1⟩⟩
      show _ = Ending.returned (.bool (decide (x.toNat = 38) && decide (y.toNat = 38)))
      congr 2
      rw [decide_eq_true (show x.toNat = 38 by have := btrue q2; omega), Bool.true_and, beq_dec]; exact dec_eq (by omega)
  · cases r with
    | nil => rfl
    | cons y r =>
      show _ = Ending.returned (.bool (decide (x.toNat = 38) && decide (y.toNat = 38)))
      rw [decide_eq_false (show ¬ x.toNat = 38 by have := bfalse q2; omega)]; rfl
  · have q1 := dfalse q1
    rw [bs_size_i] at q1
    cases r with
    | nil => rfl
    | cons y r => simp at hdl; omega
end Go.Proofs.YtjbfehippchniaaGreatDoor

/- Lex: the reference's reader: tokens. No condition but those stated. -/
set_option maxRecDepth 100000
set_option linter.unusedVariables false
set_option linter.unusedSimpArgs false
namespace Go.Proofs.YtjbfehippchniaaGreatDoor
open Go.Sh Go.Sh.Lx Go.RowKit
variable {w0 w w' : World} {b p : Nat} {d : List UInt8} {l : Bool} {bad : Int} {s : SV} {ts : List Tok}
def frontR (d : List UInt8) (p : Nat) : Bool := match (d.take p).reverse.dropWhile blkB with
  | [] => true
  | x :: _ => nlB x
theorem rev_get {d : List UInt8} {p k : Nat} (hp : p <= d.length) (hk : k < p) : (d.take p).reverse[k]? = d[p - 1 - k]? := by
  rw [List.getElem?_reverse (by rw [List.length_take]; omega), List.length_take, Nat.min_eq_left hp, List.getElem?_take, if_pos (by omega)]
theorem first_c (h : Rd w0 w b d p l bad s ts) : Calls Tryz.prog 31 #[.pointer (some ⟨b, 0, none⟩)] w fun e w' => e = .returned (.bool (frontR d p)) /\ w' = w := by
  have hlim := h.lim
  have hle := h.le
  obtain ⟨rv, hrv⟩ : ∃ rv, rv = (d.take p).reverse := ⟨_, rfl⟩
  have hrl : rv.length = p := by rw [hrv, List.length_reverse, List.length_take]; omega
  have hm : blkN rv <= rv.length := tw_le blkB rv
  refine calls_by (F31_calls _ w) fun R hR => ⟨_, h.at_, ?_⟩
  rw [wrap_in (by omega) (by omega)]
  have hfr : frontR d p = match rv.drop (blkN rv) with
      | [] => true
      | x :: _ => nlB x := by unfold frontR blkN; rw [tw_drop, ← hrv]
  refine loopUp (blkN rv) (fun k t w' => t = (p : Int) - 1 - k /\ w' = w) ⟨by omega, rfl⟩ ?_
  rintro k J t w1 hk ⟨rfl, rfl⟩ hJ
  have ht := head_test (f := blkB) (d := rv) (p := 0) (k := k) hk
  rw [List.drop_zero, Nat.zero_add] at ht
  have hbn : (rv.takeWhile blkB).length = blkN rv := rfl
  rw [hbn] at ht
  have fin : k = blkN rv -> F31_1 R (some ⟨b, 0, none⟩) ((p : Int) - 1 - k) [] w1 := fun hkm => by
    refine Br.of (fun q => hR _ _ ⟨?_, rfl⟩) (fun q => ?_)
    · have q := dtrue q
      rw [hfr]
      have hnil : rv.drop (blkN rv) = [] := List.drop_eq_nil_of_le (by omega)
      rw [hnil]
    · have q := dfalse q
      obtain ⟨x, hx⟩ := at_k (l := rv) (k := k) (by omega)
      have hx2 : d[p - 1 - k]? = some x := by rw [← rev_get hle (by omega), ← hrv]; exact hx
      refine ⟨_, h.s_, x, by omega, by rw [show ((p : Int) - 1 - k).toNat = p - 1 - k by omega]; exact bs_get hx2, hR _ _ ⟨?_, rfl⟩⟩
      rw [hfr, ← hkm, drop_at hx]
      congr 2
      rw [beq_dec]; unfold nlB; exact dec_eq (by omega)
  refine Br.of (fun q => ?_) (fun q => fin ?_)
  · have q := dtrue q
    obtain ⟨x, hx⟩ := at_k (l := rv) (k := k) (by omega)
    have hx2 : d[p - 1 - k]? = some x := by rw [← rev_get hle (by omega), ← hrv]; exact hx
    rw [hx] at ht
    have ht : blkB x = decide (k < blkN rv) := ht
    refine ⟨_, h.s_, x, by omega, by rw [show ((p : Int) - 1 - k).toNat = p - 1 - k by omega]; exact bs_get hx2, (isBlank_c x w1).mono ?_⟩
    rintro e w2 ⟨rfl, rfl⟩
    rw [ht]
    refine ⟨_, rfl, Br.of (fun q2 => ?_) (fun q2 => fin (by have := dfalse q2; omega))⟩
    rw [wrap_in (by omega) (by omega)]
    exact hJ _ _ (dtrue q2) ⟨by omega, rfl⟩
  · have q := dfalse q
    omega
theorem goesOn_c {x : UInt8} {r : List UInt8} (h : Rd w0 w b d p l bad s ts) (hd : d.drop p = x :: r) : Calls Tryz.prog 34 #[.pointer (some ⟨b, 0, none⟩)] w fun e w' => e = .returned (.bool (goesB r)) /\ w' = w := by
  have hlim := h.lim
  have hdl : (d.drop p).length = r.length + 1 := by rw [hd]; rfl
  rw [List.length_drop] at hdl
  have hr : d.drop (p + 1) = r := by rw [← List.drop_drop, hd]; rfl
  have hm : blkN r <= r.length := tw_le blkB r
  have hgo := goesB_eq r
  refine calls_by (F34_calls _ w) fun R hR => ⟨_, h.at_, ?_⟩
  rw [wrap_in (by omega) (by omega)]
  refine loopUp (blkN r) (fun k t w' => t = ((p + 1 + k : Nat) : Int) /\ w' = w) ⟨by omega, rfl⟩ ?_
  rintro k J t w1 hk ⟨rfl, rfl⟩ hJ
  have ht := head_test (f := blkB) (d := d) (p := p + 1) (k := k) (by rw [hr]; exact hk)
  rw [hr] at ht
  have hbn : (r.takeWhile blkB).length = blkN r := rfl
  rw [hbn] at ht
  have fin : k = blkN r -> F34_1 R (some ⟨b, 0, none⟩) ((p + 1 + k : Nat) : Int) [] w1 := fun hkm => by
    rw [← hkm] at hgo
    refine ⟨_, h.s_, Br.of (fun q => hR _ _ ⟨?_, rfl⟩) (fun q => ?_)⟩
    · have q := dtrue q
      rw [bs_size_i] at q
      rw [List.drop_eq_nil_of_le (by omega)] at hgo
      rw [hgo]
    · have q := dfalse q
      rw [bs_size_i] at q
      obtain ⟨y, hy⟩ := at_k (l := d) (k := p + 1 + k) (by omega)
      have hyr : r.drop k = y :: d.drop (p + 1 + k + 1) := by rw [← hr, List.drop_drop, drop_at hy]
      rw [hyr] at hgo
      have hgo : goesB r = (nlB y || ampB (y :: d.drop (p + 1 + k + 1))) := hgo
      have e10 : (((y.toNat : Nat) : Int) == 10) = nlB y := by rw [beq_dec]; unfold nlB; exact dec_eq (by omega)
      refine ⟨_, h.s_, y, by omega, by rw [toNat_i]; exact bs_get hy, ?_⟩
      rw [e10]
      refine Br.of (fun q2 => hR _ _ ⟨by rw [hgo, q2]; rfl, rfl⟩) (fun q2 => ?_)
      rw [q2, Bool.false_or] at hgo
      have hdy : d.drop (p + 1 + k) = y :: d.drop (p + 1 + k + 1) := drop_at hy
      refine ⟨_, h.s_, ?_⟩
      rw [wrap_in (n := ((p + 1 + k : Nat) : Int) + 1) (by omega) (by omega), wrap_in (n := ((p + 1 + k : Nat) : Int) + 2) (by omega) (by omega)]
      refine Br.of (fun q3 => ?_) (fun q3 => hR _ _ ⟨?_, rfl⟩)
      · have q3 := dtrue q3
        rw [bs_size_i] at q3
        have e2 : (((p + 1 + k : Nat) : Int) + 2).toNat = p + 1 + k + 2 := by omega
        refine ⟨_, h.s_, by omega, by rw [e2, bs_size]; omega, by omega, by rw [e2, toNat_i]; omega, hR _ _ ⟨?_, rfl⟩⟩
        rw [e2, toNat_i, sub_ext (by omega), show (⟨#[38, 38]⟩ : ByteArray) = bs [38, 38] from rfl, bs_beq, ampB_take, hdy, hgo]
      · have q3 := dfalse q3
        rw [bs_size_i] at q3
        have hnil : d.drop (p + 1 + k + 1) = [] := List.drop_eq_nil_of_le (by omega)
        rw [hgo, hnil]; rfl
  refine ⟨_, h.s_, Br.of (fun q => ?_) (fun q => fin ?_)⟩
  · have q := dtrue q
    rw [bs_size_i] at q
    obtain ⟨y, hy⟩ := at_k (l := d) (k := p + 1 + k) (by omega)
    rw [hy] at ht
    have ht : blkB y = decide (k < blkN r) := ht
    refine ⟨_, h.s_, y, by omega, by rw [toNat_i]; exact bs_get hy, (isBlank_c y w1).mono ?_⟩
    rintro e w2 ⟨rfl, rfl⟩
    rw [ht]
    refine ⟨_, rfl, Br.of (fun q2 => ?_) (fun q2 => fin (by have := dfalse q2; omega))⟩
    rw [wrap_in (by omega) (by omega)]
    exact hJ _ _ (dtrue q2) ⟨by omega, rfl⟩
  · have q := dfalse q
    rw [bs_size_i] at q
    omega
theorem put_c (h : Rd w0 w b d p l bad s ts) (hc : ts.length <= 100000) (k : Int) (t : ByteArray) {n : Nat} (hn : p + n <= d.length) : Calls Tryz.prog 62 #[.pointer (some ⟨b, 0, none⟩), .int .i64 k, .string t, .int .i64 (n : Int)] w fun e w' => e = unitE /\ ∃ s', Rd w0 w' b d (p + n) true bad s' (ts ++ [⟨k, (p : Int), t⟩]) := by
  have hlim := h.lim
  refine calls_by (F62_calls _ _ _ _ w) fun R hR => dwE_intro fun w1 hp1 _ => ?_
  have h1 := h.pu hp1
  refine ⟨fun w' => Rd w0 w' b d p l bad s ts, h1, _, fun w' h' => h'.out, _, fun w' h' => h'.at_, alB fun w2 hp2 hb2 => ?_⟩
  have h2 := h1.pu hp2
  obtain ⟨s', w5, hrun, hpush⟩ := h2.push (t := ⟨k, (p : Int), t⟩) hb2 hc
  refine ⟨h2, s', w5, hrun, hpush _ fun w6 h6 => ⟨_, h6.at_, h6.st_at (p' := p + n) hn (by rw [wrap_in (by omega) (by omega)]; omega) fun w7 h7 => h7.st_ln fun w8 h8 => hR _ _ ⟨rfl, _, h8⟩⟩⟩
theorem ends_c (h : Rd w0 w b d p l bad s ts) (hc : ts.length <= 100000) : Calls Tryz.prog 16 #[.pointer (some ⟨b, 0, none⟩)] w fun e w' => e = unitE /\ ∃ s', Rd w0 w' b d p false bad s' (ts ++ if l then [endT p] else []) := by
  refine calls_by (F16_calls _ w) fun R hR => ⟨_, h.ln, Br.of (fun q => ?_) (fun q => ?_)⟩
  · subst q
    refine dwE_intro fun w1 hp1 _ => ?_
    have h1 := h.pu hp1
    refine ⟨fun w' => Rd w0 w' b d p true bad s ts, h1, _, fun w' h' => h'.out, _, fun w' h' => h'.at_, alB fun w2 hp2 hb2 => ?_⟩
    have h2 := h1.pu hp2
    obtain ⟨s', w5, hrun, hpush⟩ := h2.push (t := endT p) hb2 hc
    exact ⟨h2, s', w5, hrun, hpush _ fun w6 h6 => h6.st_ln fun w7 h7 => hR _ _ ⟨rfl, _, h7⟩⟩
  · subst q
    refine h.st_ln fun w7 h7 => hR _ _ ⟨rfl, s, ?_⟩
    rw [if_neg (by simp), List.append_nil]; exact h7
theorem run_c (h : Rd w0 w b d p l bad s ts) (wd : Bool) : Calls Tryz.prog 61 #[.pointer (some ⟨b, 0, none⟩), .bool wd] w fun e w' => e = .returned (.int .i64 ((((d.drop p).takeWhile fun c => digB c || (wd && letB c)).length : Nat) : Int)) /\ Pu w w' := by
  have hlim := h.lim
  obtain ⟨f, hf⟩ : ∃ f : UInt8 -> Bool, f = fun c => digB c || (wd && letB c) := ⟨_, rfl⟩
  rw [← hf]
  have hle := tw_drop_le f d p h.le
  refine calls_by (F61_calls _ _ w) fun R hR => loopUp ((d.drop p).takeWhile f).length (fun k t w' => t = (k : Int) /\ Pu w w') ⟨rfl, Pu.refl _⟩ ?_
  rintro k J t w1 hk ⟨rfl, hp1⟩ hJ
  have ht := head_test (f := f) (d := d) (p := p) hk
  refine dwE_intro fun w2 hp2 _ => ?_
  have h2 := h.pu (hp1.trans hp2)
  have fin : ∀ {w3 : World}, Pu w w3 -> ¬ k < ((d.drop p).takeWhile f).length -> F61_1 R (k : Int) [] w3 := fun {w3} hp3 h9 => hR _ _ ⟨by rw [show k = ((d.drop p).takeWhile f).length by omega], hp3⟩
  refine ⟨_, h2.at_, _, h2.s_, ?_⟩
  rw [wrap_in (n := (p : Int) + (k : Int)) (by omega) (by omega)]
  refine Br.of (fun q => ?_) (fun q => fin (hp1.trans hp2) (by have := dfalse q; rw [bs_size_i] at this; omega))
  have q := dtrue q
  rw [bs_size_i] at q
  obtain ⟨x, hx⟩ := at_k (l := d) (k := p + k) (by omega)
  rw [hx] at ht
  have ht : f x = decide (k < ((d.drop p).takeWhile f).length) := ht
  refine dwE_intro fun w3 hp3 _ => ?_
  have h3 := h2.pu hp3
  have hP3 := (hp1.trans hp2).trans hp3
  refine ⟨_, h3.s_, _, h3.at_, x, ?_⟩
  rw [wrap_in (n := (p : Int) + (k : Int)) (by omega) (by omega)]
  refine ⟨by omega, by rw [show ((p : Int) + (k : Int)).toNat = p + k by omega]; exact bs_get hx, (isDigit_c x w3).mono ?_⟩
  rintro e w4 ⟨rfl, hp4⟩
  have hP4 := hP3.trans hp4
  have nxt : ∀ {w5 : World}, Pu w w5 -> f x = true -> J (IntKind.i64.wrap ((k : Int) + 1)) w5 := fun {w5} hp5 hfx => by
    rw [ht] at hfx
    have := dtrue hfx
    rw [wrap_in (by omega) (by omega)]
    exact hJ _ _ this ⟨by omega, hp5⟩
  have stp : ∀ {w5 : World}, Pu w w5 -> f x = false -> F61_1 R (k : Int) [] w5 := fun {w5} hp5 hfx => fin hp5 (by rw [ht] at hfx; exact dfalse hfx)
  refine ⟨_, rfl, Br.of (fun q2 => Br.of (fun q3 => (isLetter_c x w4).mono ?_) (fun q3 => stp hP4 ?_)) (fun q2 => nxt hP4 ?_)⟩
  · have q2 : digB x = false := by simpa using q2
    rintro e w5 ⟨rfl, rfl⟩
    refine ⟨_, rfl, Br.of (fun q4 => stp hP4 ?_) (fun q4 => nxt hP4 ?_)⟩
    · have q4 : letB x = false := by simpa using q4
      rw [hf]; simp [q2, q4]
    · have q4 : letB x = true := by simpa using q4
      rw [hf]; simp [q3, q4]
  · have q2 : digB x = false := by simpa using q2
    rw [hf]; simp [q2, q3]
  · have q2 : digB x = true := by simpa using q2
    rw [hf]; simp [q2]
end Go.Proofs.YtjbfehippchniaaGreatDoor

/- Lex: the reference's reader: dates, texts in quotes, tokens. No condition but those stated. -/
set_option maxRecDepth 100000
set_option linter.unusedVariables false
set_option linter.unusedSimpArgs false
namespace Go.Proofs.YtjbfehippchniaaGreatDoor
open Go.Sh Go.Sh.Lx Go.RowKit
variable {w0 w w' : World} {b p : Nat} {d : List UInt8} {l : Bool} {bad : Int} {s : SV} {ts : List Tok}
theorem digits_ext {d : List UInt8} {p : Nat} (h : p + 13 <= d.length) : ((((bs d).extract (p + 2) (p + 6)) ++ ((bs d).extract (p + 7) (p + 9))) ++ ((bs d).extract (p + 10) (p + 12))) = bs (datesD (d.drop p)) /\ (datesD (d.drop p)).length = 8 := by
  have e1 : (bs d).extract (p + 2) (p + 6) = bs ((d.drop (p + 2)).take 4) := sub_ext (p := p + 2) (n := 4) (by omega)
  have e2 : (bs d).extract (p + 7) (p + 9) = bs ((d.drop (p + 7)).take 2) := sub_ext (p := p + 7) (n := 2) (by omega)
  have e3 : (bs d).extract (p + 10) (p + 12) = bs ((d.drop (p + 10)).take 2) := sub_ext (p := p + 10) (n := 2) (by omega)
  rw [e1, e2, e3, bs_append, bs_append]
  unfold datesD
  rw [List.drop_drop, List.drop_drop, List.drop_drop]
  refine ⟨rfl, ?_⟩
  simp only [List.length_append, List.length_take, List.length_drop]
  omega
theorem two_le {s : ByteArray} (h : s.size <= 4000) (a b c e : Nat) : (((s.extract a b).size + (s.extract c e).size : Nat) : Int) <= 9223372036854775807 := by
  rw [ByteArray.size_extract, ByteArray.size_extract]; omega
theorem three_le {s : ByteArray} (h : s.size <= 4000) (a b c e f g : Nat) : (((s.extract a b ++ s.extract c e).size + (s.extract f g).size : Nat) : Int) <= 9223372036854775807 := by
  rw [ByteArray.size_append, ByteArray.size_extract, ByteArray.size_extract, ByteArray.size_extract]; omega
theorem unstamp_blank {l : List UInt8} (h : (unstampS l).2 = true) (h8 : l.length = 8) : (l[0]? = some 32 ↔ l = List.replicate 8 32) := by
  constructor
  · intro h0
    apply Classical.byContradiction
    intro hn
    unfold unstampS at h
    rw [if_neg hn, if_neg (by omega)] at h
    by_cases ha : l.all digB = true
    · have := List.all_eq_true.1 ha 32 (List.mem_of_getElem? h0)
      revert this; decide
    · rw [if_neg ha] at h; cases h
  · intro h; rw [h]; rfl
def dateR (l : List UInt8) : List UInt8 × Nat := (dateL l).getD ([], 0)
theorem dateAt_c (hd : d.length <= 4000) (hp : p <= d.length) (w : World) : Calls Tryz.prog 65 #[.string (bs d), .int .i64 (p : Int)] w fun e w' => Pu w w' /\ e = .returned (.tuple #[.string (bs (dateR (d.drop p)).1), .int .i64 (((dateR (d.drop p)).2 : Nat) : Int)]) := by
  obtain ⟨L, hL⟩ : ∃ L, L = d.drop p := ⟨_, rfl⟩
  have hLl : L.length = d.length - p := by rw [hL, List.length_drop]
  have hgL : ∀ k : Nat, L[k]? = d[p + k]? := fun k => by rw [hL, get_drop]
  rw [← hL]
  refine calls_by (F65_calls _ _ w) fun R hR => ?_
  have wr : ∀ n : Nat, n <= 20 -> IntKind.i64.wrap ((p : Int) + (n : Int)) = ((p + n : Nat) : Int) := fun n hn => by rw [wrap_in (by omega) (by omega)]; omega
  have w1' : IntKind.i64.wrap ((p : Int) + 1) = ((p + 1 : Nat) : Int) := wr 1 (by omega)
  have w2' : IntKind.i64.wrap ((p : Int) + 2) = ((p + 2 : Nat) : Int) := wr 2 (by omega)
  have w6' : IntKind.i64.wrap ((p : Int) + 6) = ((p + 6 : Nat) : Int) := wr 6 (by omega)
  have w7' : IntKind.i64.wrap ((p : Int) + 7) = ((p + 7 : Nat) : Int) := wr 7 (by omega)
  have w9' : IntKind.i64.wrap ((p : Int) + 9) = ((p + 9 : Nat) : Int) := wr 9 (by omega)
  have w10' : IntKind.i64.wrap ((p : Int) + 10) = ((p + 10 : Nat) : Int) := wr 10 (by omega)
  have w12' : IntKind.i64.wrap ((p : Int) + 12) = ((p + 12 : Nat) : Int) := wr 12 (by omega)
  have w13' : IntKind.i64.wrap ((p : Int) + 13) = ((p + 13 : Nat) : Int) := wr 13 (by omega)
  have no : ∀ {w3 : World}, Pu w w3 -> ¬ L.take 2 = [123, 125] -> (L.length < 13 ∨ L.take 2 ≠ [123, 94] ∨ L[6]? ≠ some 45 ∨ L[9]? ≠ some 45 ∨ L[12]? ≠ some 125) -> F65_1 R (bs d) (p : Int) true [] w3 := fun {w3} hp3 q hn => by
    refine hR _ _ ⟨hp3, ?_⟩
    unfold dateR dateL; rw [if_neg q, if_pos hn]; rfl
  have two : ¬ L.take 2 = [123, 125] -> F65_2 R (bs d) (p : Int) [] w := fun q => by
    unfold F65_2
    rw [w13', w2', w6', w9', w12', bs_size_i]
    refine Br.of (fun q1 => no (Pu.refl w) q (.inl (by have := dtrue q1; omega))) (fun q1 => ?_)
    have q1 : p + 13 <= d.length := by have := dfalse q1; omega
    refine ⟨by omega, by rw [toNat_i, bs_size]; omega, by omega, by rw [toNat_i, toNat_i]; omega, ?_⟩
    rw [toNat_i, toNat_i, sub_ext (n := 2) (by omega), ← hL, show (⟨#[123, 94]⟩ : ByteArray) = bs [123, 94] from rfl, bs_beq]
    refine Br.of (fun q2 => no (Pu.refl w) q (.inr (.inl (by simpa using q2)))) (fun q2 => ?_)
    have q2 : L.take 2 = [123, 94] := by simpa using q2
    obtain ⟨x6, hx6⟩ := at_k (l := d) (k := p + 6) (by omega)
    obtain ⟨x9, hx9⟩ := at_k (l := d) (k := p + 9) (by omega)
    obtain ⟨x12, hx12⟩ := at_k (l := d) (k := p + 12) (by omega)
    have b6 := byte45 x6 45 (by omega)
    have b9 := byte45 x9 45 (by omega)
    have b12 := byte45 x12 125 (by omega)
    refine ⟨x6, by omega, by rw [toNat_i]; exact bs_get hx6, ?_⟩
    rw [show (((x6.toNat : Nat) : Int) != 45) = _ from b6]
    refine Br.of (fun q3 => no (Pu.refl w) q (.inr (.inr (.inl (by rw [hgL, hx6]; simpa using q3))))) (fun q3 => ?_)
    have q3 : x6 = 45 := by simpa using q3
    subst q3
    refine ⟨x9, by omega, by rw [toNat_i]; exact bs_get hx9, ?_⟩
    rw [show (((x9.toNat : Nat) : Int) != 45) = _ from b9]
    refine Br.of (fun q4 => no (Pu.refl w) q (.inr (.inr (.inr (.inl (by rw [hgL, hx9]; simpa using q4)))))) (fun q4 => ?_)
    have q4 : x9 = 45 := by simpa using q4
    subst q4
    refine ⟨x12, by omega, by rw [toNat_i]; exact bs_get hx12, ?_⟩
    rw [show (((x12.toNat : Nat) : Int) != 125) = _ from b12]
    by_cases q5 : x12 = 125
    · subst q5
      show F65_1 R (bs d) (p : Int) (!decide ((125 : UInt8) = 125)) [] w
      rw [decide_eq_true (rfl : (125 : UInt8) = 125)]
      have hdl : dateL L = if (unstampS (datesD L)).2 = true /\ datesD L ≠ List.replicate 8 32 then some (datesD L, 13) else none := by
        unfold dateL; rw [if_neg q, if_neg]
        rw [hgL, hgL, hgL, hx6, hx9, hx12, q2]
        simp; omega
      obtain ⟨hx, hlen8⟩ := digits_ext q1
      rw [← hL] at hx hlen8
      show F65_1 R (bs d) (p : Int) false [] w
      unfold F65_1
      rw [w2', w6', w7', w9', w10', w12']
      refine Br.f rfl (dwE_intro fun w3 hp3 _ => ?_)
      simp only [toNat_i]
      have hsz := bs_size d
      refine ⟨by omega, by omega, by omega, by omega, by omega, by omega, by omega, by omega, two_le (by rw [hsz]; exact hd) _ _ _ _, by omega, by omega, by omega, by omega, ?_, ?_⟩
      · exact three_le (by rw [hsz]; exact hd) _ _ _ _ _ _
      · rw [hx]
        refine (rUnstamp_c (bs (datesD L)) (by rw [bs_size]; omega) w3).mono ?_
        rintro e w4 ⟨rfl, hp4⟩
        rw [bs_list]
        have hP4 := hp3.trans hp4
        refine ⟨_, _, rfl, Br.of (fun q6 => ?_) (fun q6 => ?_)⟩
        · have q6 : (unstampS (datesD L)).2 = false := by simpa using q6
          refine hR _ _ ⟨hP4, ?_⟩
          unfold dateR; rw [hdl, if_neg (by rw [q6]; simp)]; rfl
        · have q6 : (unstampS (datesD L)).2 = true := by simpa using q6
          obtain ⟨y, hy⟩ := at_k (l := datesD L) (k := 0) (by omega)
          have hbl := unstamp_blank q6 hlen8
          have e32 : (((y.toNat : Nat) : Int) == 32) = decide (y = 32) := by
            rw [beq_dec]
            exact dec_eq ⟨fun h => UInt8.toNat_inj.1 (by show y.toNat = 32; omega), fun h => by rw [h]; rfl⟩
          refine ⟨y, by omega, bs_get hy, ?_⟩
          rw [e32]
          refine Br.of (fun q7 => hR _ _ ⟨hP4, ?_⟩) (fun q7 => hR _ _ ⟨hP4, ?_⟩)
          · have q7 := dtrue q7
            unfold dateR; rw [hdl, if_neg (fun h => h.2 (hbl.1 (by rw [hy, q7])))]; rfl
          · have q7 := dfalse q7
            unfold dateR; rw [hdl, if_pos ⟨q6, fun h => q7 (by have := hbl.2 h; rw [hy] at this; exact Option.some.inj this)⟩]; rfl
    · show F65_1 R (bs d) (p : Int) (!decide (x12 = 125)) [] w
      rw [decide_eq_false q5]
      exact no (Pu.refl w) q (.inr (.inr (.inr (.inr (by rw [hgL, hx12]; simpa using q5)))))
  unfold F65_3
  rw [w1', w2', bs_size_i]
  refine Br.of (fun q => ?_) (fun q => two ?_)
  · have q := dtrue q
    refine ⟨by omega, by rw [toNat_i, bs_size]; omega, by omega, by rw [toNat_i, toNat_i]; omega, ?_⟩
    rw [toNat_i, toNat_i, sub_ext (n := 2) (by omega), ← hL, show (⟨#[123, 125]⟩ : ByteArray) = bs [123, 125] from rfl, bs_beq]
    refine Br.of (fun q1 => hR _ _ ⟨Pu.refl w, ?_⟩) (fun q1 => two (dfalse q1))
    unfold dateR dateL; rw [if_pos (dtrue q1)]; rfl
  · have q := dfalse q
    intro h
    have := congrArg List.length h
    rw [List.length_take] at this; simp at this; omega
theorem badP_some {p : Nat} {c : List UInt8} {i : Nat} (h : badAt c = some i) : badP p c = ((p + i : Nat) : Int) := by unfold badP; rw [h]; rfl
theorem badP_none {p : Nat} {c : List UInt8} (h : badAt c = none) : badP p c = -1 := by unfold badP; rw [h]; rfl
theorem isB_quote {x : UInt8} (h : x.toNat = 34 ∨ x.toNat = 39) : isB x = true := by
  unfold isB; simp; omega
theorem quoted_c {q : UInt8} {r : List UInt8} (h : Rd w0 w b d p l (-1) s ts) (hc : ts.length <= 100000) (hd : d.drop p = q :: r) (hq : q.toNat = 34 ∨ q.toNat = 39) : Calls Tryz.prog 64 #[.pointer (some ⟨b, 0, none⟩)] w fun e w' => e = unitE /\ match quoteS q r with
    | .tok k t m => ∃ s', Rd w0 w' b d (p + 1 + m) true (-1) s' (ts ++ [⟨k, (p : Int), bs t⟩])
    | .bad i => ∃ p' l' s' ts', Rd w0 w' b d p' l' ((p + i : Nat) : Int) s' ts'
    | _ => False := by
  have hlim := h.lim
  have hdl : (d.drop p).length = r.length + 1 := by rw [hd]; rfl
  rw [List.length_drop] at hdl
  have hr : d.drop (p + 1) = r := by rw [← List.drop_drop, hd]; rfl
  have hgq : d[p]? = some q := by have := congrArg (·[0]?) hd; simpa [get_drop] using this
  obtain ⟨f, hf⟩ : ∃ f : UInt8 -> Bool, f = fun b => !nlB b && !decide (b = q) := ⟨_, rfl⟩
  obtain ⟨t, ht⟩ : ∃ t, t = r.takeWhile f := ⟨_, rfl⟩
  have htl : t.length <= r.length := by rw [ht]; exact tw_le _ r
  have htt : r.take t.length = t := by rw [ht]; exact tw_take _ r
  have hqs : quoteS q r = if r[t.length]? = some q then (match badAt t with
    | some i => .bad (i + 1)
    | none => .tok 2 t (t.length + 1)) else .bad 0 := by rw [ht, hf]; rfl
  rw [hqs]
  refine calls_by (F64_calls _ w) fun R hR => dwE_intro fun w1 hp1 _ => ?_
  have h1 := h.pu hp1
  refine ⟨_, h1.s_, _, h1.at_, q, by omega, by rw [toNat_i]; exact bs_get hgq, _, h1.at_, ?_⟩
  rw [wrap_in (n := (p : Int) + 1) (by omega) (by omega)]
  refine loopUp t.length (fun k n w' => n = ((p + 1 + k : Nat) : Int) /\ w' = w1) ⟨by omega, rfl⟩ ?_
  rintro k J n w2 hk ⟨rfl, rfl⟩ hJ
  have htest := head_test (f := f) (d := d) (p := p + 1) (k := k) (by rw [hr, ← ht]; exact hk)
  rw [hr, ← ht] at htest
  -- behind the text
  have fin : k = t.length -> F64_5 R (some ⟨b, 0, none⟩) ((p + 1 + k : Nat) : Int) [] w2 := fun hkt => by
    subst hkt
    have nothing : ¬ r[t.length]? = some q -> ∃ n67 : Int, w2.cell? ((⟨b, 0, none⟩ : Addr).add 1) = some (.int .i64 n67) /\ Calls Tryz.prog 60 #[.pointer (some ⟨b, 0, none⟩), .int .i64 n67] w2 fun e w12 => e = .returned (.tuple #[]) /\ R (.returned (.tuple #[])) w12 := fun hn => by
      rw [if_neg hn] at hR
      refine ⟨_, h1.at_, (fails_c h1 _).mono ?_⟩
      rintro e w3 ⟨rfl, h3⟩
      exact ⟨rfl, hR _ _ ⟨rfl, _, _, _, _, h3⟩⟩
    refine ⟨_, h1.s_, Br.of (fun q1 => nothing ?_) (fun q1 => ?_)⟩
    · have q1 := dtrue q1
      rw [bs_size_i] at q1
      rw [List.getElem?_eq_none (by omega)]; simp
    · have q1 := dfalse q1
      rw [bs_size_i] at q1
      obtain ⟨x, hx⟩ := at_k (l := d) (k := p + 1 + t.length) (by omega)
      have hxr : r[t.length]? = some x := by rw [← hr, get_drop]; exact hx
      have e10 : (((x.toNat : Nat) : Int) == 10) = nlB x := by rw [beq_dec]; unfold nlB; exact dec_eq (by omega)
      refine ⟨_, h1.s_, x, by omega, by rw [toNat_i]; exact bs_get hx, ?_⟩
      rw [e10]
      refine Br.of (fun q2 => nothing ?_) (fun q2 => ?_)
      · rw [hxr]; intro e; cases e; rw [quote_nl hq] at q2; cases q2
      · have hfx : f x = false := by
          rw [hx] at htest
          have htest : f x = decide (t.length < t.length) := htest
          rw [htest, decide_eq_false (Nat.lt_irrefl _)]
        have hxq : x = q := by
          rw [hf] at hfx
          simp [q2] at hfx; exact hfx
        subst hxq
        rw [if_pos hxr] at hR
        -- the bytes of the text
        refine ⟨_, h1.at_, ?_⟩
        have hall : (d.drop p).take (t.length + 1) = x :: t := by rw [hd, List.take_succ_cons, htt]
        refine loopUp (t.length + 1) (fun j n w' => n = ((p + j : Nat) : Int) /\ Rd w0 w' b d p l (badP p ((d.drop p).take j)) s ts) ⟨by omega, by rw [List.take_zero]; exact h1⟩ ?_
        rintro j J2 n w3 hj ⟨rfl, h3⟩ hJ2
        refine Br.of (fun q3 => ?_) (fun q3 => ?_)
        · have q3 := dtrue q3
          have hj2 : j < t.length + 1 := by omega
          obtain ⟨y, hy⟩ := at_k (l := d) (k := p + j) (by omega)
          have hsn := badP_snoc p ((d.drop p).take j) y
          have hlk : ((d.drop p).take j).length = j := by rw [List.length_take, List.length_drop]; omega
          rw [← take_drop_succ hy, hlk] at hsn
          refine ⟨_, h3.s_, y, by omega, by rw [toNat_i]; exact bs_get hy, (isByte_c y w3).mono ?_⟩
          rintro e w4 ⟨rfl, rfl⟩
          rw [wrap_in (by omega) (by omega)]
          refine ⟨_, rfl, Br.of (fun q4 => (fails_c h3 _).mono ?_) (fun q4 => hJ2 _ _ hj2 ⟨by omega, ?_⟩)⟩
          · have q4 : isB y = false := by simpa using q4
            rw [q4, if_neg (by simp)] at hsn
            rintro e w5 ⟨rfl, h5⟩
            exact ⟨rfl, hJ2 _ _ hj2 ⟨by omega, by rw [hsn]; exact h5⟩⟩
          · have q4 : isB y = true := by simpa using q4
            rw [q4, if_pos rfl] at hsn
            rw [hsn]; exact h3
        · have q3 := dfalse q3
          obtain rfl : j = t.length + 1 := by omega
          rw [hall] at h3
          have hbc := badAt_cons_ok (l := t) (isB_quote hq)
          refine dwE_intro fun w4 hp4 _ => ?_
          have h4 := h3.pu hp4
          refine ⟨_, h4.s_, _, h4.at_, ?_⟩
          rw [wrap_in (n := (p : Int) + 1) (by omega) (by omega)]
          have e1 : ((p : Int) + 1).toNat = p + 1 := by omega
          refine ⟨by omega, by rw [toNat_i, bs_size]; omega, by omega, by rw [e1, toNat_i]; omega, _, h4.at_, ?_⟩
          rw [e1, toNat_i, sub_ext (by omega), hr, htt]
          have e2 : IntKind.i64.wrap (IntKind.i64.wrap (((p + 1 + t.length : Nat) : Int) + 1) - (p : Int)) = ((t.length + 2 : Nat) : Int) := by
            rw [wrap_in (n := ((p + 1 + t.length : Nat) : Int) + 1) (by omega) (by omega), wrap_in (by omega) (by omega)]; omega
          have htlt := (List.getElem?_eq_some_iff.1 hxr).1
          rw [e2]
          refine (put_c h4 hc 2 (bs t) (n := t.length + 2) (by omega)).mono ?_
          rintro e w5 ⟨rfl, s', h5⟩
          refine ⟨rfl, ?_⟩
          cases hb : badAt t with
          | some i =>
            rw [hb] at hbc hR
            rw [badP_some (i := i + 1) (by rw [hbc]; rfl)] at h5
            exact hR _ _ ⟨rfl, _, _, _, _, h5⟩
          | none =>
            rw [hb] at hbc hR
            rw [badP_none (by rw [hbc]; rfl)] at h5
            exact hR _ _ ⟨rfl, s', by rw [show p + 1 + (t.length + 1) = p + (t.length + 2) by omega]; exact h5⟩
  refine ⟨_, h1.s_, Br.of (fun q1 => ?_) (fun q1 => fin ?_)⟩
  · have q1 := dtrue q1
    rw [bs_size_i] at q1
    obtain ⟨x, hx⟩ := at_k (l := d) (k := p + 1 + k) (by omega)
    rw [hx] at htest
    have htest : f x = decide (k < t.length) := htest
    have e10 : (((x.toNat : Nat) : Int) != 10) = !nlB x := by unfold bne; rw [beq_dec]; unfold nlB; congr 1; exact dec_eq (by omega)
    have eq' : (((x.toNat : Nat) : Int) != ((q.toNat : Nat) : Int)) = !decide (x = q) := by
      unfold bne; rw [beq_dec]; congr 1
      exact dec_eq ⟨fun h => UInt8.toNat_inj.1 (by omega), fun h => by rw [h]⟩
    have nofin : f x = false -> k = t.length := fun h9 => by rw [htest] at h9; have := dfalse h9; omega
    refine ⟨_, h1.s_, x, by omega, by rw [toNat_i]; exact bs_get hx, ?_⟩
    rw [e10]
    refine Br.of (fun q2 => ⟨_, h1.s_, x, by omega, by rw [toNat_i]; exact bs_get hx, ?_⟩) (fun q2 => fin (nofin ?_))
    · rw [eq']
      refine Br.of (fun q3 => ?_) (fun q3 => fin (nofin ?_))
      · have hfx : f x = true := by rw [hf]; show (!nlB x && !decide (x = q)) = true; rw [q2, q3]; rfl
        rw [htest] at hfx
        rw [wrap_in (by omega) (by omega)]
        exact hJ _ _ (dtrue hfx) ⟨by omega, rfl⟩
      · rw [hf]; show (!nlB x && !decide (x = q)) = false; rw [q3, Bool.and_false]
    · rw [hf]; show (!nlB x && !decide (x = q)) = false; rw [q2]; rfl
  · have q1 := dfalse q1
    rw [bs_size_i] at q1
    omega
end Go.Proofs.YtjbfehippchniaaGreatDoor

/- Lex: the reference's Lex gives the tokens that the source has. No condition. -/
set_option maxRecDepth 100000
set_option linter.unusedVariables false
set_option linter.unusedSimpArgs false
namespace Go.Proofs.YtjbfehippchniaaGreatDoor
open Go.Sh Go.Sh.Lx Go.RowKit
variable {w0 w w' : World} {b p : Nat} {d : List UInt8} {l : Bool} {bad : Int} {s : SV} {ts : List Tok}
def TokR (w0 : World) (b : Nat) (d : List UInt8) (p : Nat) (ts : List Tok) (w' : World) : Stp -> Prop
  | .tok k t m => ∃ s', Rd w0 w' b d (p + 1 + m) true (-1) s' (ts ++ [⟨k, (p : Int), bs t⟩])
  | .bad i => ∃ p' l' s' ts', Rd w0 w' b d p' l' ((p + i : Nat) : Int) s' ts'
  | _ => False
theorem rtoken_c {x : UInt8} {r : List UInt8} (h : Rd w0 w b d p l (-1) s ts) (hc : ts.length <= 100000) (hd : d.drop p = x :: r) : Calls Tryz.prog 35 #[.pointer (some ⟨b, 0, none⟩)] w fun e w' => e = unitE /\ TokR w0 b d p ts w' (tokS x r) := by
  have hlim := h.lim
  have hle := h.le
  have hdl : (d.drop p).length = r.length + 1 := by rw [hd]; rfl
  rw [List.length_drop] at hdl
  have hgx : d[p]? = some x := by have := congrArg (·[0]?) hd; simpa [get_drop] using this
  refine calls_by (F35_calls _ w) fun R hR => dwE_intro fun w1 hp1 _ => ?_
  have h1 := h.pu hp1
  refine ⟨_, h1.s_, _, h1.at_, x, by omega, by rw [toNat_i]; exact bs_get hgx, (isLetter_c x w1).mono ?_⟩
  rintro e w2 ⟨rfl, rfl⟩
  refine ⟨_, rfl, Br.of (fun ql => ?_) (fun ql => ?_)⟩
  · -- a word
    have hts : tokS x r = (let t := (x :: r).takeWhile fun c => letB c || digB c; if 24 < t.length then .bad 0 else .tok 0 (t.map capU) (t.length - 1)) := by unfold tokS; rw [if_pos ql]
    obtain ⟨f, hf⟩ : ∃ f : UInt8 -> Bool, f = fun c => letB c || digB c := ⟨_, rfl⟩
    obtain ⟨t, ht⟩ : ∃ t, t = (d.drop p).takeWhile f := ⟨_, rfl⟩
    have htl : 1 <= t.length := by rw [ht, hd]; exact tw_pos (by rw [hf]; simp [ql])
    have htle : p + t.length <= d.length := by rw [ht]; exact tw_drop_le f d p hle
    rw [hts, ← hd, ← hf, ← ht] at hR
    dsimp only at hR
    refine (run_c h1 true).mono ?_
    have ef : (fun c => digB c || (true && letB c)) = f := by rw [hf]; funext c; rw [Bool.true_and, Bool.or_comm]
    rw [ef, ← ht]
    rintro e w3 ⟨rfl, hp3⟩
    have h3 := h1.pu hp3
    refine ⟨_, rfl, Br.of (fun q => ?_) (fun q => ?_)⟩
    · have q := dtrue q
      rw [if_pos (by omega)] at hR
      refine ⟨_, h3.at_, (fails_c h3 _).mono ?_⟩
      rintro e w4 ⟨rfl, h4⟩
      exact ⟨rfl, hR _ _ ⟨rfl, _, _, _, _, h4⟩⟩
    · have q := dfalse q
      rw [if_neg (by omega)] at hR
      refine dwE_intro fun w4 hp4 _ => ?_
      have h4 := h3.pu hp4
      refine ⟨_, h4.s_, _, h4.at_, _, h4.at_, ?_⟩
      rw [wrap_in (n := (p : Int) + (t.length : Int)) (by omega) (by omega), show ((p : Int) + (t.length : Int)).toNat = p + t.length by omega]
      refine ⟨by omega, by rw [bs_size]; omega, by omega, by rw [toNat_i]; omega, ?_⟩
      rw [toNat_i, ht, ext_tw f d p hle, ← ht]
      refine (capitals_c t (by omega) w4).mono ?_
      rintro e w5 ⟨rfl, hp5⟩
      have h5 := h4.pu hp5
      refine ⟨_, rfl, (put_c h5 hc 0 (bs (t.map capU)) htle).mono ?_⟩
      rintro e w6 ⟨rfl, s', h6⟩
      exact ⟨rfl, hR _ _ ⟨rfl, s', by rw [show p + 1 + (t.length - 1) = p + t.length by omega]; exact h6⟩⟩
  refine (isDigit_c x w2).mono ?_
  rintro e w3 ⟨rfl, hp3⟩
  have h3 := h1.pu hp3
  refine ⟨_, rfl, Br.of (fun qd => ?_) (fun qd => ?_)⟩
  · -- a number
    have hts : tokS x r = (let t := (x :: r).takeWhile digB; if 15 < t.length then .bad 0 else .tok 1 t (t.length - 1)) := by unfold tokS; rw [if_neg (by rw [ql]; simp), if_pos qd]
    obtain ⟨t, ht⟩ : ∃ t, t = (d.drop p).takeWhile digB := ⟨_, rfl⟩
    have htl : 1 <= t.length := by rw [ht, hd]; exact tw_pos qd
    have htle : p + t.length <= d.length := by rw [ht]; exact tw_drop_le digB d p hle
    rw [hts, ← hd, ← ht] at hR
    dsimp only at hR
    refine (run_c h3 false).mono ?_
    have ef : (fun c => digB c || (false && letB c)) = digB := by funext c; rw [Bool.false_and, Bool.or_false]
    rw [ef, ← ht]
    rintro e w4 ⟨rfl, hp4⟩
    have h4 := h3.pu hp4
    refine ⟨_, rfl, Br.of (fun q => ?_) (fun q => ?_)⟩
    · have q := dtrue q
      rw [if_pos (by omega)] at hR
      refine ⟨_, h4.at_, (fails_c h4 _).mono ?_⟩
      rintro e w5 ⟨rfl, h5⟩
      exact ⟨rfl, hR _ _ ⟨rfl, _, _, _, _, h5⟩⟩
    · have q := dfalse q
      rw [if_neg (by omega)] at hR
      refine dwE_intro fun w5 hp5 _ => ?_
      have h5 := h4.pu hp5
      refine ⟨_, h5.s_, _, h5.at_, _, h5.at_, ?_⟩
      rw [wrap_in (n := (p : Int) + (t.length : Int)) (by omega) (by omega), show ((p : Int) + (t.length : Int)).toNat = p + t.length by omega]
      refine ⟨by omega, by rw [bs_size]; omega, by omega, by rw [toNat_i]; omega, ?_⟩
      rw [toNat_i, ht, ext_tw digB d p hle, ← ht]
      refine (put_c h5 hc 1 (bs t) htle).mono ?_
      rintro e w6 ⟨rfl, s', h6⟩
      exact ⟨rfl, hR _ _ ⟨rfl, s', by rw [show p + 1 + (t.length - 1) = p + t.length by omega]; exact h6⟩⟩
  · -- a text, a date, a sign
    have hnl : ¬ letB x = true := by rw [ql]; simp
    have hnd : ¬ digB x = true := by rw [qd]; simp
    have quoted : x.toNat = 34 ∨ x.toNat = 39 -> Calls Tryz.prog 64 #[.pointer (some ⟨b, 0, none⟩)] w3 fun e w27 => e = .returned (.tuple #[]) /\ R (.returned (.tuple #[])) w27 := fun hq => (quoted_c h3 hc hd hq).mono fun e w4 ⟨he, hres⟩ => by
      have hts : tokS x r = quoteS x r := by unfold tokS; rw [if_neg hnl, if_neg hnd, if_pos hq]
      rw [hts] at hR
      refine ⟨he, hR _ _ ⟨rfl, ?_⟩⟩
      cases hqs : quoteS x r with
      | go m => rw [hqs] at hres; exact hres.elim
      | eol => rw [hqs] at hres; exact hres.elim
      | tok k t m => rw [hqs] at hres; exact hres
      | bad i => rw [hqs] at hres; exact hres
    refine Br.of (fun q1 => quoted (.inl (by have := btrue q1; omega))) (fun q1 => Br.of (fun q2 => quoted (.inr (by have := btrue q2; omega))) (fun q2 => dwE_intro fun w4 hp4 _ => ?_))
    have hnq : ¬ (x.toNat = 34 ∨ x.toNat = 39) := by have := bfalse q1; have := bfalse q2; omega
    have hts : tokS x r = match dateL (d.drop p) with
        | some (dd, n) => .tok 3 dd (n - 1)
        | none => match signS (d.drop p) with
          | some w => .tok 4 w (w.length - 1)
          | none => .bad 0 := by
      rw [hd]; unfold tokS; rw [if_neg hnl, if_neg hnd, if_neg hnq]
      cases dateL (x :: r) with
      | none => cases signS (x :: r) <;> rfl
      | some y => obtain ⟨_, _⟩ := y; rfl
    rw [hts] at hR
    have h4 := h3.pu hp4
    refine ⟨_, h4.s_, _, h4.at_, (dateAt_c hlim hle w4).mono ?_⟩
    rintro e w5 ⟨hp5, rfl⟩
    have h5 := h4.pu hp5
    unfold dateR
    refine ⟨_, _, rfl, ?_⟩
    cases hdl2 : dateL (d.drop p) with
    | some pr =>
      obtain ⟨y, m⟩ := pr
      rw [hdl2] at hR
      have hm : 1 <= m /\ p + m <= d.length := by
        unfold dateL at hdl2
        split at hdl2
        · rename_i h2
          have hlen := congrArg List.length h2
          rw [List.length_take, List.length_drop] at hlen
          have : m = 2 := by simp at hdl2; omega
          simp at hlen; omega
        · split at hdl2
          · cases hdl2
          · rename_i h2
            split at hdl2
            · have : m = 13 := by simp at hdl2; omega
              rw [List.length_drop] at h2; omega
            · cases hdl2
      show Br (decide ((m : Int) > 0)) _ _
      refine Br.t (decide_eq_true (by omega)) ((put_c h5 hc 3 (bs y) hm.2).mono ?_)
      rintro e w6 ⟨rfl, s', h6⟩
      exact ⟨rfl, hR _ _ ⟨rfl, s', by rw [show p + 1 + (m - 1) = p + m by omega]; exact h6⟩⟩
    | none =>
      rw [hdl2] at hR
      refine Br.f (decide_eq_false (by show ¬ ((0 : Nat) : Int) > 0; omega)) (dwE_intro fun w6 hp6 _ => ?_)
      have h6 := h5.pu hp6
      refine ⟨_, h6.s_, _, h6.at_, (signAt_c hlim hle w6).mono ?_⟩
      rintro e w7 ⟨hp7, rfl⟩
      have h7 := h6.pu hp7
      refine ⟨_, rfl, ?_⟩
      rw [toList_nil, bs_size]
      cases hsg : signS (d.drop p) with
      | some y =>
        rw [hsg] at hR
        have hsg2 := hsg
        unfold signS at hsg2
        have hyl2 := (signs_len y (List.mem_of_find?_eq_some hsg2)).1
        have hyl : p + y.length <= d.length := by
          have h9 := List.find?_some hsg2
          have h8 := congrArg List.length (of_decide_eq_true h9)
          rw [List.length_map, List.length_take, List.length_drop] at h8; omega
        refine Br.f (decide_eq_false (by show ¬ y.length = 0; omega)) ?_
        show Calls Tryz.prog 62 #[.pointer (some ⟨b, 0, none⟩), .int .i64 4, .string (bs y), .int .i64 ((y.length : Nat) : Int)] w7 _
        refine (put_c h7 hc 4 (bs y) hyl).mono ?_
        rintro e w8 ⟨rfl, s', h8⟩
        exact ⟨rfl, hR _ _ ⟨rfl, s', by rw [show p + 1 + (y.length - 1) = p + y.length by omega]; exact h8⟩⟩
      | none =>
        rw [hsg] at hR
        refine Br.t (decide_eq_true rfl) ⟨_, h7.at_, (fails_c h7 _).mono ?_⟩
        rintro e w8 ⟨rfl, h8⟩
        exact ⟨rfl, hR _ _ ⟨rfl, _, _, _, _, h8⟩⟩
def Fst (d : List UInt8) (p : Nat) (l : Bool) : Prop := l = false -> (frontR d p = true ∨ (∃ x, d[p]? = some x /\ nlB x = true) ∨ p = d.length)
theorem front_succ {d : List UInt8} {p : Nat} {x : UInt8} (hx : d[p]? = some x) : frontR d (p + 1) = if blkB x then frontR d p else nlB x := by
  unfold frontR
  rw [take_at hx, List.reverse_append, List.reverse_singleton, List.singleton_append, List.dropWhile_cons]
  by_cases hb : blkB x = true
  · rw [if_pos hb, if_pos hb]
  · rw [if_neg hb, if_neg hb]
theorem front_nl {d : List UInt8} {p : Nat} {x : UInt8} (hx : d[p]? = some x) (hn : nlB x = true) : frontR d (p + 1) = true := by
  rw [front_succ hx]
  have : blkB x = false := by
    cases hb : blkB x with
    | false => rfl
    | true => have := (blk_isB hb).2; rw [hn] at this; cases this
  rw [this, if_neg (by simp)]; exact hn
theorem lnN_end (d : List UInt8) (p : Nat) (hp : p <= d.length) : (∃ x, d[p + lnN (d.drop p)]? = some x /\ nlB x = true) ∨ p + lnN (d.drop p) = d.length := by
  have hle := lnN_le (d.drop p)
  rw [List.length_drop] at hle
  by_cases h : p + lnN (d.drop p) < d.length
  · left
    obtain ⟨x, hx⟩ := at_k h
    refine ⟨x, hx, ?_⟩
    have := tw_end (f := fun b => !nlB b) (l := d.drop p) (x := x) (by rw [get_drop]; exact hx)
    simpa using this
  · right; omega
def StpR (w0 : World) (b : Nat) (d : List UInt8) (p : Nat) (l : Bool) (s : SV) (ts : List Tok) (w' : World) : Stp -> Prop
  | .go m => Rd w0 w' b d (p + 1 + m) l (-1) s ts
  | .eol => ∃ s', Rd w0 w' b d (p + 1) false (-1) s' (ts ++ if l then [endT p] else [])
  | .tok k t m => ∃ s', Rd w0 w' b d (p + 1 + m) true (-1) s' (ts ++ [⟨k, (p : Int), bs t⟩])
  | .bad i => ∃ p' l' s' ts', Rd w0 w' b d p' l' ((p + i : Nat) : Int) s' ts'
theorem lnN_line (d : List UInt8) (p : Nat) : (d.drop p).take (lnN (d.drop p)) = lineOf (d.drop p) := tw_take _ _
theorem com_r {x : UInt8} {r : List UInt8} (h : Rd w0 w b d p l (-1) s ts) (hd : d.drop p = x :: r) (h1 : nlB x = false) (h2 : blkB x = false) (h3 : (ampB (x :: r) || (decide (x.toNat = 42) && !l)) = true) {R : Rt} (hR : ∀ e w', (e = unitE /\ StpR w0 b d p l s ts w' (stepS x r l)) -> R e w') :
    ∃ n58 : Int, w.cell? ((⟨b, 0, none⟩ : Addr).add 1) = some (.int .i64 n58) /\ Calls Tryz.prog 33 #[.pointer (some ⟨b, 0, none⟩), .int .i64 n58] w fun e w13 => ∃ n59 : Int, e = .returned (.int .i64 n59) /\
      Calls Tryz.prog 32 #[.pointer (some ⟨b, 0, none⟩), .int .i64 n59] w13 fun e w14 => e = .returned (.tuple #[]) /\ R (.returned (.tuple #[])) w14 := by
  have hln := lnN_le (d.drop p)
  rw [List.length_drop] at hln
  have hle := h.le
  have hpos : 1 <= lnN (d.drop p) := by rw [hd]; unfold lnN lineOf; rw [List.takeWhile_cons, h1]; simp
  refine ⟨_, h.at_, (rend_c h hle).mono ?_⟩
  rintro e w2 ⟨rfl, rfl⟩
  refine ⟨_, rfl, (skips_c h (n := lnN (d.drop p)) (by omega)).mono ?_⟩
  rintro e w3 ⟨rfl, h3'⟩
  rw [lnN_line] at h3'
  refine ⟨rfl, hR _ _ ⟨rfl, ?_⟩⟩
  rw [step_com h1 h2 h3, ← hd]
  cases hb : badAt (lineOf (d.drop p)) with
  | some i => rw [badP_some hb] at h3'; exact ⟨_, _, _, _, h3'⟩
  | none =>
    rw [badP_none hb] at h3'
    show Rd w0 w3 b d (p + 1 + (lnN (d.drop p) - 1)) l (-1) s ts
    rw [show p + 1 + (lnN (d.drop p) - 1) = p + lnN (d.drop p) by omega]; exact h3'
def rsRest (R : Rt) (p0 : Option Addr) (n2 : Int) (w : World) : Prop :=
  Br (n2 == 59) (
  Calls Tryz.prog 34 #[.pointer p0] w fun e w16 =>
  ∃ b66 : Bool, e = .returned (.bool b66) /\
  Br b66 (
  ptrE p0 fun a17 =>
  ∃ n71 : Int, w16.cell? (a17.add 1) = some (.int .i64 n71) /\
  ptrE p0 fun a18 =>
  st1 (a18.add 1) (.int .i64 (IntKind.i64.wrap (n71 + 1))) w16 fun w19 =>
  ptrE p0 fun a20 =>
  ∃ n79 : Int, w19.cell? (a20.add 1) = some (.int .i64 n79) /\
  Calls Tryz.prog 33 #[.pointer p0, .int .i64 n79] w19 fun e w21 =>
  ∃ n80 : Int, e = .returned (.int .i64 n80) /\
  Calls Tryz.prog 32 #[.pointer p0, .int .i64 n80] w21 fun e w22 =>
  e = .returned (.tuple #[]) /\
  dwE w22 fun w23 =>
  ptrE p0 fun a24 =>
  ∃ n87 : Int, w23.cell? (a24.add 1) = some (.int .i64 n87) /\
  ptrE p0 fun a25 =>
  ∃ s91 : ByteArray, w23.cell? a25 = some (.string s91) /\
  Br (decide (n87 < ((s91.size : Nat) : Int))) (
  ptrE p0 fun a26 =>
  ∃ n97 : Int, w23.cell? (a26.add 1) = some (.int .i64 n97) /\
  ptrE p0 fun a27 =>
  st1 (a27.add 1) (.int .i64 (IntKind.i64.wrap (n97 + 1))) w23 fun w28 =>
  runD Tryz.prog [] w28 fun w29 =>
  R (.returned (.tuple #[])) w29) (
  runD Tryz.prog [] w23 fun w30 =>
  R (.returned (.tuple #[])) w30)) (
  Calls Tryz.prog 35 #[.pointer p0] w16 fun e w31 =>
  e = .returned (.tuple #[]) /\
  runD Tryz.prog [] w31 fun w32 =>
  R (.returned (.tuple #[])) w32)) (
  Calls Tryz.prog 35 #[.pointer p0] w fun e w33 =>
  e = .returned (.tuple #[]) /\
  runD Tryz.prog [] w33 fun w34 =>
  R (.returned (.tuple #[])) w34)
theorem rest_r {x : UInt8} {r : List UInt8} (h : Rd w0 w b d p l (-1) s ts) (hc : ts.length <= 100000) (hd : d.drop p = x :: r) (h1 : nlB x = false) (h2 : blkB x = false) (h3 : (ampB (x :: r) || (decide (x.toNat = 42) && !l)) = false) {R : Rt} (hR : ∀ e w', (e = unitE /\ StpR w0 b d p l s ts w' (stepS x r l)) -> R e w') :
    rsRest R (some ⟨b, 0, none⟩) ((x.toNat : Nat) : Int) w := by
  have hlim := h.lim
  have hle := h.le
  have hdl : (d.drop p).length = r.length + 1 := by rw [hd]; rfl
  rw [List.length_drop] at hdl
  have hr : d.drop (p + 1) = r := by rw [← List.drop_drop, hd]; rfl
  have hln := lnN_le r
  have tok : (decide (x.toNat = 59) && goesB r) = false -> Calls Tryz.prog 35 #[.pointer (some ⟨b, 0, none⟩)] w fun e w31 => e = .returned (.tuple #[]) /\ R (.returned (.tuple #[])) w31 := fun h4 => (rtoken_c h hc hd).mono fun e w2 ⟨he, hres⟩ => ⟨he, hR _ _ ⟨rfl, by
    rw [step_tok h1 h2 h3 h4]
    cases ht : tokS x r with
    | go m => rw [ht] at hres; exact hres.elim
    | eol => rw [ht] at hres; exact hres.elim
    | tok k t m => rw [ht] at hres; exact hres
    | bad i => rw [ht] at hres; exact hres⟩⟩
  refine Br.of (fun q => (goesOn_c h hd).mono ?_) (fun q => tok (by rw [decide_eq_false (show ¬ x.toNat = 59 by have := bfalse q; omega)]; rfl))
  have hx : x.toNat = 59 := by have := btrue q; omega
  rintro e w2 ⟨rfl, rfl⟩
  refine ⟨_, rfl, Br.of (fun qg => ?_) (fun qg => tok (by rw [qg, Bool.and_false]))⟩
  refine ⟨_, h.at_, h.st_at (p' := p + 1) (by omega) (by rw [wrap_in (by omega) (by omega)]; omega) fun w3 h3' => ⟨_, h3'.at_, (rend_c h3' h3'.le).mono ?_⟩⟩
  rintro e w4 ⟨rfl, rfl⟩
  rw [hr]
  refine ⟨_, rfl, (skips_c h3' (n := lnN r) (by omega)).mono ?_⟩
  rintro e w5 ⟨rfl, h5⟩
  rw [hr, show r.take (lnN r) = lineOf r from tw_take _ r] at h5
  refine ⟨rfl, dwE_intro fun w6 hp6 _ => ?_⟩
  have h6 := h5.pu hp6
  have hst := step_semi (line := l) h1 h2 h3 (by rw [qg, decide_eq_true hx]; rfl)
  rw [hst] at hR
  -- how it ends
  have fin : ∀ {w7 : World}, Rd w0 w7 b d (p + 1 + goN r) l (badP (p + 1) (lineOf r)) s ts -> R (.returned (.tuple #[])) w7 := fun {w7} h7 => hR _ _ ⟨rfl, by
    cases hb : badAt (lineOf r) with
    | some i => rw [badP_some hb] at h7; exact ⟨_, _, _, _, by rw [show p + (i + 1) = p + 1 + i by omega]; exact h7⟩
    | none => rw [badP_none hb] at h7; exact h7⟩
  refine ⟨_, h6.at_, _, h6.s_, Br.of (fun q2 => ?_) (fun q2 => fin ?_)⟩
  · have q2 := dtrue q2
    rw [bs_size_i] at q2
    refine ⟨_, h6.at_, h6.st_at (p' := p + 1 + goN r) (by have := goN_le r; omega) ?_ fun w7 h7 => fin h7⟩
    rw [wrap_in (by omega) (by omega)]
    unfold goN; rw [if_pos (by omega)]; omega
  · have q2 := dfalse q2
    rw [bs_size_i] at q2
    have : goN r = lnN r := by unfold goN; rw [if_neg (by omega)]
    rw [this]; exact h6
theorem step_c {x : UInt8} {r : List UInt8} (h : Rd w0 w b d p l (-1) s ts) (hc : ts.length <= 100000) (hf : Fst d p l) (hd : d.drop p = x :: r) : Calls Tryz.prog 15 #[.pointer (some ⟨b, 0, none⟩)] w fun e w' => e = unitE /\ StpR w0 b d p l s ts w' (stepS x r l) := by
  have hlim := h.lim
  have hdl : (d.drop p).length = r.length + 1 := by rw [hd]; rfl
  rw [List.length_drop] at hdl
  have hgx : d[p]? = some x := by have := congrArg (·[0]?) hd; simpa [get_drop] using this
  refine calls_by (F15_calls _ w) fun R hR => dwE_intro fun w1 hp1 _ => ?_
  have h1 := h.pu hp1
  refine ⟨_, h1.s_, _, h1.at_, x, by omega, by rw [toNat_i]; exact bs_get hgx, ?_⟩
  refine Br.of (fun q => ?_) (fun q => (isBlank_c x w1).mono ?_)
  · have hnl : nlB x = true := by unfold nlB; exact decide_eq_true (by have := btrue q; omega)
    rw [step_eol hnl] at hR
    refine (ends_c h1 hc).mono ?_
    rintro e w2 ⟨rfl, s', h2⟩
    exact ⟨rfl, _, h2.at_, h2.st_at (p' := p + 1) (by omega) (by rw [wrap_in (by omega) (by omega)]; omega) fun w3 h3 => hR _ _ ⟨rfl, s', h3⟩⟩
  have hnl : nlB x = false := by unfold nlB; exact decide_eq_false (by have := bfalse q; omega)
  rintro e w2 ⟨rfl, rfl⟩
  refine ⟨_, rfl, Br.of (fun qb => ?_) (fun qb => (isComment_c h1 hd).mono ?_)⟩
  · rw [step_blk qb] at hR
    exact ⟨_, h1.at_, h1.st_at (p' := p + 1) (by omega) (by rw [wrap_in (by omega) (by omega)]; omega) fun w3 h3 => hR _ _ ⟨rfl, h3⟩⟩
  rintro e w3 ⟨rfl, h3⟩
  refine ⟨_, rfl, Br.of (fun qa => Br.t qa (com_r h3 hd hnl qb (by rw [qa]; rfl) hR)) (fun qa => Br.of (fun q42 => ?_) (fun q42 => rest_r h3 hc hd hnl qb ?_ hR))⟩
  · have hx : x.toNat = 42 := by have := btrue q42; omega
    refine ⟨_, h3.ln, Br.of (fun ql => (first_c h3).mono ?_) (fun ql => rest_r h3 hc hd hnl qb ?_ hR)⟩
    · have ql : l = false := by simpa using ql
      have hfr : frontR d p = true := by
        rcases hf ql with h9 | ⟨y, hy, hn⟩ | h9
        · exact h9
        · rw [hgx] at hy; cases hy; rw [hnl] at hn; cases hn
        · omega
      rintro e w4 ⟨rfl, rfl⟩
      exact ⟨_, rfl, Br.t hfr (com_r h3 hd hnl qb (by rw [qa, ql, decide_eq_true hx]; rfl) hR)⟩
    · have ql : l = true := by simpa using ql
      rw [qa, ql]; simp
  · rw [qa, decide_eq_false (show ¬ x.toNat = 42 by have := bfalse q42; omega)]; rfl
theorem Fst.go {x : UInt8} {r : List UInt8} {m : Nat} (hf : Fst d p l) (hp : p <= d.length) (hd : d.drop p = x :: r) (hs : stepS x r l = .go m) : Fst d (p + 1 + m) l := fun hl => by
  have hgx : d[p]? = some x := by have := congrArg (·[0]?) hd; simpa [get_drop] using this
  have hdl : (d.drop p).length = r.length + 1 := by rw [hd]; rfl
  rw [List.length_drop] at hdl
  have hr : d.drop (p + 1) = r := by rw [← List.drop_drop, hd]; rfl
  unfold stepS at hs
  split at hs
  · cases hs
  · rename_i hnl
    split at hs
    · rename_i hb
      have : m = 0 := by cases hs; rfl
      subst this
      rw [Nat.add_zero, front_succ hgx, if_pos hb]
      rcases hf hl with h9 | ⟨y, hy, hn⟩ | h9
      · exact .inl h9
      · rw [hgx] at hy; cases hy; exact absurd hn hnl
      · omega
    · split at hs
      · rw [← hd] at hs
        split at hs
        · cases hs
        · have hm : (lineOf (d.drop p)).length - 1 = m := by cases hs; rfl
          have hpos : 1 <= (lineOf (d.drop p)).length := by
            rw [hd]; unfold lineOf; rw [List.takeWhile_cons]
            have : nlB x = false := by simpa using hnl
            rw [this]; simp
          have e : p + 1 + m = p + lnN (d.drop p) := by unfold lnN; omega
          rw [e]
          rcases lnN_end d p hp with h9 | h9
          · exact .inr (.inl h9)
          · exact .inr (.inr h9)
      · split at hs
        · split at hs
          · cases hs
          · have hm : goN r = m := by cases hs; rfl
            rw [← hm]
            have hE := lnN_end d (p + 1) (by omega)
            rw [hr] at hE
            unfold goN
            split
            · rename_i hlt
              rcases hE with ⟨y, hy, hn⟩ | h9
              · rw [← Nat.add_assoc]; exact .inl (front_nl hy hn)
              · omega
            · rename_i hlt
              have := lnN_le r
              exact .inr (.inr (by omega))
        · have := tokS_in (x := x) (r := r)
          rw [hs] at this; exact this.elim
theorem rlex_c {w0 : World} (d : List UInt8) (hd : d.length <= 9223372036854775807) : Calls Tryz.prog 8 #[.string (bs d)] w0 fun e w' => Pu w0 w' /\ ∃ s : SV, e = .returned (.tuple #[.slice s.a s.len s.cap, .int .i64 (lexF d).2.1, .int .i64 (lexF d).2.2]) /\ RdSl w' s (lexF d).1 := by
  refine calls_by (F8_calls _ w0) fun R hR => Br.of (fun q => ?_) (fun q => ?_)
  · have q := dtrue q
    rw [bs_size_i] at q
    refine hR _ _ ⟨Pu.refl _, ⟨none, 0, 0⟩, ?_, ?_⟩
    · unfold lexF; rw [if_pos (by omega)]
    · unfold lexF; rw [if_pos (by omega)]; exact RdSl.nil _ _ _
  have q := dfalse q
  rw [bs_size_i] at q
  have hdl : d.length <= 4000 := by omega
  obtain ⟨hbT, hbN, hbI⟩ := lexS_bounds d.length d 0 false (Nat.le_refl _)
  have hlF : lexF d = match (lexS d 0 false).2 with
      | some i => ([], (i : Int), 2)
      | none => if 1200 < (lexS d 0 false).1.length then ([], 0, 3) else ((lexS d 0 false).1, ((lexS d 0 false).1.length : Int), 0) := by unfold lexF; rw [if_neg (by omega)]; cases (lexS d 0 false).2 <;> rfl
  refine alB fun w1 hp1 hb1 => ?_
  obtain ⟨b, hb⟩ : ∃ b, b = w0.heap.size := ⟨_, rfl⟩
  rw [← hb] at hb1 ⊢
  have h1 : Rd w0 w1 b d 0 false (-1) ⟨none, 0, 0⟩ [] := ⟨hp1, by omega, hb1, RowAt.nil _ _ _, fun k hk => by simp [blkOf] at hk, Nat.zero_le _, hdl⟩
  -- what is wrong
  have wrong : ∀ {w2 : World} {p' : Nat} {l' : Bool} {i : Nat} {s' : SV} {ts' : List Tok}, Rd w0 w2 b d p' l' (i : Int) s' ts' -> (lexS d 0 false).2 = some i -> F8_1 R (some ⟨b, 0, none⟩) [] w2 := fun {w2 p' l' i s' ts'} h2 hi => by
    refine ⟨_, h2.bd, Br.t (decide_eq_true (by omega)) (dwE_intro fun w3 hp3 _ => ⟨_, (h2.pu hp3).bd, hR _ _ ⟨(h2.pu hp3).since, ⟨none, 0, 0⟩, ?_, ?_⟩⟩)⟩
    · rw [hlF, hi]
    · rw [hlF, hi]; exact RdSl.nil _ _ _
  refine loopDown (d.length + 1) (fun n _ w' => (∃ p l s ts, n + p = d.length + 1 /\ Rd w0 w' b d p l (-1) s ts /\ Fst d p l /\ ts.length <= p /\ (lexS d 0 false).1 = ts ++ (lexS (d.drop p) p l).1 /\ (lexS d 0 false).2 = (lexS (d.drop p) p l).2) ∨
      (n = 0 /\ ∃ p' l' i s' ts', Rd w0 w' b d p' l' ((i : Nat) : Int) s' ts' /\ (lexS d 0 false).2 = some i)) (.inl ⟨0, false, _, _, by omega, h1, fun _ => .inl rfl, Nat.le_refl _, rfl, rfl⟩) ?_
  rintro n J _ w2 hI hJ
  rcases hI with ⟨p, l, s, ts, hn, h2, hf, hc, hl1, hl2⟩ | ⟨_, p', l', i, s', ts', h2, hi⟩
  · have hle := h2.le
    refine ⟨_, h2.at_, Br.of (fun q1 => ?_) (fun q1 => ?_)⟩
    · have q1 := dtrue q1
      rw [bs_size_i] at q1
      obtain ⟨x, hx⟩ := at_k (l := d) (k := p) (by omega)
      have hdx : d.drop p = x :: d.drop (p + 1) := drop_at hx
      refine ⟨_, h2.bd, Br.t (by decide) ((step_c h2 (by omega) hf hdx).mono ?_)⟩
      rintro e w3 ⟨rfl, hres⟩
      refine ⟨rfl, ?_⟩
      have hlen := List.length_drop (i := p + 1) (l := d)
      cases hs : stepS x (d.drop (p + 1)) l with
      | go m =>
        rw [hs] at hres
        have hm := stepS_go hs
        rw [hlen] at hm
        have hL := lexS_go hs p
        refine hJ (n - 1 - m) _ _ (by omega) (.inl ⟨_, _, _, _, by omega, hres, hf.go hle hdx hs, by omega, ?_, ?_⟩)
        · rw [hl1, hdx, hL, List.drop_drop]
        · rw [hl2, hdx, hL, List.drop_drop]
      | eol =>
        rw [hs] at hres
        obtain ⟨s', h3⟩ := hres
        have hL := lexS_eol hs p
        have hnl : nlB x = true := by
          unfold stepS at hs
          split at hs
          · assumption
          · split at hs
            · cases hs
            · split at hs
              · split at hs <;> cases hs
              · split at hs
                · split at hs <;> cases hs
                · have := tokS_in (x := x) (r := d.drop (p + 1))
                  rw [hs] at this; exact this.elim
        refine hJ (n - 1) _ _ (by omega) (.inl ⟨_, _, _, _, by omega, h3, fun _ => .inl (front_nl hx hnl), ?_, ?_, ?_⟩)
        · rw [List.length_append]; cases l <;> simp <;> omega
        · rw [hl1, hdx, hL, List.append_assoc]
        · rw [hl2, hdx, hL]
      | tok k t m =>
        rw [hs] at hres
        obtain ⟨s', h3⟩ := hres
        have hm := (stepS_tok hs).1
        rw [hlen] at hm
        have hL := lexS_tok hs p
        refine hJ (n - 1 - m) _ _ (by omega) (.inl ⟨_, _, _, _, by omega, h3, fun h9 => (by cases h9), ?_, ?_, ?_⟩)
        · rw [List.length_append]; simp; omega
        · rw [hl1, hdx, hL, List.drop_drop, List.append_assoc]; rfl
        · rw [hl2, hdx, hL, List.drop_drop]
      | bad i =>
        rw [hs] at hres
        obtain ⟨p', l', s', ts', h3⟩ := hres
        have hL := lexS_bad hs p
        exact hJ 0 _ _ (by omega) (.inr ⟨rfl, _, _, _, _, _, h3, by rw [hl2, hdx, hL]⟩)
    · have q1 := dfalse q1
      rw [bs_size_i] at q1
      have hnil : d.drop p = [] := List.drop_eq_nil_of_le (by omega)
      rw [hnil, lexS_nil] at hl1 hl2
      refine ⟨_, h2.bd, Br.f (by decide) ((ends_c h2 (by omega)).mono ?_)⟩
      rintro e w3 ⟨rfl, s', h3⟩
      have hl2 : (lexS d 0 false).2 = none := hl2
      rw [hl2] at hlF
      rw [← hl1] at h3
      have hrd := rd_toks h3.row (fun t ht => by
        obtain ⟨a, b', c, e⟩ := hbT t ht
        exact ⟨⟨by omega, by omega⟩, by omega, by omega⟩) (by omega)
      refine ⟨rfl, _, h3.out, Br.of (fun q2 => ?_) (fun q2 => dwE_intro fun w4 hp4 _ => ?_)⟩
      · have q2 := dtrue q2
        rw [hrd.len] at q2
        refine hR _ _ ⟨h3.since, ⟨none, 0, 0⟩, ?_, ?_⟩
        · rw [hlF]; dsimp only; rw [if_pos (by omega)]
        · rw [hlF]; dsimp only; rw [if_pos (by omega)]; exact RdSl.nil _ _ _
      · have q2 := dfalse q2
        rw [hrd.len] at q2
        have h4 := h3.pu hp4
        refine ⟨_, h4.out, _, h4.out, hR _ _ ⟨h4.since, s', ?_, ?_⟩⟩
        · rw [hlF]; dsimp only; rw [if_neg (by omega), hrd.len]
        · rw [hlF]; dsimp only; rw [if_neg (by omega)]; exact hrd.pu hp4
  · refine ⟨_, h2.at_, Br.of (fun q1 => ⟨_, h2.bd, Br.f (decide_eq_false (by omega)) (wrong h2 hi)⟩) (fun q1 => wrong h2 hi)⟩
end Go.Proofs.YtjbfehippchniaaGreatDoor

/- Lex: tokens that are the same, and their text, as both packages tell. No condition but those stated. -/
set_option maxRecDepth 100000
set_option linter.unusedVariables false
set_option linter.unusedSimpArgs false
namespace Go.Proofs.YtjbfehippchniaaGreatDoor
open Go.Sh Go.Sh.Lx Go.RowKit
variable {w0 w w' : World}
theorem fnE_mk (f : FuncId) (a b : Array Value) (K : FuncId -> Array Value -> Array Value -> Prop) : fnE (.func (.func f) a b) K = K f a b := rfl
theorem RdSl.tok {s : SV} {l : List Tok} (h : RdSl w s l) {i : Nat} {t : Tok} (hx : l[i]? = some t) : ∃ a, s.a = some a /\ (0 : Int) <= (i : Int) /\ (i : Int) < ((s.len : Nat) : Int) /\
    w.cell? (a.add (((i : Int)).toNat * 3)) = some (.int .i64 t.kind) /\ w.cell? ((a.add (((i : Int)).toNat * 3)).add 0) = some (.int .i64 t.kind) /\ w.cell? ((a.add (((i : Int)).toNat * 3)).add 1) = some (.int .i64 t.at_) /\ w.cell? ((a.add (((i : Int)).toNat * 3)).add 2) = some (.string t.text) := by
  obtain ⟨a, ha, hi, _, _, h0, h1, h2⟩ := tokAt h hx
  rw [toNat_i]
  exact ⟨a, ha, by omega, by omega, by rw [← add0 (a.add _)]; exact h0, h0, h1, h2⟩
end Go.Proofs.YtjbfehippchniaaGreatDoor

/- Lex: the text of tokens, as both packages make it. No condition but those stated. -/
set_option maxRecDepth 100000
set_option linter.unusedVariables false
set_option linter.unusedSimpArgs false
namespace Go.Proofs.YtjbfehippchniaaGreatDoor
open Go.Sh Go.Sh.Lx Go.RowKit
variable {w0 w w' : World}
theorem text_bs (s : ByteArray) : ∃ l, s = bs l /\ s.data.toList = l := ⟨s.data.toList, (list_bs s).symm, rfl⟩
theorem contains_index (l : List UInt8) (c : UInt8) : decide (0 <= Lib.indexByte l c) = l.contains c := by
  rw [indexByte_tw]
  by_cases h : (l.takeWhile fun b => !decide (b = c)).length < l.length
  · rw [if_pos h, decide_eq_true (by omega)]
    obtain ⟨x, hx⟩ := at_k h
    have h2 := tw_end (f := fun b => !decide (b = c)) hx
    have h3 : x = c := by simpa using h2
    have : c ∈ l := by rw [← h3]; exact List.mem_of_getElem? hx
    exact (by simpa using this)
  · rw [if_neg h, decide_eq_false (by omega)]
    symm
    have hle := tw_le (fun b => !decide (b = c)) l
    have hall : ∀ x ∈ l, x ≠ c := fun x hx e => by
      obtain ⟨j, hj⟩ := List.mem_iff_getElem?.1 hx
      have hjl := (List.getElem?_eq_some_iff.1 hj).1
      obtain ⟨y, hy, hf⟩ := tw_lt (f := fun b => !decide (b = c)) (l := l) (k := j) (by omega)
      rw [hj] at hy; cases hy
      rw [e] at hf; simp at hf
    simp only [List.contains_eq_mem, decide_eq_false_iff_not]
    intro hm; exact hall c hm rfl
theorem quote_c (l : List UInt8) (w : World) : Calls Tryz.prog 36 #[.string (bs l), .string (⟨#[34]⟩ : ByteArray)] w fun e w' => e = .returned (.bool (l.contains 34)) /\ w' = w := by
  refine (Any.strings_Contains_one Tryz.lays144 (bs l) 34 w).mono ?_
  rintro e w' ⟨rfl, rfl⟩
  rw [bs_list, contains_index]; exact ⟨rfl, rfl⟩
theorem cat_bs (a b : List UInt8) : ((bs a).size + (bs b).size : Nat) = a.length + b.length := by rw [bs_size, bs_size]
theorem date_text {x : List UInt8} (h8 : x.length = 8) : (((((((⟨#[123, 94]⟩ : ByteArray) ++ ((bs x).extract 0 ((4 : Int).toNat))) ++ (⟨#[45]⟩ : ByteArray)) ++ ((bs x).extract ((4 : Int).toNat) ((6 : Int).toNat))) ++ (⟨#[45]⟩ : ByteArray)) ++ ((bs x).extract ((6 : Int).toNat) (bs x).size)) ++ (⟨#[125]⟩ : ByteArray)) =
    bs ([123, 94] ++ x.take 4 ++ [45] ++ (x.drop 4).take 2 ++ [45] ++ x.drop 6 ++ [125]) := by
  have e1 : (⟨#[123, 94]⟩ : ByteArray) = bs [123, 94] := rfl
  have e2 : (⟨#[45]⟩ : ByteArray) = bs [45] := rfl
  have e3 : (⟨#[125]⟩ : ByteArray) = bs [125] := rfl
  have i4 : (4 : Int).toNat = 4 := rfl
  have i6 : (6 : Int).toNat = 6 := rfl
  rw [e1, e2, e3, i4, i6, extract_take, extract_take, extract_drop, List.drop_zero, List.drop_take, bs_append, bs_append, bs_append, bs_append, bs_append, bs_append]
theorem date_sizes {x : List UInt8} (h8 : x.length = 8) :
    (((⟨#[123, 94]⟩ : ByteArray).size + ((bs x).extract 0 ((4 : Int).toNat)).size : Nat) : Int) <= 9223372036854775807 /\
    ((((⟨#[123, 94]⟩ : ByteArray) ++ ((bs x).extract 0 ((4 : Int).toNat))).size + (⟨#[45]⟩ : ByteArray).size : Nat) : Int) <= 9223372036854775807 /\
    (((((⟨#[123, 94]⟩ : ByteArray) ++ ((bs x).extract 0 ((4 : Int).toNat))) ++ (⟨#[45]⟩ : ByteArray)).size + ((bs x).extract ((4 : Int).toNat) ((6 : Int).toNat)).size : Nat) : Int) <= 9223372036854775807 /\
    ((((((⟨#[123, 94]⟩ : ByteArray) ++ ((bs x).extract 0 ((4 : Int).toNat))) ++ (⟨#[45]⟩ : ByteArray)) ++ ((bs x).extract ((4 : Int).toNat) ((6 : Int).toNat))).size + (⟨#[45]⟩ : ByteArray).size : Nat) : Int) <= 9223372036854775807 /\
    (((((((⟨#[123, 94]⟩ : ByteArray) ++ ((bs x).extract 0 ((4 : Int).toNat))) ++ (⟨#[45]⟩ : ByteArray)) ++ ((bs x).extract ((4 : Int).toNat) ((6 : Int).toNat))) ++ (⟨#[45]⟩ : ByteArray)).size + ((bs x).extract ((6 : Int).toNat) (bs x).size).size : Nat) : Int) <= 9223372036854775807 /\
    ((((((((⟨#[123, 94]⟩ : ByteArray) ++ ((bs x).extract 0 ((4 : Int).toNat))) ++ (⟨#[45]⟩ : ByteArray)) ++ ((bs x).extract ((4 : Int).toNat) ((6 : Int).toNat))) ++ (⟨#[45]⟩ : ByteArray)) ++ ((bs x).extract ((6 : Int).toNat) (bs x).size)).size + (⟨#[125]⟩ : ByteArray).size : Nat) : Int) <= 9223372036854775807 := by
  have e1 : (⟨#[123, 94]⟩ : ByteArray) = bs [123, 94] := rfl
  have e2 : (⟨#[45]⟩ : ByteArray) = bs [45] := rfl
  have e3 : (⟨#[125]⟩ : ByteArray) = bs [125] := rfl
  have i4 : (4 : Int).toNat = 4 := rfl
  have i6 : (6 : Int).toNat = 6 := rfl
  rw [e1, e2, e3, i4, i6, extract_take, extract_take, extract_drop, List.drop_zero, List.drop_take, bs_append, bs_append, bs_append, bs_append, bs_append]
  simp only [cat_bs, List.length_append, List.length_take, List.length_drop, List.length_cons, List.length_nil, h8]
  omega
theorem quoted_cat (q : UInt8) (x : List UInt8) : ((⟨#[q]⟩ : ByteArray) ++ bs x) ++ (⟨#[q]⟩ : ByteArray) = bs (q :: (x ++ [q])) := by
  have e : (⟨#[q]⟩ : ByteArray) = bs [q] := rfl
  rw [e, bs_append, bs_append]; rfl
theorem cat1_le (a c : UInt8) (x : List UInt8) (hx : x.length <= 140737488355328) : (((⟨#[a]⟩ : ByteArray).size + (bs x).size : Nat) : Int) <= 9223372036854775807 /\ ((((⟨#[a]⟩ : ByteArray) ++ bs x).size + (⟨#[c]⟩ : ByteArray).size : Nat) : Int) <= 9223372036854775807 := by
  have e : (⟨#[a]⟩ : ByteArray) = bs [a] := rfl
  have e2 : (⟨#[c]⟩ : ByteArray) = bs [c] := rfl
  rw [e, e2, bs_append, cat_bs, cat_bs]
  simp only [List.length_append, List.length_cons, List.length_nil]
  omega
end Go.Proofs.YtjbfehippchniaaGreatDoor

/- Lex: the text of tokens, and the source that is made of them, as both packages make it. The signs: what the library's tables of letters and of bytes lay. -/
set_option maxRecDepth 100000
set_option linter.unusedVariables false
set_option linter.unusedSimpArgs false
namespace Go.Proofs.YtjbfehippchniaaGreatDoor
open Go.Sh Go.Sh.Lx Go.RowKit
variable {w0 w w' : World}
abbrev Bld (b : Nat) (acc : List UInt8) (w : World) : Prop := Lib.IsBuilderF 59 5 b b (Lib.byteCells acc) w
theorem Bld.pu {b : Nat} {acc : List UInt8} (h : Bld b acc w) (hp : Pu w w') : Bld b acc w' := by
  have one : ∀ {p}, Lib.BuilderAtF 59 5 b b p (Lib.byteCells acc) w -> Lib.BuilderAtF 59 5 b b p (Lib.byteCells acc) w' := by
    rintro p ⟨hB, v, hb, ⟨hl, ho⟩, hne⟩
    refine ⟨hB, v, hp.blk hb, ⟨hl, ?_⟩, hne⟩
    rcases ho with ho | ⟨g, cap, cur, fz, h1, h2, h3, h4⟩
    · exact .inl ho
    · exact .inr ⟨g, cap, cur, fz, h1, h2, hp.blk h3, h4⟩
  exact h.elim (fun h => .inl (one h)) (fun h => .inr (one h))
theorem Bld.new {b : Nat} (hb : w.heap[b]? = some (.cells #[.pointer none, .slice none 0 0] 59)) : Bld b [] w :=
  .inl ⟨Nat.le_refl _, .slice none 0 0, hb, ⟨rfl, .inl ⟨rfl, rfl⟩⟩, by simp [Value.ownBlock]⟩
theorem Pu.low {b : Nat} (h : Pu w0 w) (hb : w0.heap.size <= b) (k : Below b w w') : Pu w0 w' := Below.trans h (k.mono hb)
def texts (l : List Tok) : Prop := ∀ t ∈ l, t.text.size <= 140737488355328
end Go.Proofs.YtjbfehippchniaaGreatDoor

/- Lex: the source that the statements look at first: its tokens, and the source of these. The signs: the library's tables of letters and of bytes. -/
set_option maxRecDepth 100000
set_option linter.unusedVariables false
set_option linter.unusedSimpArgs false
namespace Go.Proofs.YtjbfehippchniaaGreatDoor
open Go.Sh Go.Sh.Lx Go.RowKit
variable {w0 w w' : World}
def lexN : Nat -> List UInt8 -> Nat -> Bool -> Option LexOut
  | 0, _, _, _ => none
  | _ + 1, [], p, line => some (if line then [endT p] else [], none)
  | n + 1, b :: r, p, line => match stepS b r line with
    | .go m => lexN n (r.drop m) (p + 1 + m) line
    | .eol => (lexN n r (p + 1) false).map fun o => ((if line then [endT p] else []) ++ o.1, o.2)
    | .tok k t m => (lexN n (r.drop m) (p + 1 + m) true).map fun o => (⟨k, (p : Int), bs t⟩ :: o.1, o.2)
    | .bad i => some ([], some (p + i))
end Go.Proofs.YtjbfehippchniaaGreatDoor
