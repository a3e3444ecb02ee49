import Derived.Test.YtecmfdfhpldmmaaGreatDoorTbOwC
import Derived.Test.YtecmfdfhpldmmaaGreatDoorTbPrB
/- Table: the program's reading of a row's bytes. No condition. -/
set_option maxRecDepth 100000
set_option maxHeartbeats 2000000
set_option linter.unusedVariables false
set_option linter.unusedSimpArgs false
namespace Go.Proofs.YtecmfdfhpldmmaaGreatDoor
open Go.Sh Go.RowKit
def appV (l83 : SV) (p6 : Option Addr) (c : Array Value) (K : World -> Prop) (w : World) : Prop :=
  alE (.cells c 25) w fun r85 w23 => ∃ l86 : SV, ∃ w24 : World, (Builtin.append_ #[44, 44] 44 #[.slice l83.a l83.len l83.cap, .slice (some ⟨r85, 0, none⟩) 1 1]).run Tryz.prog w23 = .ok (.slice l86.a l86.len l86.cap) w24 /\
  ptrE p6 fun a25 => st1 (a25.add 1) (.slice l86.a l86.len l86.cap) w24 fun w26 => K w26
def pushR (p6 : Option Addr) (r14 : Nat) (K : World -> Prop) (w : World) : Prop :=
  ptrE p6 fun a22 => ∃ l83 : SV, w.cell? (a22.add 1) = some (.slice l83.a l83.len l83.cap) /\
  ∃ n84_0 : Int, w.cell? ((⟨r14, 0, none⟩ : Addr).add 0) = some (.int .i64 n84_0) /\
  ∃ n84_1 : Int, w.cell? ((⟨r14, 0, none⟩ : Addr).add 1) = some (.int .i64 n84_1) /\
  ∃ s84_2 : ByteArray, w.cell? ((⟨r14, 0, none⟩ : Addr).add 2) = some (.string s84_2) /\
  appV l83 p6 #[.int .i64 n84_0, .int .i64 n84_1, .string s84_2] K w
structure RecSt (w0 wr : World) (r4 r6 : Nat) (g : Bool) (vs : List Val) (w : World) : Prop where
  ex : ∃ q : SV, w.heap[r6]? = some (.cells #[.bool g, .slice q.a q.len q.cap] 46) /\ NewV wr w q vs
  b4 : w.heap[r4]? = some (.cells #[.bool false, .slice none 0 0] 46)
  sz : wr.heap.size <= w.heap.size
  pu : Pu w0 w
  l4 : r4 < wr.heap.size
  l6 : r6 < wr.heap.size
  ne : r4 ≠ r6
  z4 : w0.heap.size <= r4
  z6 : w0.heap.size <= r6
theorem RecSt.on {w0 wr w w' : World} {r4 r6 : Nat} {g : Bool} {vs : List Val} (h : RecSt w0 wr r4 r6 g vs w) (hp : Pu w w') : RecSt w0 wr r4 r6 g vs w' := by
  obtain ⟨q, h1, h2⟩ := h.ex
  exact ⟨⟨q, hp.blk h1, h2.pu hp⟩, hp.blk h.b4, Nat.le_trans h.sz hp.size, h.pu.trans hp, h.l4, h.l6, h.ne, h.z4, h.z6⟩
theorem appV_c {w0 wr w : World} {r4 r6 : Nat} {g : Bool} {vs : List Val} (h : RecSt w0 wr r4 r6 g vs w) {q : SV} (h6 : w.heap[r6]? = some (.cells #[.bool g, .slice q.a q.len q.cap] 46)) (hq : NewV wr w q vs) {v : Val} {c : Array Value} (hc : c = #[.int .i64 v.kind, .int .i64 v.n, .string v.s]) (hl : vs.length <= 1000000) {K : World -> Prop}
    (hK : ∀ w', RecSt w0 wr r4 r6 g (vs ++ [v]) w' -> K w') : appV q (some ⟨r6, 0, none⟩) c K w := by
  refine alB fun w1 hp1 hb1 => ?_
  have h1 := h.on hp1
  have z1 := hp1.size
  have z := h.sz
  obtain ⟨q', w2, e2, r2, f2⟩ := (hq.pu hp1).push (by omega) hb1 hc hl
  have n6 : ¬ r6 ∈ blkOf q := fun hc => by have := hq.2 _ hc; have := h.l6; omega
  have n4 : ¬ r4 ∈ blkOf q := fun hc => by have := hq.2 _ hc; have := h.l4; omega
  have b6 := f2.blk (hp1.blk h6) n6
  have b4 := f2.blk h1.b4 n4
  refine ⟨q', w2, e2, st1_intro (o := 1) b6 (by simp) fun wx ex hbx => ?_⟩
  have fx : Fr (· = r6) w2 wx := by rw [ex]; exact Fr.cell w2 _ _ _
  have zx : wx.heap.size = w2.heap.size := by rw [ex]; simp
  have z2 := f2.size
  have h46 := h.ne
  have hz6 := h.z6
  have hl6 := h.l6
  have hl4 := h.l4
  have hz4 := h.z4
  refine hK wx ⟨⟨q', hbx, r2.fr fx fun i hi => by have := r2.2 i hi; omega⟩, fx.blk b4 (by omega), by omega, ?_, h.l4, h.l6, h.ne, h.z4, h.z6⟩
  have p2 : Pu w0 w2 := h1.pu.andNew f2 fun i hi => by have := hq.2 i hi; omega
  exact p2.andNew fx fun i hi => by omega
theorem pushR_c {w0 wr w : World} {r4 r6 r14 : Nat} {g : Bool} {vs : List Val} (h : RecSt w0 wr r4 r6 g vs w) {v : Val} (hv : w.heap[r14]? = some (.cells #[.int .i64 v.kind, .int .i64 v.n, .string v.s] 25)) (hl : vs.length <= 1000000) {K : World -> Prop}
    (hK : ∀ w', RecSt w0 wr r4 r6 g (vs ++ [v]) w' -> K w') : pushR (some ⟨r6, 0, none⟩) r14 K w := by
  obtain ⟨q, h6, hq⟩ := h.ex
  exact ⟨q, cl h6 1, _, cl hv 0, _, cl hv 1, _, cl hv 2, appV_c h h6 hq rfl hl hK⟩
def rdTail (K : Bool -> World -> Prop) (p6 : Option Addr) (b9 ok : Bool) (r14 : Nat) (w : World) : Prop := Br b9 (pushR p6 r14 (K ok) w) (pushR p6 r14 (K false) w)
def rdRegion (K : Bool -> World -> Prop) (p6 : Option Addr) (b9 : Bool) (r11 : Nat) (l40 : SV) (w9 : World) : Prop :=
  dwE w9 fun w16 =>
  ∃ S1 : World -> Prop, S1 w16 /\
  ∃ n70 : Int, (∀ w', S1 w' -> w'.cell? ((⟨r11, 0, none⟩ : Addr).add 1) = some (.int .i64 n70)) /\
  (
  Calls Tryz.prog 89 #[] w16 fun e w17 =>
  ∃ m68 : Option Nat, e = .returned (.map m68) /\
  ∃ S2 : World -> Prop, S2 w17 /\ (∀ u, S2 u -> S1 u) /\
  ∃ n71_0 : Int, ∃ n71_1 : Int, ∃ n71_2 : Int, ∃ v71_3 : Value, ∃ v71_4 : Value, (∀ w', S2 w' -> (Instr.lookup 104 (.map m68) (.int .i64 n70) false).run Tryz.prog w' = .ok (.agg #[.int .u8 n71_0, .int .i64 n71_1, .int .i64 n71_2, v71_3, v71_4]) w') /\
  (
  ∃ s74 : ByteArray, ∃ w18 : World, (convert 37 9 (.slice l40.a l40.len l40.cap)).run Tryz.prog w17 = .ok (.string s74) w18 /\
  ∃ S3 : World -> Prop, S3 w18 /\ (∀ u, S3 u -> S2 u) /\
  (
  fnE v71_4 fun f75 first75 cap75 =>
  hasBody Tryz.prog f75 = true /\ Calls Tryz.prog f75 (first75.toList ++ (([.string s74] : List Value) ++ cap75.toList)).toArray w18 fun e w19 =>
  ∃ n75_0_0 : Int, ∃ n75_0_1 : Int, ∃ s75_0_2 : ByteArray, ∃ b75_1 : Bool, e = .returned (.tuple #[.agg #[.int .i64 n75_0_0, .int .i64 n75_0_1, .string s75_0_2], .bool b75_1]) /\
  alE (.cells #[.int .i64 0, .int .i64 0, .string (⟨#[]⟩ : ByteArray)] 25) w19 fun r14 w20 =>
  stA Tryz.prog 25 (⟨r14, 0, none⟩ : Addr) #[.int .i64 n75_0_0, .int .i64 n75_0_1, .string s75_0_2] w20 fun w21 =>
  rdTail K p6 b9 b75_1 r14 w21) /\ (
  alE (.cells #[.int .i64 0, .int .i64 0, .string (⟨#[]⟩ : ByteArray)] 25) w18 fun r14 w32 =>
  ∃ S4 : World -> Prop, S4 w32 /\ (∀ u, S4 u -> S3 u) /\
  fnE v71_4 fun f75 first75 cap75 =>
  hasBody Tryz.prog f75 = true /\ Calls Tryz.prog f75 (first75.toList ++ (([.string s74] : List Value) ++ cap75.toList)).toArray w32 fun e w33 =>
  ∃ n75_0_0 : Int, ∃ n75_0_1 : Int, ∃ s75_0_2 : ByteArray, ∃ b75_1 : Bool, e = .returned (.tuple #[.agg #[.int .i64 n75_0_0, .int .i64 n75_0_1, .string s75_0_2], .bool b75_1]) /\
  stA Tryz.prog 25 (⟨r14, 0, none⟩ : Addr) #[.int .i64 n75_0_0, .int .i64 n75_0_1, .string s75_0_2] w33 fun w34 =>
  rdTail K p6 b9 b75_1 r14 w34)) /\ (
  alE (.cells #[.int .i64 0, .int .i64 0, .string (⟨#[]⟩ : ByteArray)] 25) w17 fun r14 w45 =>
  ∃ S5 : World -> Prop, S5 w45 /\ (∀ u, S5 u -> S2 u) /\
  ∃ s74 : ByteArray, ∃ w46 : World, (convert 37 9 (.slice l40.a l40.len l40.cap)).run Tryz.prog w45 = .ok (.string s74) w46 /\
  ∃ S6 : World -> Prop, S6 w46 /\ (∀ u, S6 u -> S5 u) /\
  fnE v71_4 fun f75 first75 cap75 =>
  hasBody Tryz.prog f75 = true /\ Calls Tryz.prog f75 (first75.toList ++ (([.string s74] : List Value) ++ cap75.toList)).toArray w46 fun e w47 =>
  ∃ n75_0_0 : Int, ∃ n75_0_1 : Int, ∃ s75_0_2 : ByteArray, ∃ b75_1 : Bool, e = .returned (.tuple #[.agg #[.int .i64 n75_0_0, .int .i64 n75_0_1, .string s75_0_2], .bool b75_1]) /\
  stA Tryz.prog 25 (⟨r14, 0, none⟩ : Addr) #[.int .i64 n75_0_0, .int .i64 n75_0_1, .string s75_0_2] w47 fun w48 =>
  rdTail K p6 b9 b75_1 r14 w48)) /\ (
  (
  ∃ s74 : ByteArray, ∃ w59 : World, (convert 37 9 (.slice l40.a l40.len l40.cap)).run Tryz.prog w16 = .ok (.string s74) w59 /\
  ∃ S7 : World -> Prop, S7 w59 /\ (∀ u, S7 u -> S1 u) /\
  (
  Calls Tryz.prog 89 #[] w59 fun e w60 =>
  ∃ m68 : Option Nat, e = .returned (.map m68) /\
  ∃ S8 : World -> Prop, S8 w60 /\ (∀ u, S8 u -> S7 u) /\
  ∃ n71_0 : Int, ∃ n71_1 : Int, ∃ n71_2 : Int, ∃ v71_3 : Value, ∃ v71_4 : Value, (∀ w', S8 w' -> (Instr.lookup 104 (.map m68) (.int .i64 n70) false).run Tryz.prog w' = .ok (.agg #[.int .u8 n71_0, .int .i64 n71_1, .int .i64 n71_2, v71_3, v71_4]) w') /\
  (
  fnE v71_4 fun f75 first75 cap75 =>
  hasBody Tryz.prog f75 = true /\ Calls Tryz.prog f75 (first75.toList ++ (([.string s74] : List Value) ++ cap75.toList)).toArray w60 fun e w61 =>
  ∃ n75_0_0 : Int, ∃ n75_0_1 : Int, ∃ s75_0_2 : ByteArray, ∃ b75_1 : Bool, e = .returned (.tuple #[.agg #[.int .i64 n75_0_0, .int .i64 n75_0_1, .string s75_0_2], .bool b75_1]) /\
  alE (.cells #[.int .i64 0, .int .i64 0, .string (⟨#[]⟩ : ByteArray)] 25) w61 fun r14 w62 =>
  stA Tryz.prog 25 (⟨r14, 0, none⟩ : Addr) #[.int .i64 n75_0_0, .int .i64 n75_0_1, .string s75_0_2] w62 fun w63 =>
  rdTail K p6 b9 b75_1 r14 w63) /\ (
  alE (.cells #[.int .i64 0, .int .i64 0, .string (⟨#[]⟩ : ByteArray)] 25) w60 fun r14 w74 =>
  ∃ S9 : World -> Prop, S9 w74 /\ (∀ u, S9 u -> S8 u) /\
  fnE v71_4 fun f75 first75 cap75 =>
  hasBody Tryz.prog f75 = true /\ Calls Tryz.prog f75 (first75.toList ++ (([.string s74] : List Value) ++ cap75.toList)).toArray w74 fun e w75 =>
  ∃ n75_0_0 : Int, ∃ n75_0_1 : Int, ∃ s75_0_2 : ByteArray, ∃ b75_1 : Bool, e = .returned (.tuple #[.agg #[.int .i64 n75_0_0, .int .i64 n75_0_1, .string s75_0_2], .bool b75_1]) /\
  stA Tryz.prog 25 (⟨r14, 0, none⟩ : Addr) #[.int .i64 n75_0_0, .int .i64 n75_0_1, .string s75_0_2] w75 fun w76 =>
  rdTail K p6 b9 b75_1 r14 w76)) /\ (
  alE (.cells #[.int .i64 0, .int .i64 0, .string (⟨#[]⟩ : ByteArray)] 25) w59 fun r14 w87 =>
  ∃ S10 : World -> Prop, S10 w87 /\ (∀ u, S10 u -> S7 u) /\
  Calls Tryz.prog 89 #[] w87 fun e w88 =>
  ∃ m68 : Option Nat, e = .returned (.map m68) /\
  ∃ S11 : World -> Prop, S11 w88 /\ (∀ u, S11 u -> S10 u) /\
  ∃ n71_0 : Int, ∃ n71_1 : Int, ∃ n71_2 : Int, ∃ v71_3 : Value, ∃ v71_4 : Value, (∀ w', S11 w' -> (Instr.lookup 104 (.map m68) (.int .i64 n70) false).run Tryz.prog w' = .ok (.agg #[.int .u8 n71_0, .int .i64 n71_1, .int .i64 n71_2, v71_3, v71_4]) w') /\
  fnE v71_4 fun f75 first75 cap75 =>
  hasBody Tryz.prog f75 = true /\ Calls Tryz.prog f75 (first75.toList ++ (([.string s74] : List Value) ++ cap75.toList)).toArray w88 fun e w89 =>
  ∃ n75_0_0 : Int, ∃ n75_0_1 : Int, ∃ s75_0_2 : ByteArray, ∃ b75_1 : Bool, e = .returned (.tuple #[.agg #[.int .i64 n75_0_0, .int .i64 n75_0_1, .string s75_0_2], .bool b75_1]) /\
  stA Tryz.prog 25 (⟨r14, 0, none⟩ : Addr) #[.int .i64 n75_0_0, .int .i64 n75_0_1, .string s75_0_2] w89 fun w90 =>
  rdTail K p6 b9 b75_1 r14 w90)) /\ (
  alE (.cells #[.int .i64 0, .int .i64 0, .string (⟨#[]⟩ : ByteArray)] 25) w16 fun r14 w101 =>
  ∃ S12 : World -> Prop, S12 w101 /\ (∀ u, S12 u -> S1 u) /\
  (
  Calls Tryz.prog 89 #[] w101 fun e w102 =>
  ∃ m68 : Option Nat, e = .returned (.map m68) /\
  ∃ S13 : World -> Prop, S13 w102 /\ (∀ u, S13 u -> S12 u) /\
  ∃ n71_0 : Int, ∃ n71_1 : Int, ∃ n71_2 : Int, ∃ v71_3 : Value, ∃ v71_4 : Value, (∀ w', S13 w' -> (Instr.lookup 104 (.map m68) (.int .i64 n70) false).run Tryz.prog w' = .ok (.agg #[.int .u8 n71_0, .int .i64 n71_1, .int .i64 n71_2, v71_3, v71_4]) w') /\
  ∃ s74 : ByteArray, ∃ w103 : World, (convert 37 9 (.slice l40.a l40.len l40.cap)).run Tryz.prog w102 = .ok (.string s74) w103 /\
  ∃ S14 : World -> Prop, S14 w103 /\ (∀ u, S14 u -> S13 u) /\
  fnE v71_4 fun f75 first75 cap75 =>
  hasBody Tryz.prog f75 = true /\ Calls Tryz.prog f75 (first75.toList ++ (([.string s74] : List Value) ++ cap75.toList)).toArray w103 fun e w104 =>
  ∃ n75_0_0 : Int, ∃ n75_0_1 : Int, ∃ s75_0_2 : ByteArray, ∃ b75_1 : Bool, e = .returned (.tuple #[.agg #[.int .i64 n75_0_0, .int .i64 n75_0_1, .string s75_0_2], .bool b75_1]) /\
  stA Tryz.prog 25 (⟨r14, 0, none⟩ : Addr) #[.int .i64 n75_0_0, .int .i64 n75_0_1, .string s75_0_2] w104 fun w105 =>
  rdTail K p6 b9 b75_1 r14 w105) /\ (
  ∃ s74 : ByteArray, ∃ w116 : World, (convert 37 9 (.slice l40.a l40.len l40.cap)).run Tryz.prog w101 = .ok (.string s74) w116 /\
  ∃ S15 : World -> Prop, S15 w116 /\ (∀ u, S15 u -> S12 u) /\
  Calls Tryz.prog 89 #[] w116 fun e w117 =>
  ∃ m68 : Option Nat, e = .returned (.map m68) /\
  ∃ S16 : World -> Prop, S16 w117 /\ (∀ u, S16 u -> S15 u) /\
  ∃ n71_0 : Int, ∃ n71_1 : Int, ∃ n71_2 : Int, ∃ v71_3 : Value, ∃ v71_4 : Value, (∀ w', S16 w' -> (Instr.lookup 104 (.map m68) (.int .i64 n70) false).run Tryz.prog w' = .ok (.agg #[.int .u8 n71_0, .int .i64 n71_1, .int .i64 n71_2, v71_3, v71_4]) w') /\
  fnE v71_4 fun f75 first75 cap75 =>
  hasBody Tryz.prog f75 = true /\ Calls Tryz.prog f75 (first75.toList ++ (([.string s74] : List Value) ++ cap75.toList)).toArray w117 fun e w118 =>
  ∃ n75_0_0 : Int, ∃ n75_0_1 : Int, ∃ s75_0_2 : ByteArray, ∃ b75_1 : Bool, e = .returned (.tuple #[.agg #[.int .i64 n75_0_0, .int .i64 n75_0_1, .string s75_0_2], .bool b75_1]) /\
  stA Tryz.prog 25 (⟨r14, 0, none⟩ : Addr) #[.int .i64 n75_0_0, .int .i64 n75_0_1, .string s75_0_2] w118 fun w119 =>
  rdTail K p6 b9 b75_1 r14 w119)))
theorem rdRegion_c {K : Bool -> World -> Prop} {p6 : Option Addr} {b9 : Bool} {r11 : Nat} {l40 : SV} {w9 : World} {f : Fld} {part : List UInt8} (hb : w9.heap[r11]? = some (.cells #[.string f.name, .int .i64 f.kind, .int .i64 f.width, .bool f.null] 23)) (hf : fieldB f = true) (hl : ByV w9 l40 part)
    (tail : ∀ (wz : World) (r14 : Nat), Pu w9 wz -> wz.heap[r14]? = some (.cells #[.int .i64 (readS f.kind part).kind, .int .i64 (readS f.kind part).n, .string (readS f.kind part).s] 25) -> rdTail K p6 b9 (okS f.kind part) r14 wz) : rdRegion K p6 b9 r11 l40 w9 := by
  obtain ⟨R5, hk5, hbody, hcall0⟩ := reader_c hf
  have hsz : (bs part).size <= 140737488355328 := by rw [bs_size, ← hl.len]; exact hl.lim
  have hcall : ∀ w, Calls Tryz.prog R5.rd #[.string (bs part)] w fun e w' => e = .returned (.tuple #[valA (readS f.kind part), .bool (okS f.kind part)]) /\ Pu w w' := fun w => by
    have := hcall0 (bs part) hsz w
    rw [bs_list] at this; exact this
  have kin : ∀ wz, Calls Tryz.prog 89 #[] wz fun e w' => ∃ m : Nat, e = .returned (.map (some m)) /\ (∀ u, Pu w' u -> (Instr.lookup 104 (.map (some m)) (.int .i64 f.kind) false).run Tryz.prog u = .ok (.agg #[.int .u8 R5.letter, .int .i64 R5.least, .int .i64 R5.most, .func (.func R5.wr) #[] #[], .func (.func R5.rd) #[] #[]]) u) /\ Pu wz w' := fun wz => by
    refine (kinds_c wz).mono ?_
    rintro e w' ⟨m, rfl, hm, _, hp⟩
    refine ⟨m, rfl, fun u hu => ?_, hp⟩
    have := kind_look (hm.pu hu) f.kind false
    rw [hk5] at this; exact this
  have conv : ∀ {wz}, Pu w9 wz -> (convert 37 9 (.slice l40.a l40.len l40.cap)).run Tryz.prog wz = .ok (.string (bs part)) wz := fun {wz} h => conv_by (hl.pu h)
  -- the call, then the variable
  have ca : ∀ {wz : World}, Pu w9 wz -> Calls Tryz.prog R5.rd #[.string (bs part)] wz fun e w19 => ∃ n75_0_0 : Int, ∃ n75_0_1 : Int, ∃ s75_0_2 : ByteArray, ∃ b75_1 : Bool, e = .returned (.tuple #[.agg #[.int .i64 n75_0_0, .int .i64 n75_0_1, .string s75_0_2], .bool b75_1]) /\
      alE (.cells #[.int .i64 0, .int .i64 0, .string (⟨#[]⟩ : ByteArray)] 25) w19 fun r14 w20 => stA Tryz.prog 25 (⟨r14, 0, none⟩ : Addr) #[.int .i64 n75_0_0, .int .i64 n75_0_1, .string s75_0_2] w20 fun w21 => rdTail K p6 b9 b75_1 r14 w21 := fun {wz} hz => by
    refine (hcall wz).mono ?_
    rintro e w1 ⟨rfl, hp1⟩
    exact ⟨_, _, _, _, rfl, boxA rfl s25.symm rfl fun w2 hp2 hs2 hb2 => tail w2 _ ((hz.trans hp1).trans hp2) hb2⟩
  -- the call, behind the variable
  have ac : ∀ {wz : World} {r14 : Nat}, Pu w9 wz -> wz.heap[r14]? = some (.cells #[.int .i64 0, .int .i64 0, .string (⟨#[]⟩ : ByteArray)] 25) -> w9.heap.size <= r14 -> Calls Tryz.prog R5.rd #[.string (bs part)] wz fun e w19 => ∃ n75_0_0 : Int, ∃ n75_0_1 : Int, ∃ s75_0_2 : ByteArray, ∃ b75_1 : Bool, e = .returned (.tuple #[.agg #[.int .i64 n75_0_0, .int .i64 n75_0_1, .string s75_0_2], .bool b75_1]) /\
      stA Tryz.prog 25 (⟨r14, 0, none⟩ : Addr) #[.int .i64 n75_0_0, .int .i64 n75_0_1, .string s75_0_2] w19 fun w21 => rdTail K p6 b9 b75_1 r14 w21 := fun {wz r14} hz hb14 hr => by
    refine (hcall wz).mono ?_
    rintro e w1 ⟨rfl, hp1⟩
    exact ⟨_, _, _, _, rfl, stA_fill (hp1.blk hb14) s25.symm rfl rfl fun w2 hb2 hf2 hs2 => tail w2 _ ((hz.trans hp1).andNew hf2 fun i hi => by omega) hb2⟩
  refine dwE_intro fun w16 hp16 _ => ⟨fun u => Pu w16 u, Pu.refl _, f.kind, fun u hu => cl (hu.blk (hp16.blk hb)) 1, (kin w16).mono ?_, ?_, alB fun w2 hp2 hb2 => ?_⟩
  · rintro e w1 ⟨m, rfl, hm, hp1⟩
    have q1 := hp16.trans hp1
    refine ⟨some m, rfl, fun u => Pu w1 u, Pu.refl _, fun u hu => hp1.trans hu, _, _, _, _, _, hm, ⟨bs part, w1, conv q1, fun u => Pu w1 u, Pu.refl _, fun u hu => hu, ⟨hbody, ca q1⟩, alB fun w2 hp2 hb2 => ⟨fun u => Pu w2 u, Pu.refl _, fun u hu => hp2.trans hu, hbody, ac (q1.trans hp2) hb2 q1.size⟩⟩, alB fun w2 hp2 hb2 => ?_⟩
    exact ⟨fun u => Pu w2 u, Pu.refl _, fun u hu => hp2.trans hu, bs part, w2, conv (q1.trans hp2), fun u => Pu w2 u, Pu.refl _, fun u hu => hu, hbody, ac (q1.trans hp2) hb2 q1.size⟩
  · refine ⟨bs part, w16, conv hp16, fun u => Pu w16 u, Pu.refl _, fun u hu => hu, (kin w16).mono ?_, alB fun w2 hp2 hb2 => ?_⟩
    · rintro e w1 ⟨m, rfl, hm, hp1⟩
      have q1 := hp16.trans hp1
      exact ⟨some m, rfl, fun u => Pu w1 u, Pu.refl _, fun u hu => hp1.trans hu, _, _, _, _, _, hm, ⟨hbody, ca q1⟩, alB fun w2 hp2 hb2 => ⟨fun u => Pu w2 u, Pu.refl _, fun u hu => hp2.trans hu, hbody, ac (q1.trans hp2) hb2 q1.size⟩⟩
    · refine ⟨fun u => Pu w2 u, Pu.refl _, fun u hu => hp2.trans hu, (kin w2).mono ?_⟩
      rintro e w1 ⟨m, rfl, hm, hp1⟩
      exact ⟨some m, rfl, fun u => Pu w1 u, Pu.refl _, fun u hu => hp1.trans hu, _, _, _, _, _, hm, hbody, ac ((hp16.trans hp2).trans hp1) (hp1.blk hb2) hp16.size⟩
  · refine ⟨fun u => Pu w2 u, Pu.refl _, fun u hu => hp2.trans hu, (kin w2).mono ?_, bs part, w2, conv (hp16.trans hp2), fun u => Pu w2 u, Pu.refl _, fun u hu => hu, (kin w2).mono ?_⟩
    · rintro e w1 ⟨m, rfl, hm, hp1⟩
      exact ⟨some m, rfl, fun u => Pu w1 u, Pu.refl _, fun u hu => hp1.trans hu, _, _, _, _, _, hm, bs part, w1, conv ((hp16.trans hp2).trans hp1), fun u => Pu w1 u, Pu.refl _, fun u hu => hu, hbody, ac ((hp16.trans hp2).trans hp1) (hp1.blk hb2) hp16.size⟩
    · rintro e w1 ⟨m, rfl, hm, hp1⟩
      exact ⟨some m, rfl, fun u => Pu w1 u, Pu.refl _, fun u hu => hp1.trans hu, _, _, _, _, _, hm, hbody, ac ((hp16.trans hp2).trans hp1) (hp1.blk hb2) hp16.size⟩
theorem readRow_c {w : World} {l : List Fld} {s t : SV} {d : List UInt8} (h : RdSl w s l) (hall : l.all fieldB = true) (h16 : l.length <= 16) (ht : ByV w t d) (hd : (d.length : Int) = wide l) :
    Calls Tryz.prog 115 #[.slice s.a s.len s.cap, .slice t.a t.len t.cap] w fun e w' => ∃ (g ok : Bool) (vs : List Val) (q : SV), e = .returned (.tuple #[.agg #[.bool g, .slice q.a q.len q.cap], .bool ok]) /\ NewV w w' q vs /\ vs.length = l.length /\ (∀ v ∈ vs, In64 v.kind /\ In64 v.n) /\ Pu w w' /\
      ∀ (r : Rec) (p : Int), RightR l p r.v -> rowS shownS l r = d -> g = r.gone /\ vs = r.v /\ ok = true := by
  have hsl := h.len
  have htl := ht.len
  have hnl := nulls_le l
  have hwide := sum_le (WOk.of hall)
  have hlw : (l.map (·.width)).sum <= 254 * l.length := hwide.2
  have hd0 : 0 < d.length := by unfold wide at hd; omega
  have hdb : (d.length : Int) <= 10000 := by unfold wide at hd; omega
  have hdw : 1 + nulls l <= d.length := by unfold wide at hd; omega
  refine F115_calls _ _ w _ (alB fun w1 hp1 hb1 => ?_)
  obtain ⟨b0, hb0⟩ := at_k hd0
  obtain ⟨a0, ha0, hc0⟩ := (ht.pu hp1).get _ _ hb0
  refine ⟨a0, ha0, by omega, by omega, _, hc0, boxA rfl s46.symm rfl fun w2 hp2 hs2 hb2 => (nullBytes_c (h.pu (hp1.trans hp2))).mono ?_⟩
  rintro e w3 ⟨rfl, hp3⟩
  refine ⟨_, rfl, ?_⟩
  have l1 : w.heap.size < w1.heap.size := blk_lt hb1
  have l2 : w1.heap.size < w2.heap.size := blk_lt hb2
  have z3 := hp3.size
  have st0 : RecSt w w2 w.heap.size w1.heap.size (((b0.toNat : Nat) : Int) == 42) [] w3 := ⟨⟨⟨none, 0, 0⟩, hp3.blk hb2, NewV.nil w2 w3⟩, (hp2.trans hp3).blk hb1, z3, (hp1.trans hp2).trans hp3, by omega, l2, by omega, Nat.le_refl _, by omega⟩
  rw [wrap_in (by omega) (by omega)]
  refine loopUp l.length (fun k u w' => u.2.2.2 = (k : Int) /\ u.1 = (offK l k : Nat) /\ u.2.1 = (nullK l k : Nat) /\ ∃ vs : List Val, vs.length = k /\ (∀ v ∈ vs, In64 v.kind /\ In64 v.n) /\ RecSt w w2 w.heap.size w1.heap.size (((b0.toNat : Nat) : Int) == 42) vs w' /\
      ∀ (r : Rec) (p : Int), RightR l p r.v -> rowS shownS l r = d -> vs = r.v.take k /\ u.2.2.1 = true) ⟨rfl, by show (1 : Int) + ((nulls l : Nat) : Int) = _; unfold offK; simp, rfl, [], rfl, by simp, st0, fun r p _ _ => ⟨by simp, rfl⟩⟩ ?_
  rintro k J ⟨u1, u2, u3, u4⟩ w4 hk ⟨e4, e1, e2, vs, hvl, hv64, st, hcond⟩ hJ
  obtain rfl : u4 = (k : Int) := e4
  obtain rfl : u1 = (offK l k : Nat) := e1
  obtain rfl : u2 = (nullK l k : Nat) := e2
  have hcond : ∀ (r : Rec) (p : Int), RightR l p r.v -> rowS shownS l r = d -> vs = r.v.take k /\ u3 = true := hcond
  have hnk := nullK_le l k
  have hfl := List.length_filter_le (·.null) l
  dsimp only
  refine Br.of (fun q => ?_) (fun q => ?_)
  · have hk2 : k < l.length := by have := dtrue q; omega
    obtain ⟨f, hf⟩ := at_k hk2
    have hfB := List.all_eq_true.1 hall f (List.mem_of_getElem? hf)
    have hwf := field_width hfB
    have hoff := offK_le hall hf
    obtain ⟨a, ha, hi, _, _, _, c0, c1, c2, c3⟩ := fldAt (h.pu st.pu) hf
    refine ⟨a, ha, by omega, by omega, _, c0, _, c1, _, c2, _, c3, boxA rfl s23.symm rfl fun w5 hp5 hs5 hb5 => ⟨_, cl hb5 2, _, cl hb5 2, ?_⟩⟩
    have st5 := st.on hp5
    have ht5 := ht.pu st5.pu
    obtain ⟨l40, e40, h40⟩ := ht5.part3 (lo := offK l k) (hi := offK l k + f.width.toNat) (by omega) (by omega)
    rw [show offK l k + f.width.toNat - offK l k = f.width.toNat by omega] at h40
    have ew : IntKind.i64.wrap (((offK l k : Nat) : Int) + f.width) = ((offK l k + f.width.toNat : Nat) : Int) := by rw [wrap_in (by omega) (by omega)]; omega
    rw [ew, wrap_in (n := ((nullK l k : Nat) : Int) + 1) (by omega) (by omega)]
    refine ⟨l40, w5, e40, _, cl hb5 2, _, cl hb5 3, ?_⟩
    rw [ew]
    have hpart : ∀ (r : Rec) (p : Int), RightR l p r.v -> rowS shownS l r = d -> ∀ v, r.v[k]? = some v -> (d.drop (offK l k)).take f.width.toNat = shownS f v := fun r p hR hrow v hv => row_part hall hR hrow hf hv
    generalize hpt : (d.drop (offK l k)).take f.width.toNat = part at *
    -- behind the value
    have next : ∀ {nk : Int} {v : Val} {b : Bool} {w' : World}, nk = (nullK l (k + 1) : Nat) -> In64 v.kind /\ In64 v.n -> RecSt w w2 w.heap.size w1.heap.size (((b0.toNat : Nat) : Int) == 42) (vs ++ [v]) w' ->
        (∀ (r : Rec) (p : Int), RightR l p r.v -> rowS shownS l r = d -> u3 = true -> ∀ v', r.v[k]? = some v' -> v = v' /\ b = true) -> J (((offK l k + f.width.toNat : Nat) : Int), nk, b, IntKind.i64.wrap ((k : Int) + 1)) w' := fun {nk v b w'} q1 q2 q3 q4 => by
      rw [wrap_in (by omega) (by omega)]
      refine hJ _ _ hk2 ⟨by dsimp only; omega, by dsimp only; rw [offK_succ hall hf], q1, vs ++ [v], by simp [hvl], fun x hx => ?_, q3, fun r p hR hrow => ?_⟩
      · rcases List.mem_append.1 hx with hx | hx
        · exact hv64 x hx
        · simp at hx; subst hx; exact q2
      · obtain ⟨h1, h2⟩ := hcond r p hR hrow
        obtain ⟨v', hv'⟩ := at_k (l := r.v) (k := k) (by have := hR.1; omega)
        obtain ⟨h3, h4⟩ := q4 r p hR hrow h2 v' hv'
        exact ⟨by rw [take_at hv', ← h1, h3], h4⟩
    -- a value that is there
    have reg : ∀ {nk : Int}, nk = (nullK l (k + 1) : Nat) -> (∀ (r : Rec) (p : Int), RightR l p r.v -> rowS shownS l r = d -> ∀ v', r.v[k]? = some v' -> v'.kind ≠ 0) ->
        rdRegion (fun b w' => J (((offK l k + f.width.toNat : Nat) : Int), nk, b, IntKind.i64.wrap ((k : Int) + 1)) w') (some ⟨w1.heap.size, 0, none⟩) u3 w4.heap.size l40 w5 := fun {nk} hnk hkind => by
      refine rdRegion_c hb5 hfB h40 fun wz r14 hz hb14 => ?_
      have stz := st5.on hz
      refine Br.of (fun q1 => pushR_c stz (v := readS f.kind part) hb14 (by omega) fun w' st' => next hnk (readS_in _ _) st' fun r p hR hrow hu v' hv' => ?_) (fun q1 => pushR_c stz (v := readS f.kind part) hb14 (by omega) fun w' st' => next hnk (readS_in _ _) st' fun r p hR hrow hu v' hv' => ?_)
      · have := read_shown (hR.2 k f v' hf hv') (hkind r p hR hrow v' hv')
        rw [← hpart r p hR hrow v' hv'] at this; exact this
      · rw [q1] at hu; cases hu
    refine Br.of (fun q1 => ⟨rfl, by decide, ?_⟩) (fun q1 => reg (by rw [nullK_succ hf, if_neg (by rw [q1]; simp)]) fun r p hR hrow v' hv' h0 => ?_)
    · have hm1 : nullK l k + 1 <= (l.filter (·.null)).length := by
        have h1 := nullK_succ hf
        rw [if_pos q1] at h1
        have h2 := nullK_le l (k + 1)
        omega
      have hq : nullK l k / 8 < nulls l := by unfold nulls; omega
      have e1 : ((nullK l k : Nat) : Int).tdiv 8 = ((nullK l k / 8 : Nat) : Int) := tdiv_nat _ 8
      have e2 : ((nullK l k : Nat) : Int).tmod 8 = ((nullK l k % 8 : Nat) : Int) := tmod_nat _ 8
      rw [e1, e2, wrap_in (n := ((nullK l k / 8 : Nat) : Int)) (by omega) (by omega), wrap_in (n := 1 + ((nullK l k / 8 : Nat) : Int)) (by omega) (by omega)]
      obtain ⟨bf, hbf⟩ := at_k (l := d) (k := 1 + nullK l k / 8) (by omega)
      obtain ⟨af, haf, hcf⟩ := ht5.get _ _ hbf
      refine ⟨af, haf, by omega, by omega, _, by rw [show (1 + ((nullK l k / 8 : Nat) : Int)).toNat = 1 + nullK l k / 8 by omega]; exact hcf, rfl, by decide, by omega, ?_⟩
      rw [Int.toNat_natCast, bit_p _ bf.toNat_lt _ (Nat.mod_lt _ (by decide))]
      have enk : ((nullK l k : Nat) : Int) + 1 = ((nullK l (k + 1) : Nat) : Int) := by rw [nullK_succ hf, if_pos q1]; omega
      refine Br.of (fun q2 => ?_) (fun q2 => reg enk fun r p hR hrow v' hv' h0 => ?_)
      · obtain ⟨q, h6, hq6⟩ := st5.ex
        refine ⟨q, cl h6 1, appV_c (v := noV) st5 h6 hq6 rfl (by omega) fun w' st' => next enk ⟨⟨by decide, by decide⟩, ⟨by decide, by decide⟩⟩ st' fun r p hR hrow hu v' hv' => ⟨?_, hu⟩⟩
        have hbit := row_flag hR hrow hf hv' q1 hbf
        rw [q2] at hbit
        have h0 : v'.kind = 0 := by simpa using hbit.symm
        have hRv := hR.2 k f v' hf hv'
        cases hRv with
        | nil hv hn => exact hv.symm
        | truth hk hw hv hn => rw [hv] at h0; exact absurd h0 (by simp)
        | num hk hw hv hn hl => rw [hv] at h0; exact absurd h0 (by simp)
        | date hk hw hv hn => rw [hv] at h0; exact absurd h0 (by simp)
        | text hk hw hv hl hb ht => rw [hv] at h0; exact absurd h0 (by simp)
        | memo hk hw hv hn => rw [hv] at h0; exact absurd h0 (by simp)
      · have hbit := row_flag hR hrow hf hv' q1 hbf
        rw [q2, decide_eq_true h0] at hbit; cases hbit
    · have hRv := hR.2 k f v' hf hv'
      cases hRv with
      | nil hv hn => rw [q1] at hn; cases hn
      | truth hk hw hv hn => rw [hv] at h0; exact absurd h0 (by simp)
      | num hk hw hv hn hl => rw [hv] at h0; exact absurd h0 (by simp)
      | date hk hw hv hn => rw [hv] at h0; exact absurd h0 (by simp)
      | text hk hw hv hl hb ht => rw [hv] at h0; exact absurd h0 (by simp)
      | memo hk hw hv hn => rw [hv] at h0; exact absurd h0 (by simp)
  · have hk2 : k = l.length := by have := dfalse q; omega
    subst hk2
    obtain ⟨q, h6, hq⟩ := st.ex
    have hne := st.ne
    refine ⟨_, cl h6 0, q, cl h6 1, stA_fill st.b4 s46.symm rfl rfl fun w5 hb5 hf5 hs5 => ⟨_, cl hb5 0, q, cl hb5 1, _, u3, vs, q, rfl, ?_, hvl, hv64, st.pu.andNew hf5 fun i hi => by omega, fun r p hR hrow => ?_⟩⟩
    · exact (hq.fr hf5 fun i hi => by have := hq.2 i hi; omega).low (by omega)
    · obtain ⟨h1, h2⟩ := hcond r p hR hrow
      refine ⟨?_, by rw [h1, List.take_of_length_le (by have := hR.1; omega)], h2⟩
      rw [row_gone hrow hb0]
      cases r.gone <;> decide
end Go.Proofs.YtecmfdfhpldmmaaGreatDoor

/- Table: the reference's reading of a row's bytes. No condition. -/
set_option maxRecDepth 100000
set_option maxHeartbeats 2000000
set_option linter.unusedVariables false
set_option linter.unusedSimpArgs false
namespace Go.Proofs.YtecmfdfhpldmmaaGreatDoor
open Go.Sh Go.RowKit
def w84 (K : Int -> Int -> World -> Prop) (l0 : SV) (n8 n7 : Int) (w20 : World) : Prop :=
  ∃ a21 : Addr, l0.a = some a21 /\ 0 <= n8 /\ n8 < ((l0.len : Nat) : Int) /\
  ∃ n71 : Int, w20.cell? ((a21.add (n8.toNat * 4)).add 2) = some (.int .i64 n71) /\ K n71 n7 w20
end Go.Proofs.YtecmfdfhpldmmaaGreatDoor

/- Table: rows of fields and of records that a call has made; a field's entry, read by both packages. No condition. -/
set_option maxRecDepth 100000
set_option maxHeartbeats 1000000
set_option linter.unusedVariables false
set_option linter.unusedSimpArgs false
namespace Go.Proofs.YtecmfdfhpldmmaaGreatDoor
open Go.Sh Go.RowKit
theorem u32' : Tryz.prog.underlying 32 = some (.slice 23) := by kernel_rfl
theorem info23 : (Tryz.prog.info? 23).map (fun i => (i.zero, i.size, i.bytes)) = some (some (.agg #[.string ⟨#[]⟩, .int .i64 0, .int .i64 0, .bool false]), 4, 40) := by kernel_rfl
theorem u33 : Tryz.prog.underlying 33 = some (.slice 46) := by kernel_rfl
theorem info46 : (Tryz.prog.info? 46).map (fun i => (i.zero, i.size, i.bytes)) = some (some (.agg #[.bool false, .slice none 0 0]), 2, 32) := by kernel_rfl
theorem fldV_len (f : Fld) : (fldV f).length = 4 := rfl
def NewF (w0 w : World) (s : SV) (l : List Fld) : Prop := RowAt w 23 4 s (l.flatMap fldV) /\ ∀ b ∈ blkOf s, w0.heap.size <= b
theorem NewF.len {w0 w : World} {s : SV} {l : List Fld} (h : NewF w0 w s l) : s.len = l.length := h.1.len fldV_len (by decide)
theorem NewF.pu {w0 w w' : World} {s : SV} {l : List Fld} (h : NewF w0 w s l) (hp : Pu w w') : NewF w0 w' s l := ⟨h.1.pu hp, h.2⟩
theorem NewF.fr {B : Nat -> Prop} {w0 w w' : World} {s : SV} {l : List Fld} (h : NewF w0 w s l) (hf : Fr B w w') (hn : ∀ k ∈ blkOf s, ¬ B k) : NewF w0 w' s l := ⟨h.1.fr hf hn, h.2⟩
theorem NewF.nil (w0 w : World) : NewF w0 w ⟨none, 0, 0⟩ [] := ⟨RowAt.nil w 23 4, by simp [blkOf]⟩
theorem NewF.low {w0 w1 w : World} {s : SV} {l : List Fld} (h : NewF w1 w s l) (hz : w0.heap.size <= w1.heap.size) : NewF w0 w s l := ⟨h.1, fun b hb => Nat.le_trans hz (h.2 b hb)⟩
theorem NewF.push {w0 w : World} {s : SV} {l : List Fld} (h : NewF w0 w s l) (hz : w0.heap.size <= w.heap.size) {r : Nat} {f : Fld} {c : Array Value} (hr : w.heap[r]? = some (.cells c 23)) (hc : c = #[.string f.name, .int .i64 f.kind, .int .i64 f.width, .bool f.null]) (hb : l.length <= 1000000) :
    ∃ (s' : SV) (w' : World), (Builtin.append_ #[32, 32] 32 #[.slice s.a s.len s.cap, .slice (some ⟨r, 0, none⟩) 1 1]).run Tryz.prog w = .ok (.slice s'.a s'.len s'.cap) w' /\ NewF w0 w' s' (l ++ [f]) /\ Fr (· ∈ blkOf s) w w' := by
  subst hc
  have h1 := h.len
  obtain ⟨s', w', hra, hrow, hf, hblk, _⟩ := row_append_any (P := Tryz.prog) (ty := 32) u32' info23 rfl (by decide) h.1 (A := some ⟨r, 0, none⟩) (m := 1) (c := 1) (news := fldV f) rfl (fun j u hu => ⟨_, rfl, by rw [cl hr]; simpa using hu⟩) (fun u hu => by simp [fldV] at hu; rcases hu with rfl | rfl | rfl | rfl <;> rfl) (by omega)
  refine ⟨s', w', hra, ⟨by simpa using hrow, fun b hb => ?_⟩, hf⟩
  rcases hblk b hb with h2 | h2
  · exact h.2 b h2
  · omega
def F64 (l : List Fld) : Prop := ∀ f ∈ l, In64 f.kind /\ In64 f.width
def V64 (l : List Val) : Prop := ∀ v ∈ l, In64 v.kind /\ In64 v.n
theorem NewF.rd {w0 w : World} {s : SV} {l : List Fld} (h : NewF w0 w s l) (hb : l.length <= 1000000) (h64 : F64 l) : RdSl w s l := ⟨h.len, h.1.le_cap.1, by have := h.len; omega, fun i f hf => by
  obtain ⟨a, h1, _, c0⟩ := h.1.elem fldV_len hf (o := 0) rfl
  obtain ⟨a1, h1', _, c1⟩ := h.1.elem fldV_len hf (o := 1) rfl
  obtain ⟨a2, h1'', _, c2⟩ := h.1.elem fldV_len hf (o := 2) rfl
  obtain ⟨a3, h1''', _, c3⟩ := h.1.elem fldV_len hf (o := 3) rfl
  rw [h1] at h1' h1'' h1'''; cases h1'; cases h1''; cases h1'''
  refine ⟨a, h1, fldV f, ⟨rfl, h64 f (List.mem_of_getElem? hf)⟩, fun j v hv => ?_⟩
  rcases j with _ | _ | _ | _ | j <;> simp [fldV] at hv
  · subst hv; exact c0
  · subst hv; exact c1
  · subst hv; exact c2
  · subst hv; exact c3⟩
theorem NewV.rdS {w0 w : World} {s : SV} {l : List Val} (h : NewV w0 w s l) (hb : l.length <= 1000000) (h64 : V64 l) : RdSl w s l := ⟨h.len, h.1.le_cap.1, by have := h.len; omega, fun i f hf => by
  obtain ⟨a, h1, _, c0⟩ := h.1.elem valV_len hf (o := 0) rfl
  obtain ⟨a1, h1', _, c1⟩ := h.1.elem valV_len hf (o := 1) rfl
  obtain ⟨a2, h1'', _, c2⟩ := h.1.elem valV_len hf (o := 2) rfl
  rw [h1] at h1' h1''; cases h1'; cases h1''
  refine ⟨a, h1, valV f, ⟨rfl, h64 f (List.mem_of_getElem? hf)⟩, fun j v hv => ?_⟩
  rcases j with _ | _ | _ | j <;> simp [valV] at hv
  · subst hv; exact c0
  · subst hv; exact c1
  · subst hv; exact c2⟩
def recC (x : Bool × SV) : List Value := [.bool x.1, .slice x.2.a x.2.len x.2.cap]
theorem recC_len (x : Bool × SV) : (recC x).length = 2 := rfl
theorem rows_apart {w : World} {e e' : TypeId} {sz sz' : Nat} {s s' : SV} {vs vs' : List Value} (h : RowAt w e sz s vs) (h' : RowAt w e' sz' s' vs') (hne : e ≠ e') : ∀ k ∈ blkOf s, ¬ k ∈ blkOf s' := fun k hk hk' => by
  obtain ⟨_, rfl | ⟨g, cur, h3, h4, _⟩⟩ := h
  · simp [blkOf] at hk
  obtain ⟨_, rfl | ⟨g', cur', h3', h4', _⟩⟩ := h'
  · simp [blkOf] at hk'
  simp [blkOf, h3] at hk
  simp [blkOf, h3'] at hk'
  subst hk; subst hk'
  rw [h4] at h4'
  simp only [Option.some.injEq, Obj.cells.injEq] at h4'
  exact hne h4'.2.1
def NewR (w0 w : World) (s : SV) (rs : List Rec) : Prop := ∃ qs : List (Bool × SV), RowAt w 46 2 s (qs.flatMap recC) /\ (∀ b ∈ blkOf s, w0.heap.size <= b) /\ qs.length = rs.length /\ ∀ (i : Nat) (r : Rec) (x : Bool × SV), rs[i]? = some r -> qs[i]? = some x -> x.1 = r.gone /\ NewV w0 w x.2 r.v
theorem NewR.len {w0 w : World} {s : SV} {rs : List Rec} (h : NewR w0 w s rs) : s.len = rs.length := by
  obtain ⟨qs, h1, _, h3, _⟩ := h
  rw [h1.len recC_len (by decide), h3]
theorem NewR.own {w0 w : World} {s : SV} {rs : List Rec} (h : NewR w0 w s rs) : ∀ b ∈ blkOf s, w0.heap.size <= b := h.choose_spec.2.1
theorem NewR.pu {w0 w w' : World} {s : SV} {rs : List Rec} (h : NewR w0 w s rs) (hp : Pu w w') : NewR w0 w' s rs := by
  obtain ⟨qs, h1, h2, h3, h4⟩ := h
  exact ⟨qs, h1.pu hp, h2, h3, fun i r x hr hx => ⟨(h4 i r x hr hx).1, (h4 i r x hr hx).2.pu hp⟩⟩
theorem NewR.one {w0 w w' : World} {b : Nat} {s : SV} {rs : List Rec} (h : NewR w0 w s rs) (hf : Fr (· = b) w w') (hb : b < w0.heap.size) : NewR w0 w' s rs := by
  obtain ⟨qs, h1, h2, h3, h4⟩ := h
  exact ⟨qs, h1.fr hf fun k hk e => by have := h2 k hk; omega, h2, h3, fun i r x hr hx => ⟨(h4 i r x hr hx).1, (h4 i r x hr hx).2.fr hf fun k hk e => by have := (h4 i r x hr hx).2.2 k hk; omega⟩⟩
theorem NewR.low {w0 w1 w : World} {s : SV} {rs : List Rec} (h : NewR w1 w s rs) (hz : w0.heap.size <= w1.heap.size) : NewR w0 w s rs := by
  obtain ⟨qs, h1, h2, h3, h4⟩ := h
  exact ⟨qs, h1, fun b hb => Nat.le_trans hz (h2 b hb), h3, fun i r x hr hx => ⟨(h4 i r x hr hx).1, (h4 i r x hr hx).2.low hz⟩⟩
theorem NewR.nil (w0 w : World) : NewR w0 w ⟨none, 0, 0⟩ [] := ⟨[], RowAt.nil w 46 2, by simp [blkOf], rfl, fun i r x hr => by simp at hr⟩
theorem NewR.push {w0 w : World} {s q : SV} {rs : List Rec} {g : Bool} {vs : List Val} (h : NewR w0 w s rs) (hz : w0.heap.size <= w.heap.size) (hq : NewV w0 w q vs) {r : Nat} {c : Array Value} (hr : w.heap[r]? = some (.cells c 46)) (hc : c = #[.bool g, .slice q.a q.len q.cap]) (hb : rs.length <= 1000000) :
    ∃ (s' : SV) (w' : World), (Builtin.append_ #[33, 33] 33 #[.slice s.a s.len s.cap, .slice (some ⟨r, 0, none⟩) 1 1]).run Tryz.prog w = .ok (.slice s'.a s'.len s'.cap) w' /\ NewR w0 w' s' (rs ++ [⟨g, vs⟩]) /\ Fr (· ∈ blkOf s) w w' := by
  subst hc
  have h1 := h.len
  obtain ⟨qs, r1, r2, r3, r4⟩ := h
  obtain ⟨s', w', hra, hrow, hf, hblk, _⟩ := row_append_any (P := Tryz.prog) (ty := 33) u33 info46 rfl (by decide) r1 (A := some ⟨r, 0, none⟩) (m := 1) (c := 1) (news := recC (g, q)) rfl (fun j u hu => ⟨_, rfl, by rw [cl hr]; simpa [recC] using hu⟩) (fun u hu => by simp [recC] at hu; rcases hu with rfl | rfl <;> rfl) (by omega)
  refine ⟨s', w', hra, ⟨qs ++ [(g, q)], by simpa using hrow, fun b hb => ?_, by simp [r3], fun i rr x hr2 hx => ?_⟩, hf⟩
  · rcases hblk b hb with h2 | h2
    · exact r2 b h2
    · omega
  · rcases Nat.lt_trichotomy i rs.length with hi | hi | hi
    · rw [List.getElem?_append_left hi] at hr2
      rw [List.getElem?_append_left (by omega)] at hx
      obtain ⟨e1, e2⟩ := r4 i rr x hr2 hx
      exact ⟨e1, e2.fr hf (rows_apart e2.1 r1 (by decide))⟩
    · subst hi
      rw [List.getElem?_append_right (Nat.le_refl _), Nat.sub_self] at hr2
      rw [← r3, List.getElem?_append_right (Nat.le_refl _), Nat.sub_self] at hx
      simp at hr2 hx; subst hr2 hx
      exact ⟨rfl, hq.fr hf (rows_apart hq.1 r1 (by decide))⟩
    · rw [List.getElem?_eq_none (by simp; omega)] at hr2; cases hr2
def R64 (rs : List Rec) : Prop := ∀ r ∈ rs, V64 r.v /\ r.v.length <= 1000000
theorem NewR.rd {w0 w : World} {s : SV} {rs : List Rec} (h : NewR w0 w s rs) (hb : rs.length <= 1000000) (h64 : R64 rs) : RdSl w s rs := by
  have hl := h.len
  obtain ⟨qs, r1, r2, r3, r4⟩ := h
  refine ⟨hl, r1.le_cap.1, by omega, fun i r hr => ?_⟩
  obtain ⟨x, hx⟩ := at_k (l := qs) (k := i) (by have := (List.getElem?_eq_some_iff.1 hr).1; omega)
  obtain ⟨e1, e2⟩ := r4 i r x hr hx
  obtain ⟨a, h1, _, c0⟩ := r1.elem recC_len hx (o := 0) rfl
  obtain ⟨a1, h1', _, c1⟩ := r1.elem recC_len hx (o := 1) rfl
  rw [h1] at h1'; cases h1'
  obtain ⟨q1, q2⟩ := h64 r (List.mem_of_getElem? hr)
  refine ⟨a, h1, _, ⟨x.2, rfl, e2.rdS q2 q1⟩, fun j v hv => ?_⟩
  rcases j with _ | _ | j <;> simp at hv
  · subst hv; rw [← e1]; exact c0
  · subst hv; exact c1
def trim0 (l : List UInt8) : List UInt8 := (l.reverse.dropWhile (· == 0)).reverse
theorem trim0_c (s : ByteArray) (hs : s.size <= 140737488355328) (w : World) : Calls Tryz.prog 51 #[.string s, .string ⟨#[0]⟩] w fun e w' => e = .returned (.string (bs (trim0 s.data.toList))) /\ Pu w w' :=
  (Any.strings_TrimRight_one Tryz.lays162 s 0 (by decide) w (by omega)).mono fun e w' ⟨h1, h2⟩ => ⟨h1, h2 ▸ Pu.refl _⟩
theorem trim0_zeros (l : List UInt8) (hl : ∀ b ∈ l, b ≠ 0) (j : Nat) : trim0 (l ++ List.replicate j 0) = l := by
  unfold trim0
  rw [List.reverse_append, List.reverse_replicate]
  have e1 : ∀ (j : Nat) (x : List UInt8), (List.replicate j 0 ++ x).dropWhile (· == 0) = x.dropWhile (· == 0) := by
    intro j x
    induction j with
    | zero => rfl
    | succ j ih => rw [List.replicate_succ, List.cons_append, List.dropWhile_cons]; simp only [beq_self_eq_true, if_true]; exact ih
  rw [e1]
  have e2 : l.reverse.dropWhile (· == 0) = l.reverse := by
    cases h : l.reverse with
    | nil => rfl
    | cons a r =>
      have ha : a ∈ l := by rw [← List.mem_reverse, h]; simp
      rw [List.dropWhile_cons, if_neg (by simpa using hl a ha)]
  rw [e2, List.reverse_reverse]
theorem trim0_le (l : List UInt8) : (trim0 l).length <= l.length := by
  unfold trim0
  have h := List.IsSuffix.length_le (List.dropWhile_suffix (· == (0 : UInt8)) (l := l.reverse))
  simpa using h
theorem name_bytes {f : Fld} (h : fieldB f = true) : ∀ b ∈ f.name.data.toList, b ≠ 0 := fun b hb => by
  unfold fieldB nameB at h
  simp only [Bool.and_eq_true] at h
  have h1 := List.all_eq_true.1 h.1.1.2 b hb
  intro e; subst e; revert h1; decide
theorem byteI_in {n : Int} (h : 0 <= n /\ n <= 255) : (((byteI n).toNat : Nat) : Int) = n := by
  unfold byteI
  have : (UInt8.ofNat (n % 256).toNat).toNat = (n % 256).toNat := by simp; omega
  rw [this]; omega
theorem entry_parts {f : Fld} (hf : fieldB f = true) {d : List UInt8} (hd : fieldS f = d) : d.take 10 = f.name.data.toList ++ List.replicate (10 - f.name.size) 0 /\ d[10]? = some (letterB f.kind) /\ d[11]? = some (byteI f.width) /\ d[12]? = some (nullB f.null) := by
  obtain ⟨_, h10, _⟩ := field_parts hf
  have hl : (f.name.data.toList ++ List.replicate (10 - f.name.size) (0 : UInt8)).length = 10 := by rw [List.length_append, size_list, List.length_replicate]; omega
  subst hd
  unfold fieldS
  refine ⟨?_, ?_, ?_, ?_⟩
  · rw [List.take_append_of_le_length (by omega), List.take_of_length_le (by omega)]
  · rw [List.getElem?_append_right (by omega), hl]; rfl
  · rw [List.getElem?_append_right (by omega), hl]; rfl
  · rw [List.getElem?_append_right (by omega), hl]; rfl
theorem kindsL_look {k : Int} {K : K5} (h : kindOf5 k = some K) : (k, K) ∈ kindsL := AL.get_mem h
theorem letters_apart : ∀ p ∈ kindsL, ∀ q ∈ kindsL, p.2.letter = q.2.letter -> p.1 = q.1 := by decide
theorem kinds64 : ∀ p ∈ kindsL, In64 p.1 := fun p hp => by
  have : ∀ p ∈ kindsL, 0 <= p.1 /\ p.1 <= 5 := by decide
  have := this p hp
  exact ⟨by omega, by omega⟩
def KindSo (b : UInt8) (kd : Int) (todo : List (Int × K5)) : Prop := (∀ p ∈ kindsL, p.2.letter = ((b.toNat : Nat) : Int) -> p ∈ todo ∨ kd = p.1) /\ (kd = 0 ∨ ∃ p ∈ kindsL, p.2.letter = ((b.toNat : Nat) : Int) /\ kd = p.1)
theorem readField_c {w : World} {t : SV} {d : List UInt8} (ht : ByV w t d) (hd : d.length = 16) : Calls Tryz.prog 113 #[.slice t.a t.len t.cap] w fun e w' => ∃ f' : Fld, e = .returned (fldA f') /\ In64 f'.kind /\ In64 f'.width /\ f'.name.size <= 10 /\ Pu w w' /\ ∀ f, fieldB f = true -> fieldS f = d -> f' = f := by
  have htl := ht.len
  have htc := ht.cap
  obtain ⟨b10, h10⟩ := at_k (l := d) (k := 10) (by omega)
  obtain ⟨b11, h11⟩ := at_k (l := d) (k := 11) (by omega)
  obtain ⟨b12, h12⟩ := at_k (l := d) (k := 12) (by omega)
  have n10 := b10.toNat_lt
  have n11 := b11.toNat_lt
  refine F113_calls _ w _ (alB fun w1 hp1 hb1 => dwE_intro fun w2 hp2 _ => ?_)
  have hp02 := hp1.trans hp2
  obtain ⟨a11, ha11, hc11⟩ := (ht.pu hp02).get _ _ h11
  obtain ⟨a12, ha12, hc12⟩ := (ht.pu hp02).get _ _ h12
  have hsub : ∀ {wz}, Pu w2 wz -> (convert 37 9 (.slice (if t.cap = 0 then t.a else t.a.map (fun x => x.add (0 * 1))) ((10 : Int).toNat - 0) (t.cap - 0))).run Tryz.prog wz = .ok (.string (bs (d.take 10))) wz := fun {wz} hz => by
    have h1 := (ht.pu (hp02.trans hz)).sub (lo := 0) (hi := 10) (by omega) (by omega)
    rw [List.drop_zero] at h1
    exact conv_by h1
  have hl10 : (bs (d.take 10)).size = 10 := by rw [bs_size, List.length_take]; omega
  have trim : ∀ wz, Calls Tryz.prog 51 #[.string (bs (d.take 10)), .string (⟨#[0]⟩ : ByteArray)] wz fun e w' => e = .returned (.string (bs (trim0 (d.take 10)))) /\ Pu wz w' := fun wz => by
    have := trim0_c (bs (d.take 10)) (by omega) wz
    rw [bs_list] at this; exact this
  have hnm : (bs (trim0 (d.take 10))).size <= 10 := by
    have := trim0_le (d.take 10)
    rw [List.length_take] at this
    rw [bs_size]; omega
  have r2lt : w.heap.size < w1.heap.size := blk_lt hb1
  have z2 := hp2.size
  -- behind the variable's first values
  have main : ∀ {wz : World} {r3 : Nat}, Pu w2 wz -> w2.heap.size <= r3 -> wz.heap[r3]? = some (.cells #[.string (bs (trim0 (d.take 10))), .int .i64 0, .int .i64 (IntKind.i64.wrap ((b11.toNat : Nat) : Int)), .bool (((b12.toNat : Nat) : Int) == 1)] 23) ->
      Calls Tryz.prog 89 #[] wz fun e w23 => ∃ m19 : Option Nat, e = .returned (.map m19) /\ ∃ p20 : Option Addr, ∃ w24 : World, (Instr.range 104 (.map m19)).run Tryz.prog w23 = .ok (.pointer p20) w24 /\
        F113_4 (fun e w' => ∃ f' : Fld, e = .returned (fldA f') /\ In64 f'.kind /\ In64 f'.width /\ f'.name.size <= 10 /\ Pu w w' /\ ∀ f, fieldB f = true -> fieldS f = d -> f' = f) t (some (⟨w.heap.size, 0, none⟩ : Addr)) (some (⟨r3, 0, none⟩ : Addr)) p20 [] w24 := fun {wz r3} hz hr3 hb3 => by
    rw [wrap_in (n := ((b11.toNat : Nat) : Int)) (by omega) (by omega)] at hb3
    refine (kinds_c wz).mono ?_
    rintro e w3 ⟨m, rfl, hm, hml, hp3⟩
    obtain ⟨w4, e4, hit4, hp4, hs4⟩ := hm.range (t := 104) u104
    refine ⟨some m, rfl, _, w4, e4, ?_⟩
    have b3 := (hp3.trans hp4).blk hb3
    have l3 : r3 < wz.heap.size := blk_lt hb3
    have z3 := hp3.size
    have zz := hz.size
    have p4 : Pu w2 w4 := (hz.trans hp3).trans hp4
    refine loopDown (σ := Unit) kindsL.length (fun n _ w' => ∃ (todo : List (Int × K5)) (kd : Int), todo.length = n /\ (∀ p ∈ todo, p ∈ kindsL) /\ IterAt w' intV kindV w3.heap.size m kindsL todo /\ KindSo b10 kd todo /\ w4.heap.size <= w'.heap.size /\ Pu w2 w' /\
      w'.heap[r3]? = some (.cells #[.string (bs (trim0 (d.take 10))), .int .i64 kd, .int .i64 ((b11.toNat : Nat) : Int), .bool (((b12.toNat : Nat) : Int) == 1)] 23)) ⟨kindsL, 0, rfl, fun p hp => hp, hit4, ⟨fun p hp _ => .inl hp, .inl rfl⟩, Nat.le_refl _, p4, b3⟩ ?_
    rintro n J _ w5 ⟨todo, kd, hn, hall, hit, ⟨hk1, hk2⟩, hz5, hp5, hb5⟩ hJ
    rcases hit.next (P := Tryz.prog) 0 with ⟨hnil, hr⟩ | ⟨p, hpm, w6, hr, hf6, hs6, hit6, hen⟩
    · refine .inl ⟨w5, hr, ?_⟩
      subst hnil
      refine ⟨_, cl hb5 0, _, cl hb5 1, _, cl hb5 2, _, cl hb5 3, stA_fill (hp5.blk (hp2.blk hb1)) s23.symm rfl rfl fun w6 hb6 hf6 hs6 => ⟨_, cl hb6 0, _, cl hb6 1, _, cl hb6 2, _, cl hb6 3, ⟨bs (trim0 (d.take 10)), kd, ((b11.toNat : Nat) : Int), ((b12.toNat : Nat) : Int) == 1⟩, rfl, ?_, ⟨by show _ <= ((b11.toNat : Nat) : Int); omega, by show ((b11.toNat : Nat) : Int) <= _; omega⟩, hnm, (hp02.trans hp5).andNew hf6 fun i hi => by omega, fun f hf hd2 => ?_⟩⟩
      · rcases hk2 with h | ⟨p, hp, _, h⟩
        · show In64 kd; rw [h]; exact ⟨by decide, by decide⟩
        · show In64 kd; rw [h]; exact kinds64 p hp
      · obtain ⟨e1, e2, e3, e4'⟩ := entry_parts hf hd2
        obtain ⟨_, _, K, hK, hKl⟩ := field_parts hf
        rw [h10] at e2; rw [h11] at e3; rw [h12] at e4'
        have e2 := Option.some.inj e2
        have e3 := Option.some.inj e3
        have e4' := Option.some.inj e4'
        have hwf := field_width hf
        rcases hk1 (f.kind, K) (kindsL_look hK) (by rw [e2]; exact hKl) with h | h
        · cases h
        obtain ⟨fn, fk, fw, fnl⟩ := f
        simp only at *
        congr 1
        · rw [e1, trim0_zeros _ (name_bytes hf), list_bs]
        · rw [e3]; exact byteI_in (by omega)
        · rw [e4']; cases fnl <;> decide
    · refine .inr ⟨_, _, w6, hr, _, _, w6, hen, ?_⟩
      simp only [dInt_mk, kindV, dAgg_mk, dHd_mk, dNil_mk]
      have hb6 := hf6.blk hb5 (show ¬ r3 = w3.heap.size by omega)
      have hp6 : Pu w2 w6 := hp5.andNew hf6 fun i hi => by omega
      refine boxA rfl s102.symm (ones5 rfl rfl) fun w7 hp7 hs7 hb7 => dwE_intro fun w8 hp8 _ => ?_
      have p8 := (hp6.trans hp7).trans hp8
      obtain ⟨a10, ha10, hc10⟩ := (ht.pu (hp02.trans p8)).get _ _ h10
      have b8 := (hp7.trans hp8).blk hb6
      have hit8 := hit6.fr (Fr.pu (hp7.trans hp8) : Fr (fun _ => False) w6 w8) (fun h => h) (fun h => h)
      have hlen := AL.length_del hpm hit.nodup
      have hperm := AL.perm_del hpm hit.nodup
      have hsub2 : ∀ q ∈ AL.del todo p.1, q ∈ kindsL := fun q hq => hall q (hperm.symm.subset (List.mem_cons_of_mem _ hq))
      have z6 := hs6
      have z78 := (hp7.trans hp8).size
      refine ⟨_, cl0 (hp8.blk hb7), a10, ha10, by omega, by omega, _, hc10, Br.of (fun q => ?_) (fun q => ?_)⟩
      · have hq : p.2.letter = ((b10.toNat : Nat) : Int) := btrue q
        show st1 ((⟨r3, 0, none⟩ : Addr).add 1) _ w8 _
        rw [add_def]
        refine st1_intro b8 (by simp) fun w9 hw9 hb9 => ?_
        have hf9 : Fr (· = r3) w8 w9 := by rw [hw9]; exact Fr.cell w8 _ _ _
        have z9 : w9.heap.size = w8.heap.size := by rw [hw9]; simp
        refine hJ _ () w9 (by omega) ⟨AL.del todo p.1, p.1, rfl, hsub2, hit8.fr hf9 (by omega) (by omega), ⟨fun q' hq' hl' => .inr (letters_apart p (hall p hpm) q' hq' (by rw [hq, hl'])), .inr ⟨p, hall p hpm, hq, rfl⟩⟩, by omega, p8.andNew hf9 fun i hi => by omega, hb9⟩
      · have hq : p.2.letter ≠ ((b10.toNat : Nat) : Int) := bfalse q
        refine hJ _ () w8 (by omega) ⟨AL.del todo p.1, kd, rfl, hsub2, hit8, ⟨fun q' hq' hl' => ?_, hk2⟩, by omega, p8, b8⟩
        rcases hk1 q' hq' hl' with h | h
        · rcases List.mem_cons.1 (hperm.subset h) with h | h
          · subst h; exact absurd hl' hq
          · exact .inl h
        · exact .inr h
  refine ⟨fun u => Pu w2 u, Pu.refl _, by omega, by omega, by omega, a11, ha11, by omega, by omega, _, fun u hu => hu.cell hc11, a12, ha12, by omega, by omega, _, fun u hu => hu.cell hc12, ⟨bs (d.take 10), w2, hsub (Pu.refl _), Pu.refl _, (trim w2).mono ?_, alB fun w3 hp3 hb3 => ⟨hp3, (trim w3).mono ?_⟩⟩, alB fun w3 hp3 hb3 => ⟨hp3, bs (d.take 10), w3, hsub hp3, hp3, (trim w3).mono ?_⟩⟩
  · rintro e w3 ⟨rfl, hp3⟩
    exact ⟨_, rfl, hp3, alB fun w4 hp4 hb4 => ⟨hp3.trans hp4, stA_fill hb4 s23.symm rfl rfl fun w5 hb5 hf5 hs5 => main ((hp3.trans hp4).andNew hf5 fun i hi => by have := hp3.size; omega) (hp3.size) hb5⟩⟩
  · rintro e w4 ⟨rfl, hp4⟩
    exact ⟨_, rfl, hp3.trans hp4, stA_fill (hp4.blk hb3) s23.symm rfl rfl fun w5 hb5 hf5 hs5 => main ((hp3.trans hp4).andNew hf5 fun i hi => by omega) (Nat.le_refl _) hb5⟩
  · rintro e w4 ⟨rfl, hp4⟩
    exact ⟨_, rfl, hp3.trans hp4, stA_fill (hp4.blk hb3) s23.symm rfl rfl fun w5 hb5 hf5 hs5 => main ((hp3.trans hp4).andNew hf5 fun i hi => by omega) (Nat.le_refl _) hb5⟩
end Go.Proofs.YtecmfdfhpldmmaaGreatDoor

/- Table: parts of a table's bytes; a table that a call makes. No condition. -/
set_option maxRecDepth 100000
set_option maxHeartbeats 1000000
set_option linter.unusedVariables false
set_option linter.unusedSimpArgs false
namespace Go.Proofs.YtecmfdfhpldmmaaGreatDoor
open Go.Sh Go.RowKit
theorem flat_len {l : List Fld} (h : l.all fieldB = true) : (l.flatMap fieldS).length = 16 * l.length := by
  induction l with
  | nil => rfl
  | cons f l ih =>
    rw [List.flatMap_cons, List.length_append, fieldS_len (field_parts (List.all_eq_true.1 h f (by simp))).2.1, ih (List.all_eq_true.2 fun g hg => List.all_eq_true.1 h g (by simp [hg])), List.length_cons]
    omega
def top12 (u : Tbl) : List UInt8 := [67, byteI u.page] ++ lowN u.recs.length 4 ++ lowN (13 + 16 * u.fields.length) 2 ++ lowN (wide u.fields).toNat 2 ++ [byteI u.fields.length, 0]
theorem top12_len (u : Tbl) : (top12 u).length = 12 := by unfold top12; simp [lowN_len]
theorem bytes_top (u : Tbl) : bytesS u = top12 u ++ (u.fields.flatMap fieldS ++ ([13] ++ (u.recs.flatMap (rowS shownS u.fields) ++ [26]))) := by
  unfold bytesS headS top12; simp only [List.append_assoc]
theorem bytes_at {u : Tbl} {d : List UInt8} (hd : bytesS u = d) : d[0]? = some 67 /\ d[1]? = some (byteI u.page) /\ (d.drop 2).take 4 = lowN u.recs.length 4 /\ d[10]? = some (byteI u.fields.length) := by
  have hl := lowN_len u.recs.length 4
  have h2 := lowN_len (13 + 16 * u.fields.length) 2
  have h3 := lowN_len (wide u.fields).toNat 2
  rw [← hd, bytes_top]
  refine ⟨rfl, rfl, ?_, ?_⟩
  · unfold top12
    simp only [List.append_assoc, List.cons_append, List.nil_append, List.drop_succ_cons, List.drop_zero]
    rw [List.take_append_of_le_length (by omega), List.take_of_length_le (by omega)]
  · rw [List.getElem?_append_left (by rw [top12_len]; omega)]
    unfold top12
    rw [List.getElem?_append_right (by simp [lowN_len])]
    simp [lowN_len]
theorem bytes_len {u : Tbl} (ho : Okay u) {d : List UInt8} (hd : bytesS u = d) : (d.length : Int) = 13 + 16 * (u.fields.length : Int) + (u.recs.length : Int) * wide u.fields + 1 := by
  have h1 := rows_len ho u.recs.length (Nat.le_refl _)
  rw [List.take_length] at h1
  have h2 := headS_le ho
  rw [← hd]
  unfold bytesS
  rw [List.length_append, List.length_append, List.length_singleton]
  omega
theorem bytes_field {u : Tbl} (ho : Okay u) {d : List UInt8} (hd : bytesS u = d) {k : Nat} {f : Fld} (hf : u.fields[k]? = some f) : (d.drop (12 + 16 * k)).take 16 = fieldS f := by
  have hk := (List.getElem?_eq_some_iff.1 hf).1
  have hall : (u.fields.take k).all fieldB = true := List.all_eq_true.2 fun g hg => List.all_eq_true.1 ho.all g (List.mem_of_mem_take hg)
  have h1 := flat_len hall
  rw [List.length_take] at h1
  have h16 := fieldS_len (field_parts (List.all_eq_true.1 ho.all f (List.mem_of_getElem? hf))).2.1
  have e : u.fields.flatMap fieldS = (u.fields.take k).flatMap fieldS ++ (fieldS f ++ (u.fields.drop (k + 1)).flatMap fieldS) := by
    rw [← List.flatMap_cons, ← drop_at hf, ← List.flatMap_append, List.take_append_drop]
  have hl : (top12 u ++ (u.fields.take k).flatMap fieldS).length = 12 + 16 * k := by rw [List.length_append, top12_len, h1]; omega
  rw [← hd, bytes_top, e, List.append_assoc, ← List.append_assoc (top12 u), List.drop_append, List.drop_eq_nil_of_le (by omega), hl, Nat.sub_self, List.drop_zero, List.nil_append, List.append_assoc, List.take_append_of_le_length (by omega), List.take_of_length_le (by omega)]
theorem bytes_row {u : Tbl} (ho : Okay u) {d : List UInt8} (hd : bytesS u = d) {k : Nat} {r : Rec} (hr : u.recs[k]? = some r) : (d.drop (13 + 16 * u.fields.length + (wide u.fields).toNat * k)).take (wide u.fields).toNat = rowS shownS u.fields r := by
  have hk := (List.getElem?_eq_some_iff.1 hr).1
  have hw0 : 0 <= wide u.fields := by have := sum_le (WOk.of ho.all); unfold wide; omega
  have h1 := rows_len ho k (by omega)
  have h2 := headS_le ho
  have h3 := rowS_len ho.all (ho.recs r (List.mem_of_getElem? hr))
  have e : u.recs.flatMap (rowS shownS u.fields) = (u.recs.take k).flatMap (rowS shownS u.fields) ++ (rowS shownS u.fields r ++ (u.recs.drop (k + 1)).flatMap (rowS shownS u.fields)) := by
    rw [← List.flatMap_cons, ← drop_at hr, ← List.flatMap_append, List.take_append_drop]
  have hm : (((wide u.fields).toNat * k : Nat) : Int) = (k : Int) * wide u.fields := by
    rw [Int.natCast_mul, Int.toNat_of_nonneg hw0, Int.mul_comm]
  have hl : (headS u ++ (u.recs.take k).flatMap (rowS shownS u.fields)).length = 13 + 16 * u.fields.length + (wide u.fields).toNat * k := by rw [List.length_append, h2]; omega
  rw [← hd]
  unfold bytesS
  rw [e, ← List.append_assoc (headS u), List.append_assoc, List.drop_append, List.drop_eq_nil_of_le (by omega), hl, Nat.sub_self, List.drop_zero, List.nil_append, List.append_assoc, List.take_append_of_le_length (by omega), List.take_of_length_le (by omega)]
structure OwnT (w0 w : World) (t : Tbl) (f q : SV) : Prop where
  fs : NewF w0 w f t.fields
  rs : NewR w0 w q t.recs
theorem OwnT.pu {w0 w w' : World} {t : Tbl} {f q : SV} (h : OwnT w0 w t f q) (hp : Pu w w') : OwnT w0 w' t f q := ⟨h.fs.pu hp, h.rs.pu hp⟩
theorem OwnT.low {w0 w1 w : World} {t : Tbl} {f q : SV} (h : OwnT w1 w t f q) (hz : w0.heap.size <= w1.heap.size) : OwnT w0 w t f q := ⟨h.fs.low hz, h.rs.low hz⟩
theorem OwnT.one {w0 w w' : World} {b : Nat} {t : Tbl} {f q : SV} (h : OwnT w0 w t f q) (hf : Fr (· = b) w w') (hb : b < w0.heap.size) : OwnT w0 w' t f q := ⟨h.fs.fr hf fun k hk e => by have := h.fs.2 k hk; omega, h.rs.one hf hb⟩
structure Nice (t : Tbl) : Prop where
  page : In64 t.page
  f64 : F64 t.fields
  r64 : R64 t.recs
  fl : t.fields.length <= 255
  rl : t.recs.length <= 300
  nm : ∀ f ∈ t.fields, f.name.size <= 10
theorem OwnT.rd {w0 w : World} {t : Tbl} {f q : SV} (h : OwnT w0 w t f q) (hn : Nice t) : RdTbl w t f q := ⟨hn.page, h.fs.rd (by have := hn.fl; omega) hn.f64, h.rs.rd (by have := hn.rl; omega) hn.r64⟩
theorem Nice.lim {t : Tbl} (hn : Nice t) : Lim.ok t.fields := fun f hf => by
  have := hn.nm f hf
  show f.name.size <= 140737488355328
  omega
theorem Nice.zero : Nice ⟨0, [], []⟩ := ⟨⟨by decide, by decide⟩, fun f hf => by simp at hf, fun r hr => by simp at hr, by simp, by simp, fun f hf => by simp at hf⟩
theorem s35 : sizeB Tryz.prog 35 = 3 := by kernel_rfl
structure TblSt (w0 wr : World) (r2 r4 : Nat) (t : Tbl) (w : World) : Prop where
  ex : ∃ f q : SV, w.heap[r4]? = some (.cells #[.int .i64 t.page, .slice f.a f.len f.cap, .slice q.a q.len q.cap] 35) /\ OwnT wr w t f q
  b2 : w.heap[r2]? = some (.cells #[.int .i64 0, .slice none 0 0, .slice none 0 0] 35)
  sz : wr.heap.size <= w.heap.size
  pu : Pu w0 w
  l2 : r2 < wr.heap.size
  l4 : r4 < wr.heap.size
  ne : r2 ≠ r4
  z2 : w0.heap.size <= r2
  z4 : w0.heap.size <= r4
theorem TblSt.on {w0 wr w w' : World} {r2 r4 : Nat} {t : Tbl} (h : TblSt w0 wr r2 r4 t w) (hp : Pu w w') : TblSt w0 wr r2 r4 t w' := by
  obtain ⟨f, q, h1, h2⟩ := h.ex
  exact ⟨⟨f, q, hp.blk h1, h2.pu hp⟩, hp.blk h.b2, Nat.le_trans h.sz hp.size, h.pu.trans hp, h.l2, h.l4, h.ne, h.z2, h.z4⟩
theorem TblSt.putF {w0 wr w : World} {r2 r4 r : Nat} {t : Tbl} (h : TblSt w0 wr r2 r4 t w) {f q : SV} (h4 : w.heap[r4]? = some (.cells #[.int .i64 t.page, .slice f.a f.len f.cap, .slice q.a q.len q.cap] 35)) (ho : OwnT wr w t f q) {x : Fld} (hr : w.heap[r]? = some (.cells #[.string x.name, .int .i64 x.kind, .int .i64 x.width, .bool x.null] 23)) (hb : t.fields.length <= 1000000) :
    ∃ (f' : SV) (w1 : World), (Builtin.append_ #[32, 32] 32 #[.slice f.a f.len f.cap, .slice (some ⟨r, 0, none⟩) 1 1]).run Tryz.prog w = .ok (.slice f'.a f'.len f'.cap) w1 /\
      ∀ K : World -> Prop, (∀ w', TblSt w0 wr r2 r4 ⟨t.page, t.fields ++ [x], t.recs⟩ w' -> K w') -> st1 ((⟨r4, 0, none⟩ : Addr).add 1) (.slice f'.a f'.len f'.cap) w1 K := by
  obtain ⟨f', w1, e1, r1, f1⟩ := ho.fs.push h.sz hr rfl hb
  have n4 : ¬ r4 ∈ blkOf f := fun hc => by have := ho.fs.2 _ hc; have := h.l4; omega
  have n2 : ¬ r2 ∈ blkOf f := fun hc => by have := ho.fs.2 _ hc; have := h.l2; omega
  refine ⟨f', w1, e1, fun K hK => ?_⟩
  rw [add_def, Nat.zero_add]
  refine st1_intro (f1.blk h4 n4) (by simp) fun wx ex hbx => hK wx ?_
  have fx : Fr (· = r4) w1 wx := by rw [ex]; exact Fr.cell w1 _ _ _
  have zx : wx.heap.size = w1.heap.size := by rw [ex]; simp
  have z1 := f1.size
  have hne := h.ne
  have hsz := h.sz
  have hz4 := h.z4
  have hl4 := h.l4
  have rs1 : NewR wr w1 q t.recs := by
    obtain ⟨qs, a1, a2, a3, a4⟩ := ho.rs
    exact ⟨qs, a1.fr f1 (rows_apart a1 ho.fs.1 (by decide)), a2, a3, fun i r' x' hr' hx' => ⟨(a4 i r' x' hr' hx').1, (a4 i r' x' hr' hx').2.fr f1 (rows_apart (a4 i r' x' hr' hx').2.1 ho.fs.1 (by decide))⟩⟩
  refine ⟨⟨f', q, hbx, ⟨r1.fr fx fun i hi => by have := r1.2 i hi; omega, rs1.one fx hl4⟩⟩, fx.blk (f1.blk h.b2 n2) (by omega), by omega, ?_, h.l2, h.l4, h.ne, h.z2, h.z4⟩
  have p1 : Pu w0 w1 := h.pu.andNew f1 fun i hi => by have := ho.fs.2 i hi; omega
  exact p1.andNew fx fun i hi => by omega
theorem TblSt.putR {w0 wr w : World} {r2 r4 r : Nat} {t : Tbl} (h : TblSt w0 wr r2 r4 t w) {f q qv : SV} (h4 : w.heap[r4]? = some (.cells #[.int .i64 t.page, .slice f.a f.len f.cap, .slice q.a q.len q.cap] 35)) (ho : OwnT wr w t f q) {g : Bool} {vs : List Val} (hv : NewV wr w qv vs) (hr : w.heap[r]? = some (.cells #[.bool g, .slice qv.a qv.len qv.cap] 46)) (hb : t.recs.length <= 1000000) :
    ∃ (q' : SV) (w1 : World), (Builtin.append_ #[33, 33] 33 #[.slice q.a q.len q.cap, .slice (some ⟨r, 0, none⟩) 1 1]).run Tryz.prog w = .ok (.slice q'.a q'.len q'.cap) w1 /\
      ∀ K : World -> Prop, (∀ w', TblSt w0 wr r2 r4 ⟨t.page, t.fields, t.recs ++ [⟨g, vs⟩]⟩ w' -> K w') -> st1 ((⟨r4, 0, none⟩ : Addr).add 2) (.slice q'.a q'.len q'.cap) w1 K := by
  obtain ⟨q', w1, e1, r1, f1⟩ := ho.rs.push h.sz hv hr rfl hb
  have n4 : ¬ r4 ∈ blkOf q := fun hc => by have := ho.rs.own _ hc; have := h.l4; omega
  have n2 : ¬ r2 ∈ blkOf q := fun hc => by have := ho.rs.own _ hc; have := h.l2; omega
  refine ⟨q', w1, e1, fun K hK => ?_⟩
  rw [add_def, Nat.zero_add]
  refine st1_intro (f1.blk h4 n4) (by simp) fun wx ex hbx => hK wx ?_
  have fx : Fr (· = r4) w1 wx := by rw [ex]; exact Fr.cell w1 _ _ _
  have zx : wx.heap.size = w1.heap.size := by rw [ex]; simp
  have z1 := f1.size
  have hne := h.ne
  have hsz := h.sz
  have hz4 := h.z4
  have hl4 := h.l4
  have own := ho.rs.own
  have fs1 : NewF wr w1 f t.fields := by
    obtain ⟨qs, a1, a2, a3, a4⟩ := ho.rs
    exact ho.fs.fr f1 (rows_apart ho.fs.1 a1 (by decide))
  refine ⟨⟨f, q', hbx, ⟨fs1.fr fx fun i hi => by have := fs1.2 i hi; omega, r1.one fx hl4⟩⟩, fx.blk (f1.blk h.b2 n2) (by omega), by omega, ?_, h.l2, h.l4, h.ne, h.z2, h.z4⟩
  have p1 : Pu w0 w1 := h.pu.andNew f1 fun i hi => by have := own i hi; omega
  exact p1.andNew fx fun i hi => by omega
end Go.Proofs.YtecmfdfhpldmmaaGreatDoor

/- Table: the program's reading of a table's bytes. No condition. -/
set_option maxRecDepth 100000
set_option maxHeartbeats 2000000
set_option linter.unusedVariables false
set_option linter.unusedSimpArgs false
namespace Go.Proofs.YtecmfdfhpldmmaaGreatDoor
open Go.Sh Go.RowKit
def retT (R : Rt) (r2 r4 : Nat) (ok : Bool) (w : World) : Prop :=
  ptrE (some (⟨r4, 0, none⟩ : Addr)) fun a1 =>
  ∃ n122_0 : Int, w.cell? (a1.add 0) = some (.int .i64 n122_0) /\
  ∃ l122_1 : SV, w.cell? (a1.add 1) = some (.slice l122_1.a l122_1.len l122_1.cap) /\
  ∃ l122_2 : SV, w.cell? (a1.add 2) = some (.slice l122_2.a l122_2.len l122_2.cap) /\
  ptrE (some (⟨r2, 0, none⟩ : Addr)) fun a2 =>
  stA Tryz.prog 35 a2 #[.int .i64 n122_0, .slice l122_1.a l122_1.len l122_1.cap, .slice l122_2.a l122_2.len l122_2.cap] w fun w3 =>
  ptrE (some (⟨r2, 0, none⟩ : Addr)) fun a5 =>
  ∃ nR0_0 : Int, w3.cell? (a5.add 0) = some (.int .i64 nR0_0) /\
  ∃ lR0_1 : SV, w3.cell? (a5.add 1) = some (.slice lR0_1.a lR0_1.len lR0_1.cap) /\
  ∃ lR0_2 : SV, w3.cell? (a5.add 2) = some (.slice lR0_2.a lR0_2.len lR0_2.cap) /\
  R (.returned (.tuple #[.agg #[.int .i64 nR0_0, .slice lR0_1.a lR0_1.len lR0_1.cap, .slice lR0_2.a lR0_2.len lR0_2.cap], .bool ok])) w3
theorem retT_c {R : Rt} {w0 wr w : World} {r2 r4 : Nat} {t : Tbl} (h : TblSt w0 wr r2 r4 t w) (ok : Bool) (hR : ∀ f q w', OwnT wr w' t f q -> Pu w0 w' -> R (.returned (.tuple #[tblA t f q, .bool ok])) w') : retT R r2 r4 ok w := by
  obtain ⟨f, q, h4, ho⟩ := h.ex
  have hz := h.z2
  exact ⟨_, cl h4 0, f, cl h4 1, q, cl h4 2, stA_fill h.b2 s35.symm rfl rfl fun w5 hb5 hf5 hs5 => ⟨_, cl hb5 0, f, cl hb5 1, q, cl hb5 2, hR f q w5 (ho.one hf5 h.l2) (h.pu.andNew hf5 fun i hi => by omega)⟩⟩
def Parsed (d : List UInt8) (t : Tbl) (ok : Bool) : Prop := ∀ u, validT u = 0 -> bytesS u = d -> t = u /\ ok = true
theorem readTable_c {w : World} {s : SV} {d : List UInt8} (hb : ByV w s d) (hd : d.length <= 1000000000) : Calls Tryz.prog 80 #[.slice s.a s.len s.cap] w fun e w' => ∃ (t : Tbl) (f q : SV) (ok : Bool), e = .returned (.tuple #[tblA t f q, .bool ok]) /\ OwnT w w' t f q /\ Nice t /\ Pu w w' /\ Parsed d t ok := by
  have hsl := hb.len
  have hsc := hb.cap
  refine F80_calls _ w _ (alB fun w1 hp1 hb1 => alB fun w2 hp2 hb2 => ?_)
  have hp02 := hp1.trans hp2
  have lt1 : w.heap.size < w1.heap.size := blk_lt hb1
  have lt2 : w1.heap.size < w2.heap.size := blk_lt hb2
  have b12 := hp2.blk hb1
  have st0 : TblSt w w2 w.heap.size w1.heap.size ⟨0, [], []⟩ w2 := ⟨⟨⟨none, 0, 0⟩, ⟨none, 0, 0⟩, hb2, ⟨NewF.nil w2 w2, NewR.nil w2 w2⟩⟩, b12, Nat.le_refl _, hp02, by omega, lt2, by omega, Nat.le_refl _, by omega⟩
  have ret : ∀ {t : Tbl} {w' : World} (ok : Bool), TblSt w w2 w.heap.size w1.heap.size t w' -> Nice t -> Parsed d t ok -> retT (fun e w' => ∃ (t : Tbl) (f q : SV) (ok : Bool), e = .returned (.tuple #[tblA t f q, .bool ok]) /\ OwnT w w' t f q /\ Nice t /\ Pu w w' /\ Parsed d t ok) w.heap.size w1.heap.size ok w' := fun {t w'} ok st hn hc =>
    retT_c st ok fun f q w'' ho hp => ⟨t, f, q, ok, rfl, ho.low hp02.size, hn, hp, hc⟩
  have no : ∀ {t : Tbl} {ok : Bool}, (∀ u, validT u = 0 -> bytesS u = d -> False) -> Parsed d t ok := fun h u hv hu => (h u hv hu).elim
  have hlong : ∀ u, validT u = 0 -> bytesS u = d -> 14 <= d.length := fun u hv hu => by
    have ho := Okay.of hv
    have h1 := bytes_len ho hu
    have hf : 0 < u.fields.length := List.length_pos_iff.2 ho.ne
    have hw0 : 0 <= wide u.fields := by have := sum_le (WOk.of ho.all); unfold wide; omega
    have h2 : 0 <= (u.recs.length : Int) * wide u.fields := Int.mul_nonneg (by omega) hw0
    omega
  refine Br.of (fun q => ret false st0 Nice.zero (no fun u hv hu => by have := hlong u hv hu; have := dtrue q; omega)) (fun q => ?_)
  have h14 : 14 <= d.length := by have := dfalse q; omega
  clear q
  obtain ⟨b0, e0⟩ := at_k (l := d) (k := 0) (by omega)
  obtain ⟨b1, e1⟩ := at_k (l := d) (k := 1) (by omega)
  obtain ⟨b10, e10⟩ := at_k (l := d) (k := 10) (by omega)
  have hb12 := hb.pu hp02
  obtain ⟨a0, ha0, hc0⟩ := hb12.get _ _ e0
  obtain ⟨a1, ha1, hc1⟩ := hb12.get _ _ e1
  refine ⟨a0, ha0, by omega, by omega, _, hc0, Br.of (fun q => ret false st0 Nice.zero (no fun u hv hu => ?_)) (fun q => ⟨a1, ha1, by omega, by omega, _, hc1, ?_⟩)⟩
  · have h1 := (bytes_at hu).1
    rw [e0] at h1
    have h1 := Option.some.inj h1
    rw [h1] at q; exact bntrue q rfl
  have n1 := b1.toNat_lt
  have n10 := b10.toNat_lt
  rw [wrap_in (n := ((b1.toNat : Nat) : Int)) (by omega) (by omega)]
  refine st1_intro hb2 (by decide) fun w3 hw3 hb3 => dwE_intro fun w4 hp4 _ => ?_
  have fr3 : Fr (· = w1.heap.size) w2 w3 := by rw [hw3]; exact Fr.cell w2 _ _ _
  have z3 : w3.heap.size = w2.heap.size := by rw [hw3]; simp
  have st4 : TblSt w w2 w.heap.size w1.heap.size ⟨((b1.toNat : Nat) : Int), [], []⟩ w4 := (⟨⟨⟨none, 0, 0⟩, ⟨none, 0, 0⟩, hb3, ⟨NewF.nil w2 w3, NewR.nil w2 w3⟩⟩, fr3.blk b12 (by omega), by omega, hp02.andNew fr3 fun i hi => by omega, by omega, lt2, by omega, Nat.le_refl _, by omega⟩ : TblSt w w2 w.heap.size w1.heap.size ⟨((b1.toNat : Nat) : Int), [], []⟩ w3).on hp4
  obtain ⟨a10, ha10, hc10⟩ := (hb.pu st4.pu).get _ _ e10
  refine ⟨fun u => Pu w4 u, Pu.refl _, a10, ha10, by omega, by omega, _, fun u hu => hu.cell hc10, a10, ha10, by omega, by omega, _, fun u hu => hu.cell hc10, ?_⟩
  rw [wrap_in (n := ((b10.toNat : Nat) : Int)) (by omega) (by omega)]
  refine (headLen_c b10.toNat (by omega) w4).mono ?_
  rintro e w5 ⟨rfl, hp5⟩
  have st5 := st4.on hp5
  have pg : In64 ((b1.toNat : Nat) : Int) := ⟨by omega, by omega⟩
  have nice0 : Nice ⟨((b1.toNat : Nat) : Int), [], []⟩ := ⟨pg, fun f hf => by simp at hf, fun r hr => by simp at hr, by simp, by simp, fun f hf => by simp at hf⟩
  -- what a right table's bytes tell
  have pgu : ∀ u, validT u = 0 -> bytesS u = d -> u.page = ((b1.toNat : Nat) : Int) /\ u.fields.length = b10.toNat := fun u hv hu => by
    have ho := Okay.of hv
    obtain ⟨_, h1, _, h2⟩ := bytes_at hu
    rw [e1] at h1; rw [e10] at h2
    have h1 := Option.some.inj h1
    have h2 := Option.some.inj h2
    have hpg := ho.page
    unfold pageB at hpg
    simp only [Bool.and_eq_true, decide_eq_true_eq] at hpg
    have h16 := ho.n16
    have e1 := byteI_in (n := u.page) (by omega)
    have e2 := byteI_in (n := ((u.fields.length : Nat) : Int)) (by omega)
    rw [h1, h2]; omega
  refine ⟨_, rfl, hp5, Br.of (fun q => ret false st5 nice0 (no fun u hv hu => ?_)) (fun q => ?_)⟩
  · have h1 := bytes_len (Okay.of hv) hu
    have h2 := (pgu u hv hu).2
    have hw0 : 0 <= wide u.fields := by have := sum_le (WOk.of (Okay.of hv).all); unfold wide; omega
    have h3 : 0 <= (u.recs.length : Int) * wide u.fields := Int.mul_nonneg (by omega) hw0
    have := dtrue q
    omega
  have hbeg : 13 + 16 * b10.toNat <= d.length := by have := dfalse q; omega
  clear q
  refine loopUp b10.toNat (fun k t w' => t = (k : Int) /\ ∃ fs : List Fld, fs.length = k /\ F64 fs /\ (∀ f ∈ fs, f.name.size <= 10) /\ TblSt w w2 w.heap.size w1.heap.size ⟨((b1.toNat : Nat) : Int), fs, []⟩ w' /\ ∀ u, validT u = 0 -> bytesS u = d -> fs = u.fields.take k) ⟨rfl, [], rfl, fun f hf => by simp at hf, fun f hf => by simp at hf, st5, fun u _ _ => by simp⟩ ?_
  rintro k J t w6 hk ⟨ht, fs, hfl, hf64, hfn, st, hcond⟩ hJ
  obtain rfl : t = (k : Int) := ht
  refine Br.of (fun q => dwE_intro fun w7 hp7 _ => ?_) (fun q => ?_)
  · have hk2 : k < b10.toNat := by have := dtrue q; omega
    have st7 := st.on hp7
    obtain ⟨f, qr, h4, ho⟩ := st7.ex
    obtain ⟨l58, e58, h58⟩ := (hb.pu st7.pu).part3 (lo := 12 + 16 * k) (hi := 28 + 16 * k) (by omega) (by omega)
    rw [show 28 + 16 * k - (12 + 16 * k) = 16 by omega] at h58
    refine ⟨fun u => Pu w7 u, Pu.refl _, f, fun u hu => cl (hu.blk h4) 1, ?_⟩
    rw [wrap_in (n := 16 * (k : Int)) (by omega) (by omega), wrap_in (n := 12 + 16 * (k : Int)) (by omega) (by omega), wrap_in (n := 28 + 16 * (k : Int)) (by omega) (by omega), show 12 + 16 * (k : Int) = ((12 + 16 * k : Nat) : Int) by omega, show 28 + 16 * (k : Int) = ((28 + 16 * k : Nat) : Int) by omega]
    refine ⟨l58, w7, e58, Pu.refl _, (readField_c h58 (by rw [List.length_take, List.length_drop]; omega)).mono ?_⟩
    rintro e w8 ⟨x, rfl, x1, x2, x3, hp8, hx⟩
    refine ⟨_, _, _, _, rfl, hp8, alB fun w9 hp9 hb9 => ⟨hp8.trans hp9, ?_⟩⟩
    have st9 := (st7.on hp8).on hp9
    obtain ⟨f', w10, e10', hK⟩ := st9.putF ((hp8.trans hp9).blk h4) (ho.pu (hp8.trans hp9)) hb9 (by show fs.length <= _; omega)
    refine ⟨f', w10, e10', hK _ fun w11 st11 => ?_⟩
    rw [wrap_in (by omega) (by omega)]
    refine hJ _ _ hk2 ⟨by omega, fs ++ [x], by simp [hfl], fun y hy => ?_, fun y hy => ?_, st11, fun u hv hu => ?_⟩
    · rcases List.mem_append.1 hy with hy | hy
      · exact hf64 y hy
      · simp at hy; subst hy; exact ⟨x1, x2⟩
    · rcases List.mem_append.1 hy with hy | hy
      · exact hfn y hy
      · simp at hy; subst hy; exact x3
    · obtain ⟨g, hg⟩ := at_k (l := u.fields) (k := k) (by have := (pgu u hv hu).2; omega)
      rw [take_at hg, ← hcond u hv hu]
      have ho2 := Okay.of hv
      rw [hx g (List.all_eq_true.1 ho2.all g (List.mem_of_getElem? hg)) (bytes_field ho2 hu hg).symm]
  have hk2 : k = b10.toNat := by have := dfalse q; omega
  subst hk2
  clear hJ J q
  have hfs : ∀ u, validT u = 0 -> bytesS u = d -> fs = u.fields := fun u hv hu => by
    rw [hcond u hv hu, List.take_of_length_le (by have := (pgu u hv hu).2; omega)]
  have nice1 : Nice ⟨((b1.toNat : Nat) : Int), fs, []⟩ := ⟨pg, hf64, fun r hr => by simp at hr, by show fs.length <= _; omega, by simp, hfn⟩
  obtain ⟨f, qr, h4, ho⟩ := st.ex
  refine ⟨f, cl h4 1, (validFields_c (ho.rd nice1).fields nice1.lim).mono ?_⟩
  rintro e w7 ⟨rfl, hp7⟩
  have st7 := st.on hp7
  refine ⟨_, rfl, Br.of (fun q => ret false st7 nice1 (no fun u hv hu => ?_)) (fun q => dwE_intro fun w8 hp8 _ => ?_)⟩
  · have := (Okay.of hv).vf
    rw [← hfs u hv hu] at this
    exact bntrue q this
  have hvf : validF fs = 0 := bnfalse q
  clear q
  obtain ⟨_, hall, _, h16, hw2⟩ := validF_ok hvf
  have hwok := WOk.of hall
  have hwide : 1 <= wide fs := by have := sum_le hwok; unfold wide; omega
  have st8 := st7.on hp8
  have h48 := (hp7.trans hp8).blk h4
  have ho8 := ho.pu (hp7.trans hp8)
  refine ⟨f, cl h48 1, by omega, by show 6 <= _; omega, by omega, by decide, (length_c (ho8.rd nice1).fields hwok).mono ?_⟩
  rintro e w9 ⟨rfl, hp9⟩
  have hnum := (hb.pu (st8.pu.trans hp9)).sub (lo := 2) (hi := 6) (by omega) (by omega)
  have hd4 : ((d.drop 2).take (6 - 2)).length = 4 := by rw [List.length_take, List.length_drop]; omega
  refine ⟨_, rfl, (number_c hnum hd4).mono ?_⟩
  rintro e w10 ⟨rfl, hp10⟩
  have st10 := (st8.on hp9).on hp10
  obtain ⟨cnt, hcnt⟩ : ∃ cnt, cnt = numN ((d.drop 2).take (6 - 2)) := ⟨_, rfl⟩
  rw [← hcnt]
  have hrl : ∀ u, validT u = 0 -> bytesS u = d -> u.recs.length = cnt := fun u hv hu => by
    have h1 := (bytes_at hu).2.2.1
    have h2 := (Okay.of hv).m300
    rw [hcnt, show 6 - 2 = 4 from rfl, h1, numN_low (by omega)]
  refine ⟨_, rfl, Br.of (fun q => ret false st10 nice1 (no fun u hv hu => by have := hrl u hv hu; have := (Okay.of hv).m300; have := dtrue q; omega)) (fun q => ?_)⟩
  have hc300 : cnt <= 300 := by have := dfalse q; omega
  clear q
  obtain ⟨W, hW⟩ : ∃ W : Nat, wide fs = (W : Int) := ⟨(wide fs).toNat, by omega⟩
  have hWl : W <= 2000 := by omega
  have hWc : W * cnt <= 600000 := Nat.mul_le_mul hWl hc300
  have eWc : (W : Int) * (cnt : Int) = ((W * cnt : Nat) : Int) := by omega
  rw [hW, eWc, wrap_in (n := ((W * cnt : Nat) : Int)) (by omega) (by omega), wrap_in (n := ((13 + 16 * b10.toNat : Nat) : Int) + ((W * cnt : Nat) : Int)) (by omega) (by omega), wrap_in (n := ((13 + 16 * b10.toNat : Nat) : Int) + ((W * cnt : Nat) : Int) + 1) (by omega) (by omega)]
  refine Br.of (fun q => ret false st10 nice1 (no fun u hv hu => ?_)) (fun q => ?_)
  · have h1 := bytes_len (Okay.of hv) hu
    have h2 := (pgu u hv hu).2
    rw [← hfs u hv hu, hW, hrl u hv hu] at h1
    rw [← hfs u hv hu] at h2
    have h3 : (cnt : Int) * (W : Int) = ((W * cnt : Nat) : Int) := by rw [Int.mul_comm]; exact eWc
    have := bntrue q
    omega
  have hdl : d.length = 13 + 16 * b10.toNat + W * cnt + 1 := by have := bnfalse q; omega
  clear q
  refine loopUp cnt (fun k t w' => t = (k : Int) /\ ∃ rs : List Rec, rs.length = k /\ R64 rs /\ TblSt w w2 w.heap.size w1.heap.size ⟨((b1.toNat : Nat) : Int), fs, rs⟩ w' /\ ∀ u, validT u = 0 -> bytesS u = d -> rs = u.recs.take k) ⟨rfl, [], rfl, fun r hr => by simp at hr, st10, fun u _ _ => by simp⟩ ?_
  rintro k J t w11 hk ⟨ht, rs, hrn, hr64, st11, hrc⟩ hJ
  obtain rfl : t = (k : Int) := ht
  have nice2 : Nice ⟨((b1.toNat : Nat) : Int), fs, rs⟩ := ⟨pg, hf64, hr64, by show fs.length <= _; omega, by show rs.length <= _; omega, hfn⟩
  refine Br.of (fun q => dwE_intro fun w12 hp12 _ => ?_) (fun q => ?_)
  · have hk2 : k < cnt := by have := dtrue q; omega
    have st12 := st11.on hp12
    obtain ⟨f, qr, h4, ho⟩ := st12.ex
    have hWk : W * k + W <= W * cnt := by rw [← Nat.mul_succ]; exact Nat.mul_le_mul_left W hk2
    have eWk : (W : Int) * (k : Int) = ((W * k : Nat) : Int) := by omega
    have eWk1 : (W : Int) * ((k : Int) + 1) = ((W * k + W : Nat) : Int) := by rw [Int.mul_add, eWk]; omega
    refine ⟨fun u => Pu w12 u, Pu.refl _, f, fun u hu => cl (hu.blk h4) 1, ?_⟩
    rw [wrap_in (n := (k : Int) + 1) (by omega) (by omega), eWk, eWk1, wrap_in (n := ((W * k : Nat) : Int)) (by omega) (by omega), wrap_in (n := ((W * k + W : Nat) : Int)) (by omega) (by omega), wrap_in (n := ((13 + 16 * b10.toNat : Nat) : Int) + ((W * k : Nat) : Int)) (by omega) (by omega), wrap_in (n := ((13 + 16 * b10.toNat : Nat) : Int) + ((W * k + W : Nat) : Int)) (by omega) (by omega)]
    have elo : (((13 + 16 * b10.toNat : Nat) : Int) + ((W * k : Nat) : Int)).toNat = 13 + 16 * b10.toNat + W * k := by omega
    have ehi : (((13 + 16 * b10.toNat : Nat) : Int) + ((W * k + W : Nat) : Int)).toNat = 13 + 16 * b10.toNat + W * k + W := by omega
    rw [elo, ehi]
    have hpart : ∀ {wz}, Pu w12 wz -> ByV wz ⟨if s.cap = 13 + 16 * b10.toNat + W * k then s.a else s.a.map (fun x => x.add ((13 + 16 * b10.toNat + W * k) * 1)), 13 + 16 * b10.toNat + W * k + W - (13 + 16 * b10.toNat + W * k), s.cap - (13 + 16 * b10.toNat + W * k)⟩ ((d.drop (13 + 16 * b10.toNat + W * k)).take W) := fun {wz} hz => by
      have := (hb.pu (st12.pu.trans hz)).sub (lo := 13 + 16 * b10.toNat + W * k) (hi := 13 + 16 * b10.toNat + W * k + W) (by omega) (by omega)
      rw [show (d.drop (13 + 16 * b10.toNat + W * k)).take (13 + 16 * b10.toNat + W * k + W - (13 + 16 * b10.toNat + W * k)) = (d.drop (13 + 16 * b10.toNat + W * k)).take W by rw [Nat.add_sub_cancel_left]] at this
      exact this
    have hplen : (((d.drop (13 + 16 * b10.toNat + W * k)).take W).length : Int) = wide fs := by rw [List.length_take, List.length_drop, hW]; omega
    have hrowu : ∀ u, validT u = 0 -> bytesS u = d -> ∀ r, u.recs[k]? = some r -> RightR fs u.page r.v /\ rowS shownS fs r = (d.drop (13 + 16 * b10.toNat + W * k)).take W := fun u hv hu r hr => by
      have ho2 := Okay.of hv
      have h1 := bytes_row ho2 hu hr
      have h2 := (pgu u hv hu).2
      have h3 := hfs u hv hu
      rw [h2, ← h3, hW, Int.toNat_natCast] at h1
      exact ⟨by rw [h3]; exact ho2.recs r (List.mem_of_getElem? hr), h1.symm⟩
    -- behind the row
    have tail : ∀ {wz : World} {r11 : Nat} {g ok : Bool} {vs : List Val} {qv : SV}, Pu w12 wz -> NewV w12 wz qv vs -> vs.length = fs.length -> V64 vs -> (∀ (r : Rec) (p : Int), RightR fs p r.v -> rowS shownS fs r = (d.drop (13 + 16 * b10.toNat + W * k)).take W -> g = r.gone /\ vs = r.v /\ ok = true) -> wz.heap[r11]? = some (.cells #[.bool g, .slice qv.a qv.len qv.cap] 46) ->
        Br (!ok) (retT (fun e w' => ∃ (t : Tbl) (f q : SV) (ok : Bool), e = .returned (.tuple #[tblA t f q, .bool ok]) /\ OwnT w w' t f q /\ Nice t /\ Pu w w' /\ Parsed d t ok) w.heap.size w1.heap.size false wz) (
          ptrE (some (⟨w1.heap.size, 0, none⟩ : Addr)) fun a16 => ∃ l116 : SV, wz.cell? (a16.add 2) = some (.slice l116.a l116.len l116.cap) /\
          ∃ b117_0 : Bool, wz.cell? ((⟨r11, 0, none⟩ : Addr).add 0) = some (.bool b117_0) /\ ∃ l117_1 : SV, wz.cell? ((⟨r11, 0, none⟩ : Addr).add 1) = some (.slice l117_1.a l117_1.len l117_1.cap) /\
          alE (.cells #[.bool b117_0, .slice l117_1.a l117_1.len l117_1.cap] 46) wz fun r118 w17 => ∃ l119 : SV, ∃ w18 : World, (Builtin.append_ #[33, 33] 33 #[.slice l116.a l116.len l116.cap, .slice (some ⟨r118, 0, none⟩) 1 1]).run Tryz.prog w17 = .ok (.slice l119.a l119.len l119.cap) w18 /\
          ptrE (some (⟨w1.heap.size, 0, none⟩ : Addr)) fun a19 => st1 (a19.add 2) (.slice l119.a l119.len l119.cap) w18 fun w20 => J ((k : Int) + 1) w20) := fun {wz r11 g ok vs qv} hz hv hvl hv64 hcv hb11 => by
      have stz := st12.on hz
      refine Br.of (fun q1 => ret false stz nice2 (no fun u hv hu => ?_)) (fun q1 => ?_)
      · obtain ⟨r, hr⟩ := at_k (l := u.recs) (k := k) (by have := hrl u hv hu; omega)
        obtain ⟨h1, h2⟩ := hrowu u hv hu r hr
        rw [(hcv r u.page h1 h2).2.2] at q1; cases q1
      · refine ⟨qr, cl (hz.blk h4) 2, g, cl hb11 0, qv, cl hb11 1, alB fun w13 hp13 hb13 => ?_⟩
        obtain ⟨q', w14, e14, hK⟩ := (stz.on hp13).putR ((hz.trans hp13).blk h4) (ho.pu (hz.trans hp13)) ((hv.pu hp13).low st12.sz) hb13 (by show rs.length <= _; omega)
        refine ⟨q', w14, e14, hK _ fun w15 st15 => hJ _ _ hk2 ⟨by omega, rs ++ [⟨g, vs⟩], by simp [hrn], fun y hy => ?_, st15, fun u hv hu => ?_⟩⟩
        · rcases List.mem_append.1 hy with hy | hy
          · exact hr64 y hy
          · simp at hy; subst hy; exact ⟨hv64, by show vs.length <= _; omega⟩
        · obtain ⟨r, hr⟩ := at_k (l := u.recs) (k := k) (by have := hrl u hv hu; omega)
          obtain ⟨h1, h2⟩ := hrowu u hv hu r hr
          obtain ⟨c1, c2, _⟩ := hcv r u.page h1 h2
          rw [take_at hr, ← hrc u hv hu, c1, c2]
    refine ⟨by omega, by omega, by omega, by omega, (readRow_c (ho.rd nice2).fields hall h16 (hpart (Pu.refl _)) hplen).mono ?_, alB fun w13 hp13 hb13 => ⟨hp13, (readRow_c ((ho.pu hp13).rd nice2).fields hall h16 (hpart hp13) hplen).mono ?_⟩⟩
    · rintro e w13 ⟨g, ok, vs, qv, rfl, v1, v2, v3, hp13, v4⟩
      exact ⟨g, qv, ok, rfl, boxA rfl s46.symm rfl fun w14 hp14 hs14 hb14 => tail (hp13.trans hp14) (v1.pu hp14) v2 v3 v4 hb14⟩
    · rintro e w14 ⟨g, ok, vs, qv, rfl, v1, v2, v3, hp14, v4⟩
      have lt13 : w12.heap.size < w13.heap.size := blk_lt hb13
      refine ⟨g, qv, ok, rfl, stA_fill (hp14.blk hb13) s46.symm rfl rfl fun w15 hb15 hf15 hs15 => tail ((hp13.trans hp14).andNew hf15 fun i hi => by omega) ((v1.fr hf15 fun i hi e => by have := v1.2 i hi; omega).low hp13.size) v2 v3 v4 hb15⟩
  · have hk2 : k = cnt := by have := dfalse q; omega
    subst hk2
    refine ret true st11 nice2 fun u hv hu => ⟨?_, rfl⟩
    have h1 := hrc u hv hu
    rw [List.take_of_length_le (by have := hrl u hv hu; omega)] at h1
    rw [h1, hfs u hv hu, ← (pgu u hv hu).1]
end Go.Proofs.YtecmfdfhpldmmaaGreatDoor

/- Table: both packages' reading of a table's bytes. No condition. -/
set_option maxRecDepth 100000
set_option maxHeartbeats 2000000
set_option linter.unusedVariables false
set_option linter.unusedSimpArgs false
namespace Go.Proofs.YtecmfdfhpldmmaaGreatDoor
open Go.Sh Go.RowKit
def ReadOut (d : List UInt8) (t : Tbl) (c : Int) : Prop := (c = 0 /\ validT t = 0 /\ bytesS t = d /\ ∀ u, validT u = 0 -> bytesS u = d -> t = u) ∨ (c = 11 /\ t = ⟨0, [], []⟩ /\ ∀ u, validT u = 0 -> bytesS u ≠ d)
def ReadR (w : World) (d : List UInt8) : Rt := fun e w' => ∃ (t : Tbl) (f q : SV) (c : Int), e = .returned (.tuple #[tblA t f q, .int .i64 c]) /\ OwnT w w' t f q /\ Nice t /\ Pu w w' /\ ReadOut d t c
def zeroT (R : Rt) (r2 : Nat) (w : World) : Prop :=
  stA Tryz.prog 35 (⟨r2, 0, none⟩ : Addr) #[.int .i64 0, .slice none 0 0, .slice none 0 0] w fun w5 =>
  ∃ nR0_0 : Int, w5.cell? ((⟨r2, 0, none⟩ : Addr).add 0) = some (.int .i64 nR0_0) /\
  ∃ lR0_1 : SV, w5.cell? ((⟨r2, 0, none⟩ : Addr).add 1) = some (.slice lR0_1.a lR0_1.len lR0_1.cap) /\
  ∃ lR0_2 : SV, w5.cell? ((⟨r2, 0, none⟩ : Addr).add 2) = some (.slice lR0_2.a lR0_2.len lR0_2.cap) /\
  R (.returned (.tuple #[.agg #[.int .i64 nR0_0, .slice lR0_1.a lR0_1.len lR0_1.cap, .slice lR0_2.a lR0_2.len lR0_2.cap], .int .i64 11])) w5
theorem zeroT_c {w0 w : World} {d : List UInt8} {r2 : Nat} (hb : w.heap[r2]? = some (.cells #[.int .i64 0, .slice none 0 0, .slice none 0 0] 35)) (hp : Pu w0 w) (hr : w0.heap.size <= r2) (hno : ∀ u, validT u = 0 -> bytesS u ≠ d) : zeroT (ReadR w0 d) r2 w :=
  stA_fill hb s35.symm rfl rfl fun w5 hb5 hf5 hs5 => ⟨_, cl hb5 0, ⟨none, 0, 0⟩, cl hb5 1, ⟨none, 0, 0⟩, cl hb5 2, ⟨0, [], []⟩, ⟨none, 0, 0⟩, ⟨none, 0, 0⟩, 11, rfl, ⟨NewF.nil w0 w5, NewR.nil w0 w5⟩, Nice.zero, hp.andNew hf5 fun i hi => by omega, .inr ⟨rfl, rfl, hno⟩⟩
def copyT (R : Rt) (r2 r4 : Nat) (w : World) : Prop :=
  ∃ n122_0 : Int, w.cell? ((⟨r4, 0, none⟩ : Addr).add 0) = some (.int .i64 n122_0) /\
  ∃ l122_1 : SV, w.cell? ((⟨r4, 0, none⟩ : Addr).add 1) = some (.slice l122_1.a l122_1.len l122_1.cap) /\
  ∃ l122_2 : SV, w.cell? ((⟨r4, 0, none⟩ : Addr).add 2) = some (.slice l122_2.a l122_2.len l122_2.cap) /\
  stA Tryz.prog 35 (⟨r2, 0, none⟩ : Addr) #[.int .i64 n122_0, .slice l122_1.a l122_1.len l122_1.cap, .slice l122_2.a l122_2.len l122_2.cap] w fun w3 =>
  ∃ nR0_0 : Int, w3.cell? ((⟨r2, 0, none⟩ : Addr).add 0) = some (.int .i64 nR0_0) /\
  ∃ lR0_1 : SV, w3.cell? ((⟨r2, 0, none⟩ : Addr).add 1) = some (.slice lR0_1.a lR0_1.len lR0_1.cap) /\
  ∃ lR0_2 : SV, w3.cell? ((⟨r2, 0, none⟩ : Addr).add 2) = some (.slice lR0_2.a lR0_2.len lR0_2.cap) /\
  R (.returned (.tuple #[.agg #[.int .i64 nR0_0, .slice lR0_1.a lR0_1.len lR0_1.cap, .slice lR0_2.a lR0_2.len lR0_2.cap], .int .i64 0])) w3
theorem copyT_c {w0 wr w : World} {d : List UInt8} {r2 r4 : Nat} {t : Tbl} {f q : SV} (hb2 : w.heap[r2]? = some (.cells #[.int .i64 0, .slice none 0 0, .slice none 0 0] 35)) (h4 : w.heap[r4]? = some (.cells #[.int .i64 t.page, .slice f.a f.len f.cap, .slice q.a q.len q.cap] 35)) (ho : OwnT wr w t f q) (hn : Nice t) (hp : Pu w0 w) (hr : w0.heap.size <= r2) (hl : r2 < wr.heap.size) (hz : w0.heap.size <= wr.heap.size)
    (hout : ReadOut d t 0) : copyT (ReadR w0 d) r2 r4 w :=
  ⟨_, cl h4 0, f, cl h4 1, q, cl h4 2, stA_fill hb2 s35.symm rfl rfl fun w5 hb5 hf5 hs5 => ⟨_, cl hb5 0, f, cl hb5 1, q, cl hb5 2, t, f, q, 0, rfl, (ho.one hf5 hl).low hz, hn, hp.andNew hf5 fun i hi => by omega, hout⟩⟩
theorem bytesEqual_c {w w0 : World} {s t : SV} {a b : List UInt8} (ha : NewRow w0 w s a) (hb : ByV w t b) : Calls Tryz.prog 81 #[.slice s.a s.len s.cap, .slice t.a t.len t.cap] w fun e w' => e = .returned (.bool (decide (a = b))) /\ Pu w w' := by
  refine F81_calls _ _ w _ ⟨_, w, conv_str ha, _, w, conv_by hb, ?_, Pu.refl w⟩
  rw [toList_beq]
  congr 2
  exact dec_eq ⟨fun h => by rw [← bs_list a, h, bs_list], fun h => by rw [h]⟩
theorem read_c {w : World} {s : SV} {d : List UInt8} (hb : ByV w s d) (hd : d.length <= 1000000000) : Calls Tryz.prog 41 #[.slice s.a s.len s.cap] w (ReadR w d) := by
  refine F41_calls _ w _ (alB fun w1 hp1 hb1 => (readTable_c (hb.pu hp1) hd).mono ?_)
  rintro e w2 ⟨t, f, q, ok, rfl, ho, hn, hp2, hpar⟩
  have lt1 : w.heap.size < w1.heap.size := blk_lt hb1
  refine ⟨_, f, q, ok, rfl, boxA rfl s35.symm rfl fun w3 hp3 hs3 hb3 => ?_⟩
  have p3 := (hp1.trans hp2).trans hp3
  have ho3 := ho.pu hp3
  refine Br.of (fun d1 => zeroT_c ((hp2.trans hp3).blk hb1) p3 (Nat.le_refl _) fun u hv hu => ?_) (fun d1 => ⟨_, cl hb3 0, f, cl hb3 1, q, cl hb3 2, (validTbl_c (ho3.rd hn) hn.lim).mono ?_⟩)
  · rw [(hpar u hv hu).2] at d1; cases d1
  rintro e w4 ⟨rfl, hp4⟩
  have p4 := p3.trans hp4
  have b3 := hp4.blk hb3
  have ho4 := ho3.pu hp4
  refine ⟨_, rfl, Br.of (fun d1 => zeroT_c (((hp2.trans hp3).trans hp4).blk hb1) p4 (Nat.le_refl _) fun u hv hu => ?_) (fun d1 => ⟨_, cl b3 0, f, cl b3 1, q, cl b3 2, ?_⟩)⟩
  · rw [(hpar u hv hu).1] at d1; exact bntrue d1 hv
  have hv0 : validT t = 0 := bnfalse d1
  refine (tblBytes_c (ho4.rd hn) (Okay.of hv0)).mono ?_
  rintro e w5 ⟨o, rfl, ho5, hp5⟩
  refine ⟨o, rfl, (bytesEqual_c ho5 (hb.pu (p4.trans hp5))).mono ?_⟩
  rintro e w6 ⟨rfl, hp6⟩
  have p46 := hp5.trans hp6
  refine ⟨_, rfl, Br.of (fun d1 => zeroT_c ((((hp2.trans hp3).trans hp4).trans p46).blk hb1) (p4.trans p46) (Nat.le_refl _) fun u hv hu => ?_) (fun d1 => ?_)⟩
  · rw [(hpar u hv hu).1, decide_eq_true hu] at d1; cases d1
  have hbt : bytesS t = d := by simpa using d1
  exact copyT_c ((((hp2.trans hp3).trans hp4).trans p46).blk hb1) (p46.blk b3) (ho4.pu p46) hn (p4.trans p46) (Nat.le_refl _) lt1 hp1.size (.inl ⟨rfl, hv0, hbt, fun u hv hu => (hpar u hv hu).1⟩)
end Go.Proofs.YtecmfdfhpldmmaaGreatDoor

/- Table: the laws on the reading of bytes. No condition. -/
set_option maxRecDepth 100000
set_option maxHeartbeats 1000000
set_option linter.unusedVariables false
set_option linter.unusedSimpArgs false
namespace Go.Proofs.YtecmfdfhpldmmaaGreatDoor
open Go.Sh Go.RowKit
theorem bytesS_len {t : Tbl} (h : validT t = 0) : (bytesS t).length <= 1000000 := by
  have ho := Okay.of h
  have h1 := bytes_len ho rfl
  have hw0 : 0 <= wide t.fields := by have := sum_le (WOk.of ho.all); unfold wide; omega
  have h3 : (t.recs.length : Int) * wide t.fields <= 300 * 2000 := Int.mul_le_mul (by have := ho.m300; omega) ho.w2 hw0 (by omega)
  have := ho.n16
  omega
theorem place_in {n : Int} {L : Nat} (h : 0 < L) (hL : L <= 1000000) : 0 <= (IntKind.i64.wrap (n.tmod (L : Int) + (L : Int))).tmod (L : Int) /\ (IntKind.i64.wrap (n.tmod (L : Int) + (L : Int))).tmod (L : Int) < (L : Int) := by
  have h1 := Int.tmod_lt_of_pos n (show (0 : Int) < (L : Int) by omega)
  have h2 := Int.lt_tmod_of_pos n (show (0 : Int) < (L : Int) by omega)
  rw [wrap_in (by omega) (by omega)]
  exact ⟨Int.tmod_nonneg _ (by omega), Int.tmod_lt_of_pos _ (by omega)⟩
theorem NewRow.set {w1 w : World} {s : SV} {l : List UInt8} (h : NewRow w1 w s l) (hp : Pu w1 w) {i : Nat} (hi : i < l.length) (b : UInt8) : ∃ a, s.a = some a /\ ∀ K : World -> Prop, (∀ w', NewRow w1 w' s (l.set i b) -> Pu w1 w' -> K w') -> st1 (a.add i) (u8V b) w K := by
  obtain ⟨a, ha, _⟩ := h.1.st1 (j := i) (by simpa using hi) (u8V b) (K := fun _ => True) fun _ _ _ _ => trivial
  refine ⟨a, ha, fun K hK => ?_⟩
  obtain ⟨a', ha', hst⟩ := h.1.st1 (j := i) (by simpa using hi) (u8V b) (K := K) fun w' h1 h2 _ => hK w' ⟨by rw [List.map_set]; exact h1, h.2⟩ (hp.andNew h2 fun i hi => h.2 i hi)
  rw [ha] at ha'; cases ha'
  exact hst
theorem tableSpoils_c (w : World) (t : Tbl) (f r : SV) (h : RdTbl w t f r) (hl : Lim.ok t) (n : Int) (_ : In64 n) (b : UInt8) : Calls Tryz.prog 10 #[tblA t f r, .int .i64 n, .int .u8 ((b.toNat : Nat) : Int)] w fun e w' => e = .returned (.bool true) /\ Pu w w' := by
  have hlf : Lim.ok t.fields := hl.1
  refine F10_calls _ _ _ _ _ w _ (alB fun w1 hp1 hb1 => ?_)
  have b1 : ∀ {wz}, Pu w1 wz -> _ := fun {wz} (h : Pu w1 wz) => tbl_blk (t := t) (f := f) (q := r) (h.blk hb1)
  have h1 := h.pu hp1
  have kn : ∀ {wz : World}, Pu w wz -> Calls Tryz.prog 12 #[] wz fun e w' => ∃ bb : Bool, e = .returned (.bool bb) /\ (Ending.returned (.bool bb) = .returned (.bool true) /\ Pu w w') := fun {wz} hz => by
    refine (known_c wz).mono ?_
    rintro e w' ⟨rfl, hp'⟩
    exact ⟨_, rfl, rfl, hz.trans hp'⟩
  refine ⟨_, (b1 (Pu.refl _)).1, _, (b1 (Pu.refl _)).2.1, _, (b1 (Pu.refl _)).2.2, (over_c h1).mono ?_⟩
  rintro e w2 ⟨x, rfl, hp2⟩
  refine ⟨x, rfl, Br.of (fun _ => kn (hp1.trans hp2)) (fun _ => ⟨_, (b1 hp2).1, _, (b1 hp2).2.1, _, (b1 hp2).2.2, (bytesE_c (h1.pu hp2) hlf).mono ?_⟩)⟩
  rintro e w3 ⟨q3, rfl, hq3, hp3⟩
  have p3 := (hp1.trans hp2).trans hp3
  refine ⟨q3, _, rfl, Br.of (fun _ => kn p3) (fun d => Br.of (fun _ => kn p3) (fun d1 => ?_))⟩
  have hv : validT t = 0 := bnfalse d
  have hbo : bytesOut t = bytesS t := by unfold bytesOut; rw [if_pos hv]
  rw [hbo] at hq3
  have hbl := bytesS_len hv
  have hl3 := hq3.len
  have hpos : 0 < (bytesS t).length := by have := bfalse d1; omega
  obtain ⟨l40, w4, e4, r4, p4⟩ := (NewRow.nil w3 w3).cat (Pu.refl w3) (m := q3) (news := bytesS t) hl3 (fun j x hj => hq3.cell hj) (by simp; omega)
  rw [List.nil_append] at r4
  have hl4 := r4.len
  have hne : (((bytesS t).length : Nat) : Int) ≠ 0 := by omega
  obtain ⟨i1, i2⟩ := place_in (n := n) hpos (by omega)
  rw [hl3] at e4 ⊢
  refine ⟨rfl, hne, rfl, hne, l40, w4, e4, ?_⟩
  obtain ⟨i, hi⟩ : ∃ i : Nat, (IntKind.i64.wrap (n.tmod (((bytesS t).length : Nat) : Int) + (((bytesS t).length : Nat) : Int))).tmod (((bytesS t).length : Nat) : Int) = (i : Int) := ⟨_, (Int.toNat_of_nonneg i1).symm⟩
  rw [hi] at i1 i2 ⊢
  clear hi
  rw [Int.toNat_natCast, Nat.mul_one]
  obtain ⟨a7, ha7, hK⟩ := r4.set p4 (i := i) (by omega) b
  refine ⟨a7, ha7, by omega, by omega, hK _ fun w5 r5 q5 => ?_⟩
  have p5 : Pu w w5 := p3.trans q5
  refine (read_c (r5.by (by simp; omega)) (by simp; omega)).mono ?_
  rintro e w6 ⟨u, fu, ru, c, rfl, ho, hn, hp6, hout⟩
  refine ⟨_, fu, ru, c, rfl, boxA rfl s35.symm rfl fun w7 hp7 hs7 hb7 => Br.of (fun d2 => Br.t ?_ (kn ((p5.trans hp6).trans hp7))) (fun d2 => ⟨_, cl hb7 0, fu, cl hb7 1, ru, cl hb7 2, (bytesE_c ((ho.pu hp7).rd hn) hn.lim).mono ?_⟩)⟩
  · rcases hout with ⟨k1, _⟩ | ⟨k1, _⟩
    · exact absurd k1 (bntrue d2)
    · rw [k1]; rfl
  obtain ⟨k2, k3⟩ : validT u = 0 /\ bytesS u = (bytesS t).set i b := by
    rcases hout with ⟨_, k2, k3, _⟩ | ⟨k1, _⟩
    · exact ⟨k2, k3⟩
    · have := bnfalse d2; omega
  rintro e w8 ⟨q8, rfl, hq8, hp8⟩
  have hbu : bytesOut u = bytesS u := by unfold bytesOut; rw [if_pos k2]
  rw [hbu, k3] at hq8
  refine ⟨q8, _, rfl, Br.t (by rw [k2]; rfl) ((same_c (r5.pu ((hp6.trans hp7).trans hp8)) hq8).mono ?_)⟩
  rintro e w9 ⟨rfl, hp9⟩
  exact ⟨_, rfl, Br.t (by simp) (kn ((((p5.trans hp6).trans hp7).trans hp8).trans hp9))⟩
end Go.Proofs.YtecmfdfhpldmmaaGreatDoor
