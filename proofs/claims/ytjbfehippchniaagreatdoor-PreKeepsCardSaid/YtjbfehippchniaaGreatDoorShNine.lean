import Derived.Test.YtjbfehippchniaaGreatDoorShEight
/- Worlds and data: what a call that makes memory keeps, typed readings of slices, small laws on the model's runs. For every program. -/
namespace Go.Sh
open Go.RowKit
variable {P : Program}
/-- What was there is as it was; new blocks may have come. -/
abbrev Pu(w w':World):Prop:=Below w.heap.size w w'
theorem Pu.refl(w:World):Pu w w:=Below.refl _ _
theorem Pu.trans{a b c:World}(h:Pu a b)(k:Pu b c):Pu a c:=Below.trans h (k.mono h.size)
theorem Pu.drew(w:World):Pu w w.drew:=Below.drew (Pu.refl w)
theorem Pu.alloc(w:World)(o:Obj):Pu w (w.alloc o):=Below.alloc (Pu.refl w) (Nat.le_refl _) o
theorem Pu.cell{w w':World}(h:Pu w w'){a:Addr}{v:Value}(hc:w.cell? a=some v):w'.cell? a=some v:=by
  rw[Below.cell h (World.block_lt_of_cell? w a hc)];exact hc
theorem Pu.blk {w w':World} (h:Pu w w') {b:Nat} {o:Obj} (hb:w.heap[b]?=some o):w'.heap[b]?=some o:=by
  have hlt:b<w.heap.size:=(Array.getElem?_eq_some_iff.1 hb).1
  rw[h.block b hlt];exact hb
theorem Pu.lt{w w':World}(h:Pu w w'){b:Nat}(hb:b<w.heap.size):b<w'.heap.size:=Nat.lt_of_lt_of_le hb h.size
theorem alloc_new(w:World)(o:Obj):(w.alloc o).heap[w.heap.size]?=some o:=by
  show(w.heap.push o)[w.heap.size]?=some o
  simp
theorem cell_blk {w:World} {b:Nat} {c:Array Value} {e:TypeId} {f:Nat × Nat} (h:w.heap[b]?=some (.cells c e f)) (o:Nat):w.cell? ⟨b,o,none⟩=c[o]?:=by
  simp[World.cell?,h]
theorem frozen_blk {w:World} {b:Nat} {c:Array Value} {e:TypeId} (h:w.heap[b]?=some (.cells c e (0,0))) (o:Nat):w.frozen? ⟨b,o,none⟩=false:=by
  simp[World.frozen?,h]
theorem setCell_blk {w:World} {b:Nat} {c:Array Value} {e:TypeId} {f:Nat × Nat} (h:w.heap[b]?=some (.cells c e f)) (o:Nat) (v:Value):(w.setCell ⟨b,o,none⟩ v).heap[b]?=some (.cells (c.setIfInBounds o v) e f):=by
  show(w.heap.modify b _)[b]?=_
  rw[Array.getElem?_modify,if_pos rfl,h];rfl
theorem setCell_other{w:World}{a:Addr}{v:Value}{k:Nat}(h:k ≠ a.block):(w.setCell a v).heap[k]?=w.heap[k]?:=Below.heap_setCell w a v k h
theorem add_def(b o n:Nat):(⟨b,o,none⟩:Addr).add n=⟨b,o+n,none⟩:=by
  unfold Addr.add;split
  · rename_i h;subst h;rfl
  · rfl
/-- A new block, by itself. -/
theorem alE_intro{o:Obj}{w:World}{K:Nat → World → Prop}(h:∀w',w'=w.alloc o → K w.heap.size w'):alE o w K:=h _ rfl
theorem dwE_intro{w:World}{K:World → Prop}(h:∀w',Pu w w' → w'.heap=w.heap → K w'):dwE w K:=h _ (Pu.drew w) rfl
/-- A store into a block of which all is known. -/
theorem st1_intro {w:World} {b o:Nat} {v:Value} {c:Array Value} {e:TypeId} {K:World → Prop} (hb:w.heap[b]?=some (.cells c e (0,0))) (ho:o<c.size)
    (h:∀w',w'=w.setCell ⟨b,o,none⟩ v → w'.heap[b]?=some (.cells (c.setIfInBounds o v) e (0,0)) → K w'):st1 ⟨b,o,none⟩ v w K:=
  ⟨by rw[cell_blk hb];simp[ho],frozen_blk hb o,h _ rfl (setCell_blk hb o v)⟩
theorem wrap_in{n:Int}(h1:-9223372036854775808 ≤ n)(h2:n ≤ 9223372036854775807):IntKind.i64.wrap n=n:=Go.IntWalk.i64_in n ⟨h1,h2⟩
/-- Cells that stand in a row from an address on. -/
def CellsAt(w:World)(a:Addr)(vs:List Value):Prop:=∀j v,vs[j]?=some v → w.cell? (a.add j)=some v
theorem CellsAt.pu{w w':World}{a:Addr}{vs:List Value}(h:CellsAt w a vs)(hp:Pu w w'):CellsAt w' a vs:=λj v hv=>hp.cell (h j v hv)
/-- How a Go value of so many cells reads as data. -/
class Enc (α:Type) where
  sz:Nat
  rd:World → List Value → α → Prop
  len:∀{w vs x},rd w vs x → vs.length=sz
  pu:∀{w w' vs x},Pu w w' → rd w vs x → rd w' vs x
/-- A slice reads as a list. -/
structure RdSl{α:Type}[Enc α](w:World)(s:SV)(l:List α):Prop where
  len:s.len=l.length
  cap:s.len ≤ s.cap
  lim:s.len ≤ 140737488355328
  get:∀i x,l[i]?=some x → ∃a,s.a=some a ∧ ∃vs,Enc.rd w vs x ∧ CellsAt w (a.add (i * Enc.sz α)) vs
theorem RdSl.pu{α:Type}[Enc α]{w w':World}{s:SV}{l:List α}(h:RdSl w s l)(hp:Pu w w'):RdSl w' s l:=
  ⟨h.len,h.cap,h.lim,λi x hx=>let ⟨a,ha,vs,h1,h2⟩:=h.get i x hx;⟨a,ha,vs,Enc.pu hp h1,h2.pu hp⟩⟩
theorem RdSl.nil{α:Type}[Enc α](w:World)(a:Option Addr)(c:Nat):RdSl (α:=α) w ⟨a,0,c⟩ []:=⟨rfl,Nat.zero_le _,Nat.zero_le _,λi x hx=>by simp at hx⟩
instance:Enc ByteArray where
  sz:=1
  rd _ vs s:=vs=[.string s]
  len h:=by rw[h];rfl
  pu _ h:=h
instance:Enc Int where
  sz:=1
  rd _ vs n:=vs=[.int .i64 n] ∧ -9223372036854775808 ≤ n ∧ n ≤ 9223372036854775807
  len h:=by rw[h.1];rfl
  pu _ h:=h
instance {α:Type}[Enc α]:Enc (List α) where
  sz:=1
  rd w vs l:=∃s:SV,vs=[.slice s.a s.len s.cap] ∧ RdSl w s l
  len h:=by obtain⟨s,h,_⟩:=h;rw[h];rfl
  pu hp h:=let ⟨s,h1,h2⟩:=h;⟨s,h1,h2.pu hp⟩
theorem RdSl.str {w:World} {s:SV} {l:List ByteArray} (h:RdSl w s l) {i:Nat} {x:ByteArray} (hx:l[i]?=some x):∃a,s.a=some a ∧ i<s.len ∧ w.cell? (a.add (i * 1))=some (.string x):=by
  obtain⟨a,ha,vs,h1,h2⟩:=h.get i x hx
  have h1:vs=[.string x]:=h1
  subst h1
  have:=h2 0 (.string x) rfl
  have hi:i<l.length:=(List.getElem?_eq_some_iff.1 hx).1
  refine⟨a,ha,by rw[h.len];exact hi,?_⟩
  have e:∀a:Addr,a.add 0=a:=λa=>by simp[Addr.add]
  rw[e]at this
  exact this
theorem RdSl.int {w:World} {s:SV} {l:List Int} (h:RdSl w s l) {i:Nat} {x:Int} (hx:l[i]?=some x):∃a,s.a=some a ∧ i<s.len ∧ w.cell? (a.add (i * 1))=some (.int .i64 x) ∧ -9223372036854775808 ≤ x ∧ x ≤ 9223372036854775807:=by
  obtain⟨a,ha,vs,h1,h2⟩:=h.get i x hx
  obtain⟨h1,hr⟩:vs=[.int .i64 x] ∧ _:=h1
  subst h1
  have:=h2 0 (.int .i64 x) rfl
  have hi:i<l.length:=(List.getElem?_eq_some_iff.1 hx).1
  refine⟨a,ha,by rw[h.len];exact hi,?_,hr⟩
  have e:∀a:Addr,a.add 0=a:=λa=>by simp[Addr.add]
  rw[e]at this
  exact this
/-- A loop that counts a number up to a bound. -/
theorem loopUp {σ:Type} {F:(σ → World → Prop) → σ → World → Prop} {s:σ} {w:World} (N:Nat) (I:Nat → σ → World → Prop) (h0:I 0 s w)
    (hstep:∀(k:Nat) (J:σ → World → Prop) s w,k ≤ N → I k s w → (∀s' w',k<N → I (k+1) s' w' → J s' w') → F J s w):loopT F s w:=λJ hJ=>by
  have key:∀d k s w,N - k=d → k ≤ N → I k s w → J s w:=by
    intro d
    induction d with
    | zero=>intro k s w hd hk hI;exact hJ s w (hstep k J s w hk hI λs' w' hlt _=>by omega)
    | succ d ih=>intro k s w hd hk hI;exact hJ s w (hstep k J s w hk hI λs' w' hlt hI'=>ih (k+1) s' w' (by omega) hlt hI')
  exact key _ 0 s w rfl (Nat.zero_le _) h0
theorem stL_fill{b:Nat}{e:TypeId}:∀(vs:List Value) (i:Nat) (c:Array Value) (w:World) (K:World → Prop),w.heap[b]?=some (.cells c e (0,0)) → i+vs.length=c.size →
    (∀w',w'.heap[b]?=some (.cells (c.toList.take i ++ vs).toArray e (0,0)) → w'.heap.size=w.heap.size → (∀k,k ≠ b → w'.heap[k]?=w.heap[k]?) → w'.os=w.os → w'.tape=w.tape → w'.output=w.output → K w') →
    stL vs ⟨b,0,none⟩ i w K
  | [],i,c,w,K,hb,hl,h=>by
    refine h w ?_ rfl (λ_ _=>rfl) rfl rfl rfl
    rw[hb]
    simp only[List.length_nil,Nat.add_zero]at hl
    rw[List.append_nil,hl,←Array.length_toList,List.take_length,Array.toArray_toList]
  | v :: vs,i,c,w,K,hb,hl,h=>by
    simp only[List.length_cons]at hl
    show st1 ((⟨b,0,none⟩:Addr).add i) v w _
    rw[add_def,Nat.zero_add]
    refine st1_intro hb (by omega) λw1 hw1 hb1=>?_
    refine stL_fill vs (i+1) _ w1 K hb1 (by simp;omega) λw' h1 h2 h3 h4 h5 h6=>h w' ?_ ?_ ?_ ?_ ?_ ?_
    · rw[h1]
      have hi:i<c.toList.length:=by simp;omega
      congr 3
      rw[Array.toList_setIfInBounds,List.take_add_one,List.getElem?_set_self hi,List.take_set_of_le (Nat.le_refl i)]
      simp
    · rw[h2,hw1];simp
    · intro k hk;rw[h3 k hk,hw1];exact setCell_other (by simpa using hk)
    · rw[h4,hw1];rfl
    · rw[h5,hw1];rfl
    · rw[h6,hw1];rfl
theorem boxA{t e:TypeId}{zs vs:Array Value}{w:World}{K:Nat → World → Prop}(hz:zs.size=vs.size)(hs:vs.size=sizeB P t)(ho:vs.toList.all oneC=true)
    (h:∀w',Pu w w' → w'.heap.size=w.heap.size+1 → w'.heap[w.heap.size]?=some (.cells vs e (0,0)) → K w.heap.size w') :
    alE (.cells zs e) w λr w1=>stA P t ⟨r,0,none⟩ vs w1 λw2=>K r w2:=by
  refine⟨hs,ho,?_⟩
  refine stL_fill vs.toList 0 zs (w.alloc (.cells zs e)) _ (alloc_new w _) (by simp[hz]) λw' h1 h2 h3 h4 h5 h6=>?_
  refine h w' ⟨h4,h5,h6,by rw[h2];simp,λk hk=>?_⟩ (by rw[h2];simp) (by rw[h1];simp)
  rw[h3 k (by omega)]
  exact Below.heap_alloc w _ k hk
instance:Enc UInt8 where
  sz:=1
  rd _ vs b:=vs=[.int .u8 ((b.toNat:Nat):Int)]
  len h:=by rw[h];rfl
  pu _ h:=h
theorem RdSl.u8 {w:World} {s:SV} {l:List UInt8} (h:RdSl w s l) {i:Nat} {x:UInt8} (hx:l[i]?=some x):∃a,s.a=some a ∧ i<s.len ∧ w.cell? (a.add (i * 1))=some (.int .u8 ((x.toNat:Nat):Int)):=by
  obtain⟨a,ha,vs,h1,h2⟩:=h.get i x hx
  have h1:vs=[.int .u8 ((x.toNat:Nat):Int)]:=h1
  subst h1
  have:=h2 0 (.int .u8 ((x.toNat:Nat):Int)) rfl
  have hi:i<l.length:=(List.getElem?_eq_some_iff.1 hx).1
  refine⟨a,ha,by rw[h.len];exact hi,?_⟩
  have e:∀a:Addr,a.add 0=a:=λa=>by simp[Addr.add]
  rw[e]at this
  exact this
end Go.Sh
