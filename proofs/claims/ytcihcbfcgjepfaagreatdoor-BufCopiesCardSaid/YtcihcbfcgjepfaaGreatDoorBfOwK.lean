import Derived.Test.YtcihcbfcgjepfaaGreatDoorBfOwF
import Derived.Test.YtcihcbfcgjepfaaGreatDoorBfPrB
import Derived.Test.YtcihcbfcgjepfaaGreatDoorBfOwI
import Derived.Test.YtcihcbfcgjepfaaGreatDoorBfOwJ
import Derived.Test.YtcihcbfcgjepfaaGreatDoorBfPrC
/- Desks: the program's known desk: two users of one record. No condition but those stated. -/
set_option maxRecDepth 100000
set_option linter.unusedVariables false
set_option linter.unusedSimpArgs false
namespace Go.Proofs.YtcihcbfcgjepfaaGreatDoor
open Go.Sh Go.RowKit Tryz
variable {w w' : World} {d d' : zQs} {val : Nat -> List Val} {mu : Int}
structure One(w0 w:World)(d:zQs)(val:Nat->List Val)(σ:Dsk):Prop where
 pu:Pu w0 w
 at_:zQg w d 0 val
 abs:zQa d val=σ
 inv:Inv σ
 new:∀b,d.o b ≠ none->w0.heap.size<=b
theorem One.step{w0:World}{σ σ':Dsk}{val':Nat->List Val}(h:One w0 w d val σ)(hL:zQB w w' d d' 0 val')(ha:zQa d' val'=σ')(hI:Inv σ'):One w0 w' d' val' σ':=
 ⟨h.pu.andNew hL.fr λi hi=>h.new i hi,hL.sys,ha,hI,λb hb=>(hL.own b hb).elim (h.new b) λhz=>Nat.le_trans h.pu.size hz⟩
theorem One.plus{w0 w1:World}{σ:Dsk}(h:One w0 w d val σ)(hp:Pu w w1):One w0 w1 d val σ:=⟨h.pu.trans hp,h.at_.pu hp,h.abs,h.inv,h.new⟩
theorem yKO {α:Type} [Enc α] {b:Nat} {vs:List Value} {ty:TypeId} {x:α} (hb:w.heap[b]?=some (.cells vs.toArray ty)) (h:Enc.rd w vs x):zXP w ⟨some ⟨b,0,none⟩,1,1⟩ [x]:=
 ⟨rfl,Nat.le_refl _,(by show 1<=140737488355328;omega),λi y hy=>by
  cases i with
  | succ i=>simp at hy
  | zero=>
   simp at hy;subst hy
   refine⟨_,rfl,vs,h,λj v hv=>?_⟩
   rw[Nat.zero_mul,zKk,cl hb]
   simpa using hv⟩
def kA:ByteArray:=⟨#[65]⟩
def kT:Tbl:=⟨0,[⟨kA,2,5,false⟩],[⟨false,[⟨2,0,⟨#[]⟩⟩]⟩]⟩
def kV(n:Int):Val:=⟨2,n,⟨#[]⟩⟩
def kU(u:Nat)(σ:Dsk):Dsk:=setS u kA (kV ((u:Int)+1)) (goS u 1 (modeS u 2 σ))
def kS:Nat->Dsk
 | 0=>Dsk.new kT
 | k+1=>kU k (kS k)
theorem yWO:zQQ kT=0:=by decide +kernel
theorem k_mode(u:Nat)(hu:u<2):modeC u 2 (kS u)=0:=by
 rcases(by omega:u=0∨u=1)with rfl|rfl <;> decide +kernel
theorem k_go(u:Nat)(hu:u<2):goC u 1 (modeS u 2 (kS u))=0:=by
 rcases(by omega:u=0∨u=1)with rfl|rfl <;> decide +kernel
theorem k_set(u:Nat)(hu:u<2):setC u kA (kV ((u:Int)+1)) (goS u 1 (modeS u 2 (kS u)))=0:=by
 rcases(by omega:u=0∨u=1)with rfl|rfl <;> decide +kernel
def k3:Dsk:=storeES 0 false (kS 2)
def k4:Dsk:=storeES 1 false k3
def k5:Dsk:=storeES 1 true k4
theorem k_s1:storeE 0 false (kS 2)=0:=by decide +kernel
theorem k_s2:storeE 1 false k3=13:=by decide +kernel
theorem k_s3:storeE 1 true k4=0:=by decide +kernel
theorem k_now:nowR 1 kA k5=(kV 2,0):=by decide +kernel
theorem zZN{n:Int}(h1:0<=n)(h2:n<=1000):zJU n:=⟨by omega,by omega⟩
theorem yJV(S:Nat)(x y:Operand)(w:World):(eqS .eql 32 x y (.pointer (some ⟨S,0,none⟩)) (.pointer none)).run prog w=.ok (.bool false) w:=zXk xXA _ _ _ w
theorem yK6(w:World):Calls prog 10 #[] w λe w'=>e=.returned (.bool true)/\Pu w w':=by
 refine yYa w _ (alB λw1 al ay=>(yVp 0 w1).mono ?_)
 rintro e w2 ⟨rfl,aj⟩
 refine⟨_,_,_,rfl,alB λw3 am aH=>alB λw4 ar aZ=>?_⟩
 have aG:=al.trans aj
 have c8:=(aG.trans am).trans ar
 have b1:=ar.blk (am.blk (aj.blk ay))
 have b3:=ar.blk aH
 have rV:zXP w4 ⟨some ⟨w2.heap.size,0,none⟩,1,1⟩ [(⟨2,0,⟨#[]⟩⟩:Val)]:=yKO b3 ⟨rfl,zZN (by decide) (by decide),zZN (by decide) (by decide)⟩
 have rF:zXP w4 ⟨some ⟨w.heap.size,0,none⟩,1,1⟩ [(⟨kA,2,5,false⟩:Fld)]:=yKO b1 ⟨rfl,zZN (by decide) (by decide),zZN (by decide) (by decide)⟩
 have rR:zXP w4 ⟨some ⟨w3.heap.size,0,none⟩,1,1⟩ [(⟨false,[⟨2,0,⟨#[]⟩⟩]⟩:Rec)]:=yKO aZ ⟨_,rfl,rV⟩
 have rT:zJG w4 kT ⟨some ⟨w.heap.size,0,none⟩,1,1⟩ ⟨some ⟨w3.heap.size,0,none⟩,1,1⟩:=⟨zZN (by decide) (by decide),rF,rR⟩
 refine(new_c rT (by intro f hf;simp[kT]at hf;subst hf;show 1<=140737488355328;omega)).mono ?_
 rintro e w5 ⟨aB,-,hgood⟩
 obtain⟨d,val,rfl,hD,habs,hnew⟩:=hgood yWO
 have hI:=zVa yWO
 have hO:One w w5 d val (kS 0):=⟨c8.trans aB,hD,habs,hI,λb hb=>Nat.le_trans c8.size (hnew b hb)⟩
 refine⟨some ⟨d.S,0,none⟩,0,rfl,?_⟩
 show ∃b27:Bool,∃dQ:World,_/\_
 refine⟨false,w5,yJV _ _ _ w5,?_⟩
 show xJ1 _ _ _ _ _
 refine zQ1 2 (λk t w'=>t=(k:Int)/\∃dk valk,dk.S=d.S/\One w w' dk valk (kS k)) ⟨rfl,d,val,rfl,hO⟩ ?_
 rintro k J t w6 hk ⟨ht,dk,valk,hS,h6⟩ hJ
 obtain rfl:t=(k:Int):=ht
 have ep:(some ⟨d.S,0,none⟩:Option Addr)=some ⟨dk.S,0,none⟩:=by rw[hS]
 rw[ep]
 refine Br.of (λd1=>?_) (λd1=>?_)
 ·have ak:k<2:=by have:=zQm d1;omega
  refine(xZ6 h6.at_ (k:Int) 2).mono ?_
  rintro e w7 ⟨rfl,d7,hL7,ha7⟩
  rw[h6.abs]at ha7 ⊢
  rw[k_mode k ak]
  have h7:=h6.step hL7 ha7 (h6.inv.mode _ _)
  refine⟨_,rfl,?_⟩
  show Calls prog 15 #[dk.ptr,_,_] w7 _
  rw[show dk.ptr=d7.ptr by unfold zQs.ptr;rw[hL7.ptr]]
  refine(go_c h7.at_ (by rw[h7.abs];exact h7.inv) (k:Int) 1).mono ?_
  rintro e w8 ⟨rfl,d8,v8,hL8,ha8⟩
  rw[h7.abs]at ha8 ⊢
  rw[k_go k ak]
  have h8:=h7.step hL8 ha8 (h7.inv.go _ _)
  refine⟨_,rfl,?_⟩
  show Calls prog 37 _ w8 _
  rw[zQd (n:=(k:Int)+1) (by omega) (by omega)]
  refine(yVp ((k:Int)+1) w8).mono ?_
  rintro e w9 ⟨rfl,bR⟩
  have h9:=h8.plus bR
  refine⟨_,_,_,rfl,?_⟩
  rw[show(some ⟨dk.S,0,none⟩:Option Addr)=some ⟨d8.S,0,none⟩by rw[hL8.ptr,hL7.ptr]]
  refine(set_c h9.at_ (by rw[h9.abs];exact h9.inv) (k:Int) kA (kV ((k:Int)+1))).mono ?_
  rintro e au ⟨rfl,d10,v10,wt,ha10⟩
  rw[h9.abs]at ha10 ⊢
  rw[k_set k ak]
  have pN:=h9.step wt ha10 (h9.inv.set _ _ _)
  refine⟨_,rfl,?_⟩
  show J _ au
  refine hJ _ _ ak ⟨by omega,d10,v10,by rw[wt.ptr,hL8.ptr,hL7.ptr,hS],pN⟩
 ·have ak:k=2:=by have:=zQh d1;omega
  subst ak
  refine(zYz h6.at_ (by rw[h6.abs];exact h6.inv) 0 false).mono ?_
  rintro e w7 ⟨q7,rfl,-,d7,v7,hL7,ha7⟩
  rw[h6.abs]at ha7 ⊢
  rw[k_s1]
  have h7:=h6.step hL7 ha7 (h6.inv.storeE _ _)
  refine⟨q7,_,rfl,?_⟩
  rw[show(some ⟨dk.S,0,none⟩:Option Addr)=some ⟨d7.S,0,none⟩by rw[hL7.ptr]]
  refine(zYz h7.at_ (by rw[h7.abs];exact h7.inv) 1 false).mono ?_
  rintro e w8 ⟨q8,rfl,-,d8,v8,hL8,ha8⟩
  rw[h7.abs]at ha8 ⊢
  have e2:storeE 1 false (storeES 0 false (kS 2))=13:=k_s2
  rw[e2]
  have h8:=h7.step hL8 ha8 (h7.inv.storeE _ _)
  refine⟨q8,_,rfl,?_⟩
  rw[show(some ⟨d7.S,0,none⟩:Option Addr)=some ⟨d8.S,0,none⟩by rw[hL8.ptr]]
  refine(zYz h8.at_ (by rw[h8.abs];exact h8.inv) 1 true).mono ?_
  rintro e w9 ⟨q9,rfl,-,d9,v9,hL9,ha9⟩
  rw[h8.abs]at ha9 ⊢
  have e3:storeE 1 true (storeES 1 false (storeES 0 false (kS 2)))=0:=k_s3
  rw[e3]
  have h9:=h8.step hL9 ha9 (h8.inv.storeE _ _)
  refine⟨q9,_,rfl,?_⟩
  rw[show(some ⟨d8.S,0,none⟩:Option Addr)=some ⟨d9.S,0,none⟩by rw[hL9.ptr]]
  refine(now_c h9.at_ (by rw[h9.abs];exact h9.inv) 1 kA).mono ?_
  rintro e au ⟨rfl,wt⟩
  rw[h9.abs]
  have e4:nowR 1 kA (storeES 1 true (storeES 1 false (storeES 0 false (kS 2))))=(kV 2,0):=k_now
  rw[e4]
  have pN:=h9.step wt h9.abs h9.inv
  refine⟨_,_,_,_,rfl,alB λav cY bK=>zQj bK zWp.symm rfl rfl λao bL cQ _=>?_⟩
  have cV:Pu w ao:=(pN.pu.trans cY).andNew cQ λi hi=>by rw[show i=au.heap.size from hi];exact pN.pu.size
  show ∃n88:Int,_/\_
  exact⟨2,cl bL 1,rfl,cV⟩
end Go.Proofs.YtcihcbfcgjepfaaGreatDoor
/- Desks: both desks in one world; an act that is played on both. No condition but those stated. -/
namespace Go.Proofs.YtcihcbfcgjepfaaGreatDoor
open Go.Sh Go.RowKit Tryz
structure Duo(w0 w:World)(d:zQs)(val:Nat->List Val)(r:zQs)(rv:Nat->List Val)(σ ρ:Dsk):Prop where
 pu:Pu w0 w
 da:zQg w d 0 val
 ra:zQr w r rv
 dab:zQa d val=σ
 rab:zQa r rv=ρ
 ap:∀b,d.o b ≠ none->r.o b=none
 dn:∀b,d.o b ≠ none->w0.heap.size<=b
 rn:∀b,r.o b ≠ none->w0.heap.size<=b
section
variable {w0 w w' : World} {d d' r r' : zQs} {val val' rv rv' : Nat -> List Val} {σ ρ τ : Dsk}
theorem Duo.pgm(h:Duo w0 w d val r rv σ ρ)(hL:zQB w w' d d' 0 val')(ha:zQa d' val'=τ):Duo w0 w' d' val' r rv τ ρ where
 pu:=h.pu.andNew hL.fr λi hi=>h.dn i hi
 da:=hL.sys
 ra:=h.ra.fr hL.fr λb hb hd=>hb (h.ap b hd)
 dab:=ha
 rab:=h.rab
 ap b hb:=by
  rcases hL.own b hb with h1|h1
  ·exact h.ap b h1
  ·exact h.ra.bd.out h1
 dn b hb:=(hL.own b hb).elim (h.dn b) λhz=>Nat.le_trans h.pu.size hz
 rn:=h.rn
theorem Duo.ref(h:Duo w0 w d val r rv σ ρ)(hL:zQ7 w w' r r' rv')(ha:zQa r' rv'=τ):Duo w0 w' d val r' rv' σ τ where
 pu:=h.pu.andNew hL.fr λi hi=>h.rn i hi
 da:=h.da.fr hL.fr λb hb hr=>hr (h.ap b hb)
 ra:=hL.sys
 dab:=h.dab
 rab:=ha
 ap b hb:=by
  cases e:r'.o b with
  | none=>rfl
  | some κ=>
   rcases hL.own b (by rw[e];simp)with h1|h1
   ·exact absurd (h.ap b hb) h1
   ·exact absurd (h.da.bd.out h1) hb
 dn:=h.dn
 rn b hb:=(hL.own b hb).elim (h.rn b) λhz=>Nat.le_trans h.pu.size hz
theorem Duo.plus(h:Duo w0 w d val r rv σ ρ)(hp:Pu w w'):Duo w0 w' d val r rv σ ρ:=⟨h.pu.trans hp,h.da.pu hp,h.ra.pu hp,h.dab,h.rab,h.ap,h.dn,h.rn⟩
structure zKA(w:World)(d r:zQs)(b:Nat)(X:Obj):Prop where
 blk:w.heap[b]?=some X
 nd:d.o b=none
 nr:r.o b=none
theorem zKA.lt{b:Nat}{X:Obj}(h:zKA w d r b X):b<w.heap.size:=(Array.getElem?_eq_some_iff.1 h.blk).1
theorem zKA.pu {b:Nat} {c:Array Value} {e:TypeId} {f:Nat × Nat} (h:zKA w d r b (.cells c e f)) (hp:Pu w w'):zKA w' d r b (.cells c e f):=⟨hp.blk h.blk,h.nd,h.nr⟩
theorem zKA.pgm {b:Nat} {c:Array Value} {e:TypeId} {f:Nat × Nat} {mu:Int} (h:zKA w d r b (.cells c e f)) (hL:zQB w w' d d' mu val'):zKA w' d' r b (.cells c e f):=by
 refine⟨hL.fr.blk h.blk λe=>e h.nd,?_,h.nr⟩
 cases e:d'.o b with
 | none=>rfl
 | some κ=>
  rcases hL.own b (by rw[e];simp)with h1|h1
  ·exact absurd h.nd h1
  ·have:=h.lt;omega
theorem zKA.ref {b:Nat} {c:Array Value} {e:TypeId} {f:Nat × Nat} (h:zKA w d r b (.cells c e f)) (hL:zQ7 w w' r r' rv'):zKA w' d r' b (.cells c e f):=by
 refine⟨hL.fr.blk h.blk λe=>e h.nr,h.nd,?_⟩
 cases e:r'.o b with
 | none=>rfl
 | some κ=>
  rcases hL.own b (by rw[e];simp)with h1|h1
  ·exact absurd h.nr h1
  ·have:=h.lt;omega
theorem Duo.aside (h:Duo w0 w d val r rv σ ρ) {c:Array Value} {e:TypeId} {b:Nat} (hp:Pu w w') (hb:w'.heap[b]?=some (.cells c e)) (hz:w.heap.size<=b):zKA w' d r b (.cells c e):=⟨hb,h.da.bd.out hz,h.ra.bd.out hz⟩
def PlP(w0 w':World)(d r:zQs):Prop:=∃d' val' r' rv' σ' ρ',d'.S=d.S/\r'.S=r.S/\Duo w0 w' d' val' r' rv' σ' ρ'/\Eqv σ' ρ'/\Inv σ'/\Inv ρ'/\Md ρ'
theorem zYl {bV:World} {mZ f:Nat} {args:Array Value} {v:Val} {n:Int} (bK:bV.heap[mZ]?=some (.cells #[.int .i64 v.kind,.int .i64 v.n,.string v.s] 28)) (hC:Calls prog f args bV λe w'=>e=.returned (.tuple #[zZh v,.int .i64 n])/\Pu bV w') {Q:World->Prop} (hQ:∀y,Pu bV y->Q y) :
  Calls prog f args bV λe dR=>∃ge:Int,∃gg:Int,∃gh:ByteArray,∃kj:Int,e=.returned (.tuple #[.agg #[.int .i64 ge,.int .i64 gg,.string gh],.int .i64 kj])/\
   alE (.cells #[.int .i64 0,.int .i64 0,.string (⟨#[]⟩:ByteArray)] 28) dR λgC cR=>stA prog 28 (⟨gC,0,none⟩:Addr) #[.int .i64 ge,.int .i64 gg,.string gh] cR λdj=>
   ∃kl:Int,dj.cell? ((⟨mZ,0,none⟩:Addr).add 0)=some (.int .i64 kl)/\∃km:Int,dj.cell? ((⟨mZ,0,none⟩:Addr).add 1)=some (.int .i64 km)/\∃kq:ByteArray,dj.cell? ((⟨mZ,0,none⟩:Addr).add 2)=some (.string kq)/\
   ∃kr:Int,dj.cell? ((⟨gC,0,none⟩:Addr).add 0)=some (.int .i64 kr)/\∃ku:Int,dj.cell? ((⟨gC,0,none⟩:Addr).add 1)=some (.int .i64 ku)/\∃kv:ByteArray,dj.cell? ((⟨gC,0,none⟩:Addr).add 2)=some (.string kv)/\
   Calls prog 19 #[.agg #[.int .i64 kl,.int .i64 km,.string kq],.agg #[.int .i64 kr,.int .i64 ku,.string kv]] dj λe dw=>∃tX:Bool,e=.returned (.bool tX)/\
   Br tX (Ending.returned (.bool (n == kj))=.returned (.bool true)/\Q dw) (Ending.returned (.bool false)=.returned (.bool true)/\Q dw):=by
 refine hC.mono ?_
 rintro e dR ⟨rfl,gU⟩
 refine⟨_,_,_,_,rfl,alB λcR rO hb28=>zQj hb28 zWp.symm rfl rfl λdj hb29 hf29 _=>?_⟩
 have kB:Pu dR dj:=rO.andNew hf29 λi hi=>by rw[show i=dR.heap.size from hi];exact Nat.le_refl _
 have m5:=kB.blk (gU.blk bK)
 refine⟨_,cl m5 0,_,cl m5 1,_,cl m5 2,_,cl hb29 0,_,cl hb29 1,_,cl hb29 2,(zXX v v dj).mono ?_⟩
 rintro e dw ⟨rfl,pr⟩
 exact⟨_,rfl,Br.of (λ_=>⟨by simp,hQ _ ((gU.trans kB).trans pr)⟩) (λc=>by simp at c)⟩
end
theorem yYt{w0 w:World}{d r:zQs}{val rv:Nat->List Val}{σ ρ:Dsk}(h:Duo w0 w d val r rv σ ρ)(hE:Eqv σ ρ)(hI:Inv σ)(hIr:Inv ρ)(hMr:Md ρ)(x:Act):Calls prog 26 #[d.ptr,r.ptr,actA x] w λe w'=>e=.returned (.bool true)/\PlP w0 w' d r:=by
 obtain rfl:=h.dab
 obtain rfl:=h.rab
 refine yKK _ _ _ _ _ _ _ _ w _ (alB λw1 al ay=>?_)
 have h1:=h.plus al
 have A1:zKA w1 d r w.heap.size (.cells #[.int .i64 x.op,.int .i64 x.a,.int .i64 x.b,.int .i64 x.c,.string x.s,.string x.t] 51):=h.aside al ay (Nat.le_refl _)
 have fin:∀{w4:World} {d3 r4:zQs} {v3 rv4:Nat->List Val} {τ τ':Dsk},Duo w0 w4 d3 v3 r4 rv4 τ τ'->Eqv τ τ'->d3.S=d.S->r4.S=r.S->Inv τ->Inv τ'->Md τ'->PlP w0 w4 d r:=λ{w4 d3 r4 v3 rv4 τ τ'} D e hd hr hi hj hm=>
  ⟨_,_,_,_,_,_,hd,hr,D,e,hi,hj,hm⟩
 have stay:∀{w4:World} ,Duo w0 w4 d val r rv (zQa d val) (zQa r rv)->PlP w0 w4 d r:=λ{w4} D=>⟨_,_,_,_,_,_,rfl,rfl,D,hE,hI,hIr,hMr⟩
 have S1:∀(y:World),y.heap[w.heap.size]?=some (.cells #[.int .i64 x.op,.int .i64 x.a,.int .i64 x.b,.int .i64 x.c,.string x.s,.string x.t] 51)->y.cell? ((⟨w.heap.size,0,none⟩:Addr).add 1)=some (.int .i64 x.a):=λy hy=>cl hy 1
 have S2:∀(y:World),y.heap[w.heap.size]?=some (.cells #[.int .i64 x.op,.int .i64 x.a,.int .i64 x.b,.int .i64 x.c,.string x.s,.string x.t] 51)->y.cell? ((⟨w.heap.size,0,none⟩:Addr).add 2)=some (.int .i64 x.b):=λy hy=>cl hy 2
 refine⟨x.op,cl0 ay,rfl,by decide,rfl,by decide,Br.of (λ_=>zQf λw2 aj _=>?_) (λ_=>Br.of (λ_=>zQf λw2 aj _=>?_) (λ_=>Br.of (λ_=>zQf λw2 aj _=>?_) (λ_=>Br.of (λ_=>zQf λw2 aj _=>?_) (λ_=>Br.of (λ_=>?_) (λ_=>Br.of (λ_=>?_) (λ_=>
  Br.of (λ_=>?_) (λ_=>Br.of (λ_=>?_) (λ_=>Br.of (λ_=>?_) (λ_=>Br.of (λ_=>?_) (λ_=>Br.of (λ_=>zQf λw2 aj _=>?_) (λ_=>Br.of (λ_=>?_) (λ_=>Br.of (λ_=>?_) (λ_=>?_)))))))))))))⟩
 ·
  have h2:=h1.plus aj
  have A2:=A1.pu aj
  refine⟨λy=>y.heap[w.heap.size]?=some (.cells #[.int .i64 x.op,.int .i64 x.a,.int .i64 x.b,.int .i64 x.c,.string x.s,.string x.t] 51),A2.blk,_,S1,_,S2,_,S1,_,S2,(xZ6 h2.da x.a x.b).mono ?_⟩
  rintro e w3 ⟨rfl,d3,db,fG⟩
  have h3:=h2.pgm db fG
  refine⟨_,rfl,(A2.pgm db).blk,(xJU h3.ra hIr x.a x.b).mono ?_⟩
  rintro e w4 ⟨rfl,r4,jT,kO⟩
  rw[←hE.modeC]
  exact⟨_,rfl,by simp,fin (h3.ref jT kO) (hE.modeS _ _) db.ptr jT.ptr (hI.mode _ _) (hIr.mode _ _) (hMr.mode _ _)⟩
 ·
  have h2:=h1.plus aj
  have A2:=A1.pu aj
  refine⟨λy=>y.heap[w.heap.size]?=some (.cells #[.int .i64 x.op,.int .i64 x.a,.int .i64 x.b,.int .i64 x.c,.string x.s,.string x.t] 51),A2.blk,_,S1,_,S2,_,S1,_,S2,(go_c h2.da hI x.a x.b).mono ?_⟩
  rintro e w3 ⟨rfl,d3,v3,db,fG⟩
  have h3:=h2.pgm db fG
  refine⟨_,rfl,(A2.pgm db).blk,(rGo_c h3.ra hIr x.a x.b).mono ?_⟩
  rintro e w4 ⟨rfl,r4,rv4,jT,kO⟩
  rw[←hE.goC]
  exact⟨_,rfl,by simp,fin (h3.ref jT kO) (hE.goS _ _) db.ptr jT.ptr (hI.go _ _) (hIr.go _ _) (hMr.same (ms_go _ _))⟩
 ·
  have h2:=h1.plus aj
  have A2:=A1.pu aj
  refine⟨λy=>y.heap[w.heap.size]?=some (.cells #[.int .i64 x.op,.int .i64 x.a,.int .i64 x.b,.int .i64 x.c,.string x.s,.string x.t] 51),A2.blk,_,S1,x.s,λy hy=>cl hy 4,_,λy hy=>cl hy 0,_,S1,_,S2,_,λy hy=>cl hy 3,_,λy hy=>cl hy 4,_,λy hy=>cl hy 5,
   _,S1,x.s,λy hy=>cl hy 4,_,λy hy=>cl hy 0,_,S1,_,S2,_,λy hy=>cl hy 3,_,λy hy=>cl hy 4,_,λy hy=>cl hy 5,(xQA x w2).mono ?_⟩
  rintro e w3 ⟨rfl,am⟩
  have h3:=h2.plus am
  have A3:=A2.pu am
  refine⟨_,_,_,rfl,A3.blk,(set_c h3.da hI x.a x.s (actV x)).mono ?_⟩
  rintro e w4 ⟨rfl,d4,v4,jT,kO⟩
  have h4:=h3.pgm jT kO
  have A4:=A3.pgm jT
  refine⟨_,rfl,A4.blk,(xQA x w4).mono ?_⟩
  rintro e w5 ⟨rfl,aB⟩
  have h5:=h4.plus aB
  refine⟨_,_,_,rfl,(A4.pu aB).blk,(rSet_c h5.ra hIr hMr x.a x.s (actV x)).mono ?_⟩
  rintro e w6 ⟨rfl,r6,rv6,hL6,ha6⟩
  rw[←hE.setC]
  exact⟨_,rfl,by simp,fin (h5.ref hL6 ha6) (hE.setS _ _ _) jT.ptr hL6.ptr (hI.set _ _ _) (hIr.set _ _ _) (hMr.same (xJZ _ _ _))⟩
 ·
  have h2:=h1.plus aj
  have A2:=A1.pu aj
  refine⟨λy=>y.heap[w.heap.size]?=some (.cells #[.int .i64 x.op,.int .i64 x.a,.int .i64 x.b,.int .i64 x.c,.string x.s,.string x.t] 51),A2.blk,_,S1,_,S2,_,S1,_,S2,(mark_c h2.da hI x.a (decide (x.b > 0))).mono ?_⟩
  rintro e w3 ⟨rfl,d3,v3,db,fG⟩
  have h3:=h2.pgm db fG
  refine⟨_,rfl,(A2.pgm db).blk,(xJN h3.ra hIr hMr x.a (decide (x.b > 0))).mono ?_⟩
  rintro e w4 ⟨rfl,r4,rv4,jT,kO⟩
  rw[←hE.markC]
  exact⟨_,rfl,by simp,fin (h3.ref jT kO) (hE.markS _ _) db.ptr jT.ptr (hI.mark _ _) (hIr.mark _ _) (hMr.same (xJL _ _))⟩
 ·
  refine⟨_,S1 _ A1.blk,(yYQ h1.da hI x.a).mono ?_⟩
  rintro e w3 ⟨rfl,d3,v3,db,fG⟩
  have h3:=h1.pgm db fG
  refine⟨_,_,rfl,_,S1 _ (A1.pgm db).blk,Calls.mono (yK7 h3.ra hIr x.a) ?_⟩
  rintro e w4 ⟨rfl,r4,rv4,jT,kO⟩
  rw[←hE.appC,←hE.appN]
  have P:=fin (h3.ref jT kO) (hE.appS _) db.ptr jT.ptr (hI.app _) (hIr.app _) (hMr.same (ms_app _))
  exact⟨_,_,rfl,Br.of (λ_=>⟨by simp,P⟩) (λc=>by simp at c)⟩
 ·
  refine⟨_,S1 _ A1.blk,_,S2 _ A1.blk,x.s,cl A1.blk 4,(get_c h1.da hI x.a x.b x.s).mono ?_⟩
  rintro e w3 ⟨rfl,db⟩
  have h3:=h1.pgm db rfl
  have A3:=A1.pgm db
  refine⟨_,_,_,_,rfl,alB λw4 ar aZ=>zQj aZ zWp.symm rfl rfl λw5 aP bT _=>?_⟩
  have bw:Pu w3 w5:=ar.andNew bT λi hi=>by rw[show i=w3.heap.size from hi];exact Nat.le_refl _
  have h5:=h3.plus bw
  have A5:=A3.pu bw
  refine⟨_,S1 _ A5.blk,_,S2 _ A5.blk,x.s,cl A5.blk 4,?_⟩
  have hC:=rGet_c h5.ra hIr x.a x.b x.s
  rw[←hE.getR]at hC
  exact zYl aP hC (Q:=λy=>PlP w0 y d r) λy hy=>stay (h5.plus hy)
 ·
  refine⟨_,S1 _ A1.blk,_,S2 _ A1.blk,x.s,cl A1.blk 4,(old_c h1.da hI x.a x.b x.s).mono ?_⟩
  rintro e w3 ⟨rfl,db⟩
  have h3:=h1.pgm db rfl
  have A3:=A1.pgm db
  refine⟨_,_,_,_,rfl,alB λw4 ar aZ=>zQj aZ zWp.symm rfl rfl λw5 aP bT _=>?_⟩
  have bw:Pu w3 w5:=ar.andNew bT λi hi=>by rw[show i=w3.heap.size from hi];exact Nat.le_refl _
  have h5:=h3.plus bw
  have A5:=A3.pu bw
  refine⟨_,S1 _ A5.blk,_,S2 _ A5.blk,x.s,cl A5.blk 4,?_⟩
  have hC:=rOld_c h5.ra hIr x.a x.b x.s
  rw[←hE.oldR]at hC
  exact zYl aP hC (Q:=λy=>PlP w0 y d r) λy hy=>stay (h5.plus hy)
 ·
  refine⟨_,S2 _ A1.blk,x.s,cl A1.blk 4,(now_c h1.da hI x.b x.s).mono ?_⟩
  rintro e w3 ⟨rfl,db⟩
  have h3:=h1.pgm db rfl
  have A3:=A1.pgm db
  refine⟨_,_,_,_,rfl,alB λw4 ar aZ=>zQj aZ zWp.symm rfl rfl λw5 aP bT _=>?_⟩
  have bw:Pu w3 w5:=ar.andNew bT λi hi=>by rw[show i=w3.heap.size from hi];exact Nat.le_refl _
  have h5:=h3.plus bw
  have A5:=A3.pu bw
  refine⟨_,S2 _ A5.blk,x.s,cl A5.blk 4,?_⟩
  have hC:=rNow_c h5.ra hIr x.b x.s
  rw[←hE.nowR]at hC
  exact zYl aP hC (Q:=λy=>PlP w0 y d r) λy hy=>stay (h5.plus hy)
 ·
  refine⟨_,S1 _ A1.blk,_,S2 _ A1.blk,(zYz h1.da hI x.a (decide (x.b > 0))).mono ?_⟩
  rintro e w3 ⟨q3,rfl,re,d3,v3,db,fG⟩
  have h3:=h1.pgm db fG
  have A3:=A1.pgm db
  refine⟨q3,_,rfl,_,S1 _ A3.blk,_,S2 _ A3.blk,Calls.mono (zYq h3.ra hIr x.a (decide (x.b > 0))) ?_⟩
  rintro e w4 ⟨q4,rfl,uW,r4,rv4,jT,kO⟩
  rw[←hE.storeE]
  rw[←hE.storeEL]at uW
  have hN3':=re.fr jT.fr λb hb ag=>ag (h1.ra.bd.out (re.2 b hb))
  refine⟨q4,_,rfl,(zK4 hN3' uW).mono ?_⟩
  rintro e w5 ⟨rfl,aB⟩
  have P:=fin ((h3.ref jT kO).plus aB) (hE.storeES _ _) db.ptr jT.ptr (hI.storeE _ _) (hIr.storeE _ _) (hMr.same (yVT _ _))
  exact⟨_,rfl,Br.of (λ_=>⟨by simp,P⟩) (λc=>by cases c)⟩
 ·
  refine⟨_,S1 _ A1.blk,(yYu h1.da hI x.a).mono ?_⟩
  rintro e w3 ⟨rfl,d3,db,fG⟩
  have h3:=h1.pgm db fG
  refine⟨_,_,rfl,_,S1 _ (A1.pgm db).blk,(yQ3 h3.ra hIr x.a).mono ?_⟩
  rintro e w4 ⟨rfl,r4,rv4,jT,kO⟩
  rw[←hE.revertN]
  have P:=fin (h3.ref jT kO) (hE.revertS _) db.ptr jT.ptr (hI.revert _) (hIr.revert _) (hMr.same (yVX _))
  exact⟨_,_,rfl,Br.of (λ_=>⟨by simp,P⟩) (λc=>by simp at c)⟩
 ·
  have h2:=h1.plus aj
  have A2:=A1.pu aj
  refine⟨λy=>y.heap[w.heap.size]?=some (.cells #[.int .i64 x.op,.int .i64 x.a,.int .i64 x.b,.int .i64 x.c,.string x.s,.string x.t] 51),A2.blk,_,S1,_,S1,(fall_c h2.da hI x.a).mono ?_⟩
  rintro e w3 ⟨rfl,d3,db,fG⟩
  have h3:=h2.pgm db fG
  refine⟨_,rfl,(A2.pgm db).blk,(xJx h3.ra hIr x.a).mono ?_⟩
  rintro e w4 ⟨rfl,r4,rv4,jT,kO⟩
  exact⟨_,rfl,by simp,fin (h3.ref jT kO) (hE.fallS _) db.ptr jT.ptr (hI.fall _) (hIr.fall _) (hMr.fall _)⟩
 ·
  refine⟨_,S2 _ A1.blk,(yYw h1.da x.b).mono ?_⟩
  rintro e w3 ⟨rfl,db⟩
  have h3:=h1.pgm db rfl
  have A3:=A1.pgm db
  refine⟨_,_,_,rfl,_,S2 _ A3.blk,(yVz h3.ra hIr x.b).mono ?_⟩
  rintro e w4 ⟨rfl,ar⟩
  rw[←hE.lockedR]
  have P:=stay (h3.plus ar)
  exact⟨_,_,_,rfl,Br.of (λ_=>Br.of (λ_=>⟨by simp,P⟩) (λc=>by simp at c)) (λc=>by simp at c)⟩
 ·
  refine⟨_,S1 _ A1.blk,(yVg h1.da hI x.a).mono ?_⟩
  rintro e w3 ⟨q3,rfl,re,db⟩
  have h3:=h1.pgm db rfl
  have A3:=A1.pgm db
  refine⟨q3,_,rfl,_,S1 _ A3.blk,(yZQ h3.ra hIr x.a).mono ?_⟩
  rintro e w4 ⟨q4,rfl,uW,ar⟩
  rw[←hE.changedL]at uW
  refine⟨q4,_,rfl,(zK4 (re.pu ar) uW).mono ?_⟩
  rintro e w5 ⟨rfl,aB⟩
  have P:=stay ((h3.plus ar).plus aB)
  exact⟨_,rfl,Br.of (λ_=>⟨by simp,P⟩) (λc=>by cases c)⟩
 ·
  refine⟨_,S1 _ A1.blk,(yV8 h1.da hI x.a).mono ?_⟩
  rintro e w3 ⟨q3,rfl,re,db⟩
  have h3:=h1.pgm db rfl
  have A3:=A1.pgm db
  refine⟨q3,_,rfl,_,S1 _ A3.blk,(zVE h3.ra hIr x.a).mono ?_⟩
  rintro e w4 ⟨q4,rfl,uW,ar⟩
  rw[←hE.clashesL]at uW
  refine⟨q4,_,rfl,(zK4 (re.pu ar) uW).mono ?_⟩
  rintro e w5 ⟨rfl,aB⟩
  have P:=stay ((h3.plus ar).plus aB)
  exact⟨_,rfl,Br.of (λ_=>⟨by simp,P⟩) (λc=>by cases c)⟩
end Go.Proofs.YtcihcbfcgjepfaaGreatDoor
/- Desks: the law on what each call tells. No condition but those stated. -/
namespace Go.Proofs.YtcihcbfcgjepfaaGreatDoor
open Go.Sh Go.RowKit Tryz
theorem yWP(S:Nat)(x y:Operand)(w:World):(eqS .eql 59 x y (.pointer (some ⟨S,0,none⟩)) (.pointer none)).run prog w=.ok (.bool false) w:=zXk (show prog.underlying 59=some (.pointer 125)by kernel_rfl) _ _ _ w
theorem xJM{w:World}{t:Tbl}{f r:SV}(h:zJG w t f r)(hl:Lim.ok t.fields):Calls prog 25 #[zY2 t f r] w λe w'=>Pu w w'/\(zQQ t ≠ 0->e=.returned (.tuple #[.pointer none,.pointer none,.bool true]))/\
  (zQQ t=0->∃d val r rv,e=.returned (.tuple #[d.ptr,r.ptr,.bool true])/\Duo w w' d val r rv (Dsk.new t) (Dsk.new t)):=by
 refine yVV _ _ _ w _ (alB λw1 al ay=>?_)
 refine⟨_,cl ay 0,f,cl ay 1,r,cl ay 2,(new_c (h.pu al) hl).mono ?_⟩
 rintro e w2 ⟨aj,hbad,hgood⟩
 have ag:=aj.blk ay
 have aG:=al.trans aj
 by_cases hv:zQQ t=0
 ·obtain⟨d,val,rfl,hD,habs,hnew⟩:=hgood hv
  refine⟨some ⟨d.S,0,none⟩,0,rfl,_,cl ag 0,f,cl ag 1,r,cl ag 2,(xQL (h.pu aG)).mono ?_⟩
  rintro e w3 ⟨am,-,hgood3⟩
  obtain⟨r',rv,rfl,hR,habr,hnewr⟩:=hgood3 hv
  have aF:=aG.trans am
  have D:Duo w w3 d val r' rv (Dsk.new t) (Dsk.new t):=⟨aF,hD.pu am,hR,habs,habr,λb hb=>by
   cases e:r'.o b with
   | none=>rfl
   | some κ=>
    have h1:=hnewr b (by rw[e];simp)
    have h2:=hD.bd.lt b hb
    omega,λb hb=>Nat.le_trans al.size (hnew b hb),λb hb=>Nat.le_trans aG.size (hnewr b hb)⟩
  refine⟨some ⟨r'.S,0,none⟩,0,rfl,Br.of (λ_=>?_) (λc=>by simp at c)⟩
  exact⟨false,w3,yJV _ _ _ w3,false,w3,yWP _ _ _ w3,aF,λe=>absurd hv e,λ_=>⟨d,val,r',rv,rfl,D⟩⟩
 ·rw[hbad hv]
  refine⟨none,_,rfl,_,cl ag 0,f,cl ag 1,r,cl ag 2,(xQL (h.pu aG)).mono ?_⟩
  rintro e w3 ⟨am,hbad3,-⟩
  rw[hbad3 hv]
  have aF:=aG.trans am
  refine⟨none,_,rfl,Br.of (λ_=>?_) (λc=>by simp at c)⟩
  exact⟨true,w3,zXk xXA _ _ none w3,true,w3,zXk (show prog.underlying 59=some (.pointer 125)by kernel_rfl) _ _ none w3,aF,λ_=>rfl,λe=>absurd e hv⟩
theorem Duo.same {w0 w:World} {d r:zQs} {val rv:Nat->List Val} {σ ρ:Dsk} (h:Duo w0 w d val r rv σ ρ) (hE:Eqv σ ρ) (hI:Inv σ) (hIr:Inv ρ) {K:Rt} (hK:∀y,Pu w0 y->K (.returned (.bool true)) y) :
  Calls prog 24 #[d.ptr] w λe w1=>∃n44_0:Int,∃bZ:SV,∃mN:SV,e=.returned (.agg #[.int .i64 n44_0,.slice bZ.a bZ.len bZ.cap,.slice mN.a mN.len mN.cap])/\
   Calls prog 27 #[r.ptr] w1 λe w2=>∃fO:Int,∃mO:SV,∃mP:SV,e=.returned (.agg #[.int .i64 fO,.slice mO.a mO.len mO.cap,.slice mP.a mP.len mP.cap])/\
   Calls prog 23 #[.agg #[.int .i64 n44_0,.slice bZ.a bZ.len bZ.cap,.slice mN.a mN.len mN.cap],.agg #[.int .i64 fO,.slice mO.a mO.len mO.cap,.slice mP.a mP.len mP.cap]] w2 λe w3=>∃wD:Bool,e=.returned (.bool wD)/\
   Br wD (Calls prog 10 #[] w3 λe w4=>∃b49:Bool,e=.returned (.bool b49)/\K (.returned (.bool b49)) w4) (K (.returned (.bool false)) w3):=by
 obtain rfl:=h.dab
 obtain rfl:=h.rab
 have eT:(zQa r rv).tbl=(zQa d val).tbl:=by unfold Dsk.tbl;rw[hE.pg,hE.fl,hE.rc]
 refine(xJO h.da hI).mono ?_
 rintro e w1 ⟨f1,r1,rfl,hT1,hL1,-⟩
 have h1:=h.pgm hL1 rfl
 refine⟨_,f1,r1,rfl,(yY7 h1.ra hIr).mono ?_⟩
 rintro e w2 ⟨f2,r2,rfl,hT2,aj⟩
 rw[eT]at hT2 ⊢
 refine⟨_,f2,r2,rfl,(yWo (hT1.pu aj) hT2 (by have:=hI.r300;show(zQa d val).recs.length<=_;omega)).mono ?_⟩
 rintro e w3 ⟨rfl,am⟩
 refine⟨_,rfl,Br.of (λ_=>(yK6 w3).mono ?_) (λc=>by simp at c)⟩
 rintro e w4 ⟨rfl,ar⟩
 exact⟨true,rfl,hK _ (((h1.pu.trans aj).trans am).trans ar)⟩
theorem yKR {w0 w:World} {d r:zQs} {val rv:Nat->List Val} {σ ρ:Dsk} (h:Duo w0 w d val r rv σ ρ) (hE0:Eqv σ ρ) (hI:Inv σ) (hIr:Inv ρ) (hM:Md ρ) {s:SV} {l:List Act} (hs:zXP w0 s l) {F:(Int->World->Prop)->Int->World->Prop} {E:World->Prop} {B:World->Prop}
  (hF:∀(J:Int->World->Prop) (n:Int) (w:World),F J n w ↔ Br (decide (n<((s.len:Nat):Int))) (∃a7:Addr,s.a=some a7/\0<=n/\n<((s.len:Nat):Int)/\∃oD:Int,w.cell? ((a7.add (n.toNat * 6)).add 0)=some (.int .i64 oD)/\∃lO:Int,w.cell? ((a7.add (n.toNat * 6)).add 1)=some (.int .i64 lO)/\
   ∃n40_2:Int,w.cell? ((a7.add (n.toNat * 6)).add 2)=some (.int .i64 n40_2)/\∃n40_3:Int,w.cell? ((a7.add (n.toNat * 6)).add 3)=some (.int .i64 n40_3)/\∃s40_4:ByteArray,w.cell? ((a7.add (n.toNat * 6)).add 4)=some (.string s40_4)/\∃s40_5:ByteArray,w.cell? ((a7.add (n.toNat * 6)).add 5)=some (.string s40_5)/\
   Calls prog 26 #[.pointer (some ⟨d.S,0,none⟩),.pointer (some ⟨r.S,0,none⟩),.agg #[.int .i64 oD,.int .i64 lO,.int .i64 n40_2,.int .i64 n40_3,.string s40_4,.string s40_5]] w λe w8=>∃b41:Bool,e=.returned (.bool b41)/\Br (!b41) (B w8) (J (IntKind.i64.wrap (n+1)) w8)) (E w))
  (hE:∀y,PlP w0 y d r->E y):zQ8 F 0 w:=by
 have hlen:=hs.len
 have hlim:=hs.lim
 refine zQ1 l.length (λk t w'=>t=(k:Int)/\PlP w0 w' d r) ⟨rfl,_,_,_,_,_,_,rfl,rfl,h,hE0,hI,hIr,hM⟩ ?_
 rintro k J t w1 hk ⟨ht,hP⟩ hJ
 obtain rfl:t=(k:Int):=ht
 refine(hF _ _ _).2 (Br.of (λd1=>?_) (λ_=>hE _ hP))
 have ak:k<l.length:=by have:=zQm d1;omega
 obtain⟨x,hx⟩:=zXe ak
 obtain⟨d1,v1,r1,rv1,τ,τ',eS,eS',D,hE1,hI1,hJ1,hM1⟩:=hP
 obtain⟨a,ha,hi,hok,c0,c1,c2,c3,c4,c5⟩:=actAt (hs.pu D.pu) hx
 refine⟨a,ha,by omega,by omega,x.op,by rw[zQI];exact c0,x.a,by rw[zQI];exact c1,x.b,by rw[zQI];exact c2,x.c,by rw[zQI];exact c3,x.s,by rw[zQI];exact c4,x.t,by rw[zQI];exact c5,?_⟩
 rw[←eS,←eS']
 refine(yYt D hE1 hI1 hJ1 hM1 x).mono ?_
 rintro e w8 ⟨rfl,d2,v2,r2,rv2,τ2,τ2',e2,e2',D2,hE2,hI2,pM,hM2⟩
 refine⟨true,rfl,Br.of (λc=>by cases c) (λ_=>?_)⟩
 rw[zQd (by omega) (by omega)]
 exact hJ _ _ ak ⟨by omega,d2,v2,r2,rv2,τ2,τ2',e2.trans eS,e2'.trans eS',D2,hE2,hI2,pM,hM2⟩
end Go.Proofs.YtcihcbfcgjepfaaGreatDoor
/- Desks: the law on copies. No condition but those stated. -/
namespace Go.Proofs.YtcihcbfcgjepfaaGreatDoor
open Go.Sh Go.RowKit Tryz
theorem Duo.copied {w0 w w1 w2:World} {d r c cr:zQs} {val rv v crv:Nat->List Val} {σ ρ:Dsk} (h:Duo w0 w d val r rv σ ρ) (hE:Eqv σ ρ) (hI:Inv σ) (hIr:Inv ρ) (hc:zQg w1 c 0 v) (eC:Eqv (zQa c v) σ) (cn:∀b,c.o b ≠ none->w.heap.size<=b) (al:Pu w w1)
  (hcr:zQr w2 cr crv) (eR:zQa cr crv=ρ) (crn:∀b,cr.o b ≠ none->w1.heap.size<=b) (aj:Pu w1 w2):Duo w w2 c v cr crv (zQa c v) ρ/\Eqv (zQa c v) ρ/\Inv (zQa c v):=by
 refine⟨⟨al.trans aj,hc.pu aj,hcr,rfl,eR,λb hb=>?_,cn,λb hb=>Nat.le_trans al.size (crn b hb)⟩,eC.trans hE,hc.inv eC hI⟩
 cases e:cr.o b with
 | none=>rfl
 | some κ=>
  have h1:=crn b (by rw[e];simp)
  have h2:=hc.bd.lt b hb
  omega
theorem yJv{w0 y z:World}{d r c cr:zQs}{val rv:Nat->List Val}{τ τ':Dsk}(D:Duo w0 y d val r rv τ τ')(hE:Eqv τ τ')(hI:Inv τ)(hJ:Inv τ')(hP:PlP y z c cr) :
  F8_1 (λe w'=>e=.returned (.bool true)/\Pu w0 w') (some ⟨d.S,0,none⟩) (some ⟨r.S,0,none⟩) (some ⟨c.S,0,none⟩) (some ⟨cr.S,0,none⟩) [] z:=by
 obtain⟨c2,v2,r2,rv2,σ2,ρ2,eS,eS',D2,hE2,hI2,pM,hM2⟩:=hP
 rw[←eS,←eS']
 have D1:=D.plus D2.pu
 obtain rfl:=D2.dab
 obtain rfl:=D2.rab
 obtain rfl:=D1.dab
 obtain rfl:=D1.rab
 have ne:d.S ≠ c2.S:=λe=>by
  have h1:=D.da.bd.lt d.S (by rw[D.da.bd.oS];simp)
  have h2:=D2.dn c2.S (by rw[D2.da.bd.oS];simp)
  omega
 refine(xXm D1.da hI D2.da hI2 ne).mono ?_
 rintro e w1 ⟨b1,rfl,ay,al⟩
 refine⟨b1,rfl,(xKc (D1.ra.pu al) hJ (D2.ra.pu al) pM).mono ?_⟩
 rintro e w2 ⟨b2,rfl,ag,aj⟩
 have hb:b1=b2:=by
  have k:=ay.trans ((Eq4.iff hE.e4 hE2.e4).trans ag.symm)
  cases b1 <;> cases b2 <;> simp_all
 refine⟨b2,rfl,Br.of (λ_=>?_) (λc=>by rw[hb]at c;simp at c)⟩
 exact(D1.plus (al.trans aj)).same hE hI hJ (K:=λe w'=>e=.returned (.bool true)/\Pu w0 w') λz hz=>⟨rfl,hz⟩
theorem yJe{w0 y:World}{d r:zQs}{val rv:Nat->List Val}{τ τ':Dsk}(D:Duo w0 y d val r rv τ τ')(hE:Eqv τ τ')(hI:Inv τ)(hJ:Inv τ')(hM:Md τ'){s:SV}{l:List Act}(hs:zXP w0 s l) :
  F8_5 (λe w'=>e=.returned (.bool true)/\Pu w0 w') s (some ⟨d.S,0,none⟩) (some ⟨r.S,0,none⟩) [] y:=by
 obtain rfl:=D.dab
 obtain rfl:=D.rab
 refine(yV9 D.da hI).mono ?_
 rintro e w1 ⟨c,v,rfl,hc,eC,cn,al⟩
 refine⟨_,rfl,(xKg (D.ra.pu al) hJ).mono ?_⟩
 rintro e w2 ⟨cr,crv,rfl,hcr,eR,crn,aj⟩
 obtain⟨D2,hE2,hI2⟩:=D.copied hE hI hJ hc eC cn al hcr eR crn aj
 refine⟨_,rfl,false,w2,zXk xXA _ _ _ w2,Br.of (λc=>by cases c) (λ_=>?_)⟩
 have aG:=al.trans aj
 have ne:d.S ≠ c.S:=λe=>by
  have h1:=D.da.bd.lt d.S (by rw[D.da.bd.oS];simp)
  have h2:=cn c.S (by rw[hc.bd.oS];simp)
  omega
 refine(xXm (D.da.pu aG) hI D2.da hI2 ne).mono ?_
 rintro e w3 ⟨b,rfl,hb,am⟩
 have ay:b=true:=hb.2 eC.symm.e4
 subst ay
 refine⟨true,rfl,Br.of (λc=>by cases c) (λ_=>?_)⟩
 refine yKR (D2.plus am) hE2 hI2 hJ hM (hs.pu D.pu) (E:=λz=>F8_1 (λe w'=>e=.returned (.bool true)/\Pu w0 w') (some ⟨d.S,0,none⟩) (some ⟨r.S,0,none⟩) (some ⟨c.S,0,none⟩) (some ⟨cr.S,0,none⟩) [] z) (λJ n w=>Iff.rfl) λz hP=>?_
 exact yJv D hE hI hJ hP
theorem yQJ(w:World)(t:Tbl)(f r:SV)(h:zJG w t f r)(hl:Lim.ok t)(s1:SV)(l1:List Act)(iJ:zXP w s1 l1)(_:Lim.ok l1)(s2:SV)(l2:List Act)(fC:zXP w s2 l2)(_:Lim.ok l2) :
  Calls prog 8 #[zY2 t f r,.slice s1.a s1.len s1.cap,.slice s2.a s2.len s2.cap] w λe w'=>e=.returned (.bool true)/\Pu w w':=by
 refine yYz _ _ _ _ _ w _ (alB λw1 al ay=>⟨_,cl ay 0,f,cl ay 1,r,cl ay 2,(xXi (h.pu al) (iJ.pu al)).mono ?_⟩)
 rintro e w2 ⟨b,rfl,aj,-⟩
 have aG:=al.trans aj
 have kn:∀{w4:World},Pu w w4->Calls prog 10 #[] w4 λe au=>∃b248:Bool,e=.returned (.bool b248)/\(Ending.returned (.bool b248)=.returned (.bool true)/\Pu w au):=λ{w4} hp=>by
  refine(yK6 w4).mono ?_
  rintro e w5 ⟨rfl,aB⟩
  exact⟨true,rfl,rfl,hp.trans aB⟩
 refine⟨b,rfl,Br.of (λ_=>kn aG) (λ_=>?_)⟩
 have ag:=aj.blk ay
 refine⟨_,cl ag 0,f,cl ag 1,r,cl ag 2,(xXi (h.pu aG) (fC.pu aG)).mono ?_⟩
 rintro e w3 ⟨b,rfl,am,-⟩
 have aF:=aG.trans am
 refine⟨b,rfl,Br.of (λ_=>kn aF) (λ_=>?_)⟩
 have aH:=am.blk ag
 refine⟨_,cl aH 0,f,cl aH 1,r,cl aH 2,(xJM (h.pu aF) hl.1).mono ?_⟩
 rintro e w4 ⟨ar,hbad,hgood⟩
 have c8:=aF.trans ar
 by_cases hv:zQQ t=0
 ·obtain⟨d,val,r',rv,rfl,D⟩:=hgood hv
  refine⟨some ⟨d.S,0,none⟩,some ⟨r'.S,0,none⟩,true,rfl,Br.of (λc=>by cases c) (λ_=>⟨false,w4,yWP _ _ _ w4,Br.of (λc=>by cases c) (λ_=>?_)⟩)⟩
  have D0:Duo w w4 d val r' rv (Dsk.new t) (Dsk.new t):=⟨aF.trans D.pu,D.da,D.ra,D.dab,D.rab,D.ap,λb hb=>Nat.le_trans aF.size (D.dn b hb),λb hb=>Nat.le_trans aF.size (D.rn b hb)⟩
  refine yKR D0 (Eqv.refl _) (zVa hv) (zVa hv) (md_new t) iJ (E:=λy=>F8_5 (λe w'=>e=.returned (.bool true)/\Pu w w') s2 (some ⟨d.S,0,none⟩) (some ⟨r'.S,0,none⟩) [] y) (λJ n w=>Iff.rfl) λy hP=>?_
  obtain⟨d1,v1,r1,rv1,τ,τ',eS,eS',D1,hE1,hI1,hJ1,hM1⟩:=hP
  rw[←eS,←eS']
  exact yJe D1 hE1 hI1 hJ1 hM1 fC
 ·rw[hbad hv]
  exact⟨none,none,true,rfl,Br.of (λc=>by cases c) (λ_=>⟨true,w4,zXk (show prog.underlying 59=some (.pointer 125)by kernel_rfl) _ _ none w4,Br.of (λ_=>Br.of (λ_=>kn c8) (λc=>by cases c)) (λc=>by cases c)⟩)⟩
end Go.Proofs.YtcihcbfcgjepfaaGreatDoor
