import Derived.Test.YtcihcbfcgjepfaaGreatDoorBfOwB
import Derived.Test.YtcihcbfcgjepfaaGreatDoorBfPrA
import Derived.Test.YtcihcbfcgjepfaaGreatDoorShFourteen
import Derived.Test.YtcihcbfcgjepfaaGreatDoorShTwentyOne
import Derived.Test.YtcihcbfcgjepfaaGreatDoorShTwentyFive
import Derived.Laws.LoneSync
import Derived.Test.YtcihcbfcgjepfaaGreatDoorShTwentyTwo
/- Desks: how records lie in memory by handles: what both sides share. No condition. -/
set_option linter.unusedVariables false
set_option linter.unusedSimpArgs false
namespace Go.Proofs.YtcihcbfcgjepfaaGreatDoor
open Go.Sh Go.RowKit Tryz
structure zQx where
 g:Bool
 s:SV
instance:Inhabited zQx:=⟨false,⟨none,0,0⟩⟩
def hv(val:Nat->List Val)(h:zQx):List Val:=match h.s.a with
 | some a=>val a.block
 | none=>[]
def toR(val:Nat->List Val)(h:zQx):Rec:=⟨h.g,hv val h⟩
abbrev zJR(h:zQx):List Value:=[.bool h.g,.slice h.s.a h.s.len h.s.cap]
theorem zQk(h:zQx):(zJR h).length=2:=rfl
abbrev chV(c:zQx × zQx):Value:=.agg #[.bool c.1.g,.slice c.1.s.a c.1.s.len c.1.s.cap,.bool c.2.g,.slice c.2.s.a c.2.s.len c.2.s.cap]
abbrev chC (c:Int × (zQx × zQx)):List Value:=[.int .i64 c.1,.bool c.2.1.g,.slice c.2.1.s.a c.2.1.s.len c.2.1.s.cap,.bool c.2.2.g,.slice c.2.2.s.a c.2.2.s.len c.2.2.s.cap]
theorem zXC (c:Int × (zQx × zQx)):(chC c).length=5:=rfl
abbrev zQM(n:Int):Value:=.int .i64 n
abbrev Chg:=Int × (zQx × zQx)
def toC(val:Nat->List Val)(c:Chg):Int × (Rec × Rec):=(c.1,(toR val c.2.1,toR val c.2.2))
inductive zXx
 | S|L|F|R|V
 | C (u:Nat)
 | A (u:Nat)
deriving DecidableEq
structure zQs where
 sd:Bool
 o:Nat->Option zXx
 S:Nat
 L:Nat
 C:Nat->Nat
 page:Int
 flds:List Fld
 fs:SV
 rs:SV
 rh:List zQx
 mode:Nat->Int
 at_:Nat->Int
 asv:Nat->SV
 ah:Nat->List zQx
 cs:Nat->SV
 ch:Nat->List Chg
 lk:Int->Option Int
def zZ9(d:zQs)(val:Nat->List Val)(u:Nat):Usr:=⟨d.mode u,d.at_ u,(d.ch u).map (toC val),(d.ah u).map (toR val)⟩
def zQa(d:zQs)(val:Nat->List Val):Dsk:=⟨d.page,d.flds,d.rh.map (toR val),zZ9 d val,d.lk⟩
def chH(l:List Chg):List zQx:=l.flatMap λc=>[c.2.1,c.2.2]
def uH(d:zQs)(u:Nat):List zQx:=chH (d.ch u) ++ d.ah u
def zQX(d:zQs):List zQx:=d.rh ++ (uH d 0 ++ (uH d 1 ++ (uH d 2 ++ uH d 3)))
theorem zQJ{d:zQs}{h:zQx}(hm:h ∈ d.rh):h ∈ zQX d:=List.mem_append_left _ hm
theorem zZr{d:zQs}{u:Nat}(hu:u<4){h:zQx}(hm:h ∈ uH d u):h ∈ zQX d:=by
 unfold zQX
 simp only[List.mem_append]
 rcases(by omega:u=0∨u=1∨u=2∨u=3)with rfl|rfl|rfl|rfl
 ·exact .inr (.inl hm)
 ·exact .inr (.inr (.inl hm))
 ·exact .inr (.inr (.inr (.inl hm)))
 ·exact .inr (.inr (.inr (.inr hm)))
theorem zXj{d:zQs}{u:Nat}(hu:u<4){h:zQx}(hm:h ∈ d.ah u):h ∈ zQX d:=zZr hu (List.mem_append_right _ hm)
theorem zXA{d:zQs}{u:Nat}(hu:u<4){c:Chg}(hm:c ∈ d.ch u):c.2.1 ∈ zQX d/\c.2.2 ∈ zQX d:=by
 constructor <;> refine zZr hu (List.mem_append_left _ (List.mem_flatMap.2 ⟨c,hm,by simp⟩))
def vB(l:List zQx):List Nat:=l.flatMap λh=>zQb h.s
def zXE(val:Nat->List Val)(b:Nat)(x:List Val):Nat->List Val:=λc=>if c=b then x else val c
theorem zZR{val:Nat->List Val}{b:Nat}{x:List Val}{h:zQx}(hn:b ∉ zQb h.s):hv (zXE val b x) h=hv val h:=by
 unfold hv
 cases ha:h.s.a with
 | none=>rfl
 | some a=>
  have:a.block ≠ b:=λe=>hn (by simp[zQb,ha,e])
  simp[zXE,this]
theorem zZs{val:Nat->List Val}{b:Nat}{x:List Val}{h:zQx}{a:Addr}(ha:h.s.a=some a)(hb:a.block=b):hv (zXE val b x) h=x:=by
 simp[hv,ha,zXE,hb]
theorem zZJ{val:Nat->List Val}{b:Nat}{x:List Val}{h:zQx}(hn:b ∉ zQb h.s):toR (zXE val b x) h=toR val h:=by rw[toR,toR,zZR hn]
theorem zJW{val:Nat->List Val}{b:Nat}{x:List Val}{l:List zQx}(hn:b ∉ vB l):l.map (toR (zXE val b x))=l.map (toR val):=
 List.map_congr_left λh hm=>zZJ λhb=>hn (List.mem_flatMap.2 ⟨h,hm,hb⟩)
theorem zVw {val:Nat->List Val} {b:Nat} {x:List Val} {l:List Chg} (hn:b ∉ vB (chH l)):l.map (toC (zXE val b x))=l.map (toC val):=
 List.map_congr_left λc hm=>by
  have h1:b ∉ zQb c.2.1.s:=λhb=>hn (List.mem_flatMap.2 ⟨c.2.1,List.mem_flatMap.2 ⟨c,hm,by simp⟩,hb⟩)
  have h2:b ∉ zQb c.2.2.s:=λhb=>hn (List.mem_flatMap.2 ⟨c.2.2,List.mem_flatMap.2 ⟨c,hm,by simp⟩,hb⟩)
  rw[toC,toC,zZJ h1,zZJ h2]
theorem zQp(a b:List zQx):vB (a ++ b)=vB a ++ vB b:=List.flatMap_append ..
theorem zXl(h:zQx)(l:List zQx):vB (h :: l)=zQb h.s ++ vB l:=List.flatMap_cons ..
theorem map_set{val:Nat->List Val}{b:Nat}{x:List Val}:∀{l:List zQx} {i:Nat} {h:zQx} {a:Addr},(vB l).Nodup->l[i]?=some h->h.s.a=some a->a.block=b->l.map (toR (zXE val b x))=(l.map (toR val)).modify i λr=>{ r with v:=x }
 | [],i,h,a,_,hi,_,_=>by simp at hi
 | y :: l,0,h,a,hn,hi,ha,hb=>by
  simp at hi;subst hi
  rw[zXl]at hn
  have hmem:b ∈ zQb y.s:=by simp[zQb,ha,hb]
  have hno:b ∉ vB l:=λhx=>(List.nodup_append.1 hn).2.2 b hmem b hx rfl
  simp only[List.map_cons,List.modify_zero_cons,zJW hno]
  rw[toR,zZs ha hb];rfl
 | y :: l,i+1,h,a,hn,hi,ha,hb=>by
  rw[zXl]at hn
  have hi:l[i]?=some h:=by simpa using hi
  have hmem:b ∈ vB l:=List.mem_flatMap.2 ⟨h,List.mem_of_getElem? hi,by simp[zQb,ha,hb]⟩
  have hno:b ∉ zQb y.s:=λhx=>(List.nodup_append.1 hn).2.2 b hx b hmem rfl
  simp only[List.map_cons,List.modify_succ_cons,zZJ hno]
  rw[map_set (List.nodup_append.1 hn).2.1 hi ha hb]
theorem zQN{l:List zQx}{h:zQx}(hm:h ∈ l){b:Nat}(hb:b ∈ zQb h.s):b ∈ vB l:=List.mem_flatMap.2 ⟨h,hm,hb⟩
def zQs.withMode(d:zQs)(u:Nat)(m:Int):zQs:={ d with mode:=λv=>if v=u then m else d.mode v }
def zQs.withAt(d:zQs)(u:Nat)(k:Int):zQs:={ d with at_:=λv=>if v=u then k else d.at_ v }
theorem zWt(d:zQs)(val:Nat->List Val)(u:Nat)(m:Int):zQa (d.withMode u m) val=(zQa d val).setU u { (zQa d val).us u with mode:=m }:=by
 simp only[zQa,Dsk.setU,zQs.withMode,Dsk.mk.injEq,true_and,and_true]
 funext v
 by_cases e:v=u
 ·subst e;simp[zZ9]
 ·simp[zZ9,e]
theorem zVS(d:zQs)(val:Nat->List Val)(u:Nat)(k:Int):zQa (d.withAt u k) val=(zQa d val).setU u { (zQa d val).us u with at_:=k }:=by
 simp only[zQa,Dsk.setU,zQs.withAt,Dsk.mk.injEq,true_and,and_true]
 funext v
 by_cases e:v=u
 ·subst e;simp[zZ9]
 ·simp[zZ9,e]
def Low(d:zQs):Prop:=∀v,4<=v->d.ch v=[]/\d.ah v=[]
theorem yVI{d:zQs}(h:Low d){v:Nat}(hv:4<=v):uH d v=[]:=by obtain⟨h1,h2⟩:=h v hv;simp[uH,h1,h2,chH]
theorem zWv {d:zQs} (hn:(vB (zQX d)).Nodup) (hl:Low d):(vB d.rh).Nodup/\∀v b,b ∈ vB d.rh->b ∉ vB (uH d v):=by
 unfold zQX at hn
 simp only[zQp]at hn
 obtain⟨h1,_,h3⟩:=List.nodup_append.1 hn
 refine⟨h1,λv b hb hx=>?_⟩
 by_cases hv:v<4
 ·refine h3 b hb b ?_ rfl
  simp only[List.mem_append]
  rcases(by omega:v=0∨v=1∨v=2∨v=3)with rfl|rfl|rfl|rfl <;> simp[hx]
 ·rw[yVI hl (by omega)]at hx;simp[vB]at hx
theorem xJW {d:zQs} (hn:(vB (zQX d)).Nodup) (hl:Low d) {u:Nat} (hu:u<4):(vB (uH d u)).Nodup/\∀v,v ≠ u->∀b,b ∈ vB (uH d u)->b ∉ vB (uH d v):=by
 unfold zQX at hn
 simp only[zQp]at hn
 obtain⟨_,h2,_⟩:=List.nodup_append.1 hn
 obtain⟨a1,a2,a3⟩:=List.nodup_append.1 h2
 obtain⟨b1,b2,b3⟩:=List.nodup_append.1 a2
 obtain⟨c1,c2,c3⟩:=List.nodup_append.1 b2
 refine⟨by rcases(by omega:u=0∨u=1∨u=2∨u=3)with rfl|rfl|rfl|rfl <;> assumption,λv hv b hb hx=>?_⟩
 by_cases hv4:v<4
 ·have key:∀i j,i<4->j<4->i<j->∀b,b ∈ vB (uH d i)->b ∈ vB (uH d j)->False:=λi j hi hj hij b hbi hbj=>by
   rcases(by omega:(i=0/\1<=j)∨(i=1/\2<=j)∨(i=2/\j=3))with⟨rfl,_⟩|⟨rfl,_⟩|⟨rfl,rfl⟩
   ·refine a3 b hbi b ?_ rfl
    simp only[List.mem_append]
    rcases(by omega:j=1∨j=2∨j=3)with rfl|rfl|rfl <;> simp[hbj]
   ·refine b3 b hbi b ?_ rfl
    simp only[List.mem_append]
    rcases(by omega:j=2∨j=3)with rfl|rfl <;> simp[hbj]
   ·exact c3 b hbi b hbj rfl
  rcases Nat.lt_or_gt_of_ne hv with h|h
  ·exact key v u hv4 hu h b hx hb
  ·exact key u v hu hv4 h b hb hx
 ·rw[yVI hl (by omega)]at hx;simp[vB]at hx
theorem zKD {d:zQs} {val:Nat->List Val} {b:Nat} {x:List Val} {v:Nat} (h:b ∉ vB (uH d v)):zZ9 d (zXE val b x) v=zZ9 d val v:=by
 simp only[uH,zQp,List.mem_append,not_or]at h
 simp only[zZ9,zVw h.1,zJW h.2]
theorem zZP {d:zQs} {val:Nat->List Val} {x:List Val} {i:Nat} {h:zQx} {a:Addr} (hn:(vB (zQX d)).Nodup) (hl:Low d) (hi:d.rh[i]?=some h) (ha:h.s.a=some a) :
  zQa d (zXE val a.block x)={ zQa d val with recs:=(zQa d val).recs.modify i λr=>{ r with v:=x } }:=by
 obtain⟨h1,h2⟩:=zWv hn hl
 have hm:a.block ∈ vB d.rh:=List.mem_flatMap.2 ⟨h,List.mem_of_getElem? hi,by simp[zQb,ha]⟩
 simp only[zQa,map_set h1 hi ha rfl,Dsk.mk.injEq,true_and,and_true]
 funext v
 exact zKD (h2 v _ hm)
theorem zVy {d:zQs} {val:Nat->List Val} {x:List Val} {u i:Nat} {h:zQx} {a:Addr} (hn:(vB (zQX d)).Nodup) (hl:Low d) (hu:u<4) (hi:(d.ah u)[i]?=some h) (ha:h.s.a=some a) :
  zQa d (zXE val a.block x)=(zQa d val).setU u { (zQa d val).us u with ap:=((zQa d val).us u).ap.modify i λr=>{ r with v:=x } }:=by
 obtain⟨h1,h2⟩:=xJW hn hl hu
 obtain⟨g1,g2⟩:=zWv hn hl
 have hm0:a.block ∈ vB (d.ah u):=List.mem_flatMap.2 ⟨h,List.mem_of_getElem? hi,by simp[zQb,ha]⟩
 have hm:a.block ∈ vB (uH d u):=by rw[uH,zQp];exact List.mem_append_right _ hm0
 have hr:a.block ∉ vB d.rh:=λhx=>g2 u _ hx hm
 rw[uH,zQp]at h1
 obtain⟨k1,k2,k3⟩:=List.nodup_append.1 h1
 have hc:a.block ∉ vB (chH (d.ch u)):=λhx=>k3 _ hx _ hm0 rfl
 simp only[zQa,zJW hr,Dsk.setU,Dsk.mk.injEq,true_and,and_true]
 funext v
 by_cases e:v=u
 ·subst e
  simp only[if_true,zZ9,zVw hc,map_set k2 hi ha rfl]
 ·simp only[if_neg e];exact zKD (h2 v e _ hm)
end Go.Proofs.YtcihcbfcgjepfaaGreatDoor
/- Desks: how the program's desk lies in memory; its mutex; entering and leaving; modes. No condition but those stated. -/
set_option maxRecDepth 100000
namespace Go.Proofs.YtcihcbfcgjepfaaGreatDoor
open Go.Sh Go.RowKit Tryz
variable {w w' : World} {d d' : zQs} {val : Nat -> List Val} {mu : Int}
theorem xXA:prog.underlying 32=some (.pointer 93):=by kernel_rfl
theorem yJQ:prog.underlying 88=some (.map 3 133):=by kernel_rfl
theorem yYh:prog.underlying 80=some (.map 3 3):=by kernel_rfl
theorem xZy:prog.underlying 23=some (.slice 77):=by kernel_rfl
def zQR(mu:Int)(d:zQs):Array Value:=#[.int .i32 mu,.int .u32 0,.int .i64 d.page,.slice d.fs.a d.fs.len d.fs.cap,.slice d.rs.a d.rs.len d.rs.cap,
 .int .i64 (d.mode 0),.int .i64 (d.at_ 0),.map (some (d.C 0)),.slice (d.asv 0).a (d.asv 0).len (d.asv 0).cap,
 .int .i64 (d.mode 1),.int .i64 (d.at_ 1),.map (some (d.C 1)),.slice (d.asv 1).a (d.asv 1).len (d.asv 1).cap,
 .int .i64 (d.mode 2),.int .i64 (d.at_ 2),.map (some (d.C 2)),.slice (d.asv 2).a (d.asv 2).len (d.asv 2).cap,
 .int .i64 (d.mode 3),.int .i64 (d.at_ 3),.map (some (d.C 3)),.slice (d.asv 3).a (d.asv 3).len (d.asv 3).cap,.map (some d.L)]
structure zQE(w:World)(d:zQs)(val:Nat->List Val):Prop where
 fl:zQl w 38 4 d.fs (d.flds.flatMap zKW)
 rw_:zQl w 77 2 d.rs (d.rh.flatMap zJR)
 aw:∀u,u<4->zQl w 77 2 (d.asv u) ((d.ah u).flatMap zJR)
 mp:d.sd=false->∀u,u<4->zQ3 w zQM chV (d.C u) (d.ch u)
 ml:d.sd=true->∀u,u<4->zQl w 136 5 (d.cs u) ((d.ch u).flatMap chC)
 lm:∃l,zQ3 w zQM zQM d.L l/\∀k,AL.get l k=(d.lk k).map λv=>if d.sd then v+1 else v
 vr:∀h ∈ zQX d,zQl w 28 3 h.s ((hv val h).flatMap zXJ)
 low:Low d
 nd:(vB (zQX d)).Nodup
 oS:d.o d.S=some .S
 oL:d.o d.L=some .L
 oC:d.sd=false->∀u,u<4->d.o (d.C u)=some (.C u)
 oK:d.sd=true->∀u,u<4->∀b ∈ zQb (d.cs u),d.o b=some (.C u)
 oF:∀b ∈ zQb d.fs,d.o b=some .F
 oR:∀b ∈ zQb d.rs,d.o b=some .R
 oA:∀u,u<4->∀b ∈ zQb (d.asv u),d.o b=some (.A u)
 oV:∀b ∈ vB (zQX d),d.o b=some .V
 lt:∀b,d.o b ≠ none->b<w.heap.size
structure zQg(w:World)(d:zQs)(mu:Int)(val:Nat->List Val):Prop where
 st:w.heap[d.S]?=some (.cells (zQR mu d) 93)
 bd:zQE w d val
 sd:d.sd=false
theorem zQg.mp{w:World}{d:zQs}{mu:Int}{val:Nat->List Val}(h:zQg w d mu val){u:Nat}(hu:u<4):zQ3 w zQM chV (d.C u) (d.ch u):=h.bd.mp h.sd u hu
theorem zQg.lm{w:World}{d:zQs}{mu:Int}{val:Nat->List Val}(h:zQg w d mu val):∃l,zQ3 w zQM zQM d.L l/\∀k,AL.get l k=d.lk k:=by
 obtain⟨l,h1,h2⟩:=h.bd.lm
 exact⟨l,h1,λk=>by rw[h2,h.sd];cases d.lk k <;> rfl⟩
def zQs.ptr(d:zQs):Value:=.pointer (some ⟨d.S,0,none⟩)
theorem zQE.fr{B:Nat->Prop}(h:zQE w d val)(hf:Fr B w w')(hn:∀b κ,d.o b=some κ->κ ≠ .S->¬B b):zQE w' d val where
 fl:=h.fl.fr hf λb hb=>hn b _ (h.oF b hb) (by simp)
 rw_:=h.rw_.fr hf λb hb=>hn b _ (h.oR b hb) (by simp)
 aw:=λu hu=>(h.aw u hu).fr hf λb hb=>hn b _ (h.oA u hu b hb) (by simp)
 mp:=λe u hu=>(h.mp e u hu).fr hf (hn _ _ (h.oC e u hu) (by simp))
 ml:=λe u hu=>(h.ml e u hu).fr hf λb hb=>hn b _ (h.oK e u hu b hb) (by simp)
 lm:=let ⟨l,h1,h2⟩:=h.lm;⟨l,h1.fr hf (hn _ _ h.oL (by simp)),h2⟩
 vr:=λx hx=>(h.vr x hx).fr hf λb hb=>hn b _ (h.oV b (zQN hx hb)) (by simp)
 low:=h.low
 nd:=h.nd
 oS:=h.oS
 oL:=h.oL
 oC:=h.oC
 oK:=h.oK
 oF:=h.oF
 oR:=h.oR
 oA:=h.oA
 oV:=h.oV
 lt:=λb hb=>Nat.lt_of_lt_of_le (h.lt b hb) hf.size
theorem zQg.fr{B:Nat->Prop}(h:zQg w d mu val)(hf:Fr B w w')(hn:∀b,d.o b ≠ none->¬B b):zQg w' d mu val:=
 ⟨hf.blk h.st (hn _ (by rw[h.bd.oS];simp)),h.bd.fr hf λb κ hb _=>hn b (by rw[hb];simp),h.sd⟩
theorem zQg.pu(h:zQg w d mu val)(hp:Pu w w'):zQg w' d mu val:=h.fr (Fr.pu hp:Fr (λ_=>False) w w') λ_ _ h=>h
theorem zQg.cell(h:zQg w d mu val)(o:Nat):w.cell? ⟨d.S,o,none⟩=(zQR mu d)[o]?:=zQq h.st o
theorem zQg.cellA(h:zQg w d mu val)(o:Nat):w.cell? ((⟨d.S,0,none⟩:Addr).add o)=(zQR mu d)[o]?:=by rw[zQc,Nat.zero_add];exact h.cell o
abbrev uA(d:zQs)(u:Nat):Addr:=⟨d.S,5+u * 4,none⟩
theorem zQg.cellU(h:zQg w d mu val){u:Nat}(hu:u<4)(o:Nat):w.cell? ((uA d u).add o)=(zQR mu d)[5+u * 4+o]?:=by rw[zQc];exact h.cell _
theorem zKo{u:Nat}(hu:u<4):(zQR mu d)[5+u * 4+0]?=some (.int .i64 (d.mode u)):=by
 rcases(by omega:u=0∨u=1∨u=2∨u=3)with rfl|rfl|rfl|rfl <;> rfl
theorem zKN{u:Nat}(hu:u<4):(zQR mu d)[5+u * 4+1]?=some (.int .i64 (d.at_ u)):=by
 rcases(by omega:u=0∨u=1∨u=2∨u=3)with rfl|rfl|rfl|rfl <;> rfl
theorem zVx{u:Nat}(hu:u<4):(zQR mu d)[5+u * 4+2]?=some (.map (some (d.C u))):=by
 rcases(by omega:u=0∨u=1∨u=2∨u=3)with rfl|rfl|rfl|rfl <;> rfl
theorem zKG{u:Nat}(hu:u<4):(zQR mu d)[5+u * 4+3]?=some (.slice (d.asv u).a (d.asv u).len (d.asv u).cap):=by
 rcases(by omega:u=0∨u=1∨u=2∨u=3)with rfl|rfl|rfl|rfl <;> rfl
theorem zVt{u:Nat}(hu:u<4)(m:Int):(zQR mu d).setIfInBounds (5+u * 4) (.int .i64 m)=zQR mu (d.withMode u m):=by
 rcases(by omega:u=0∨u=1∨u=2∨u=3)with rfl|rfl|rfl|rfl <;> rfl
theorem zJD{u:Nat}(hu:u<4)(m:Int):(zQR mu d).setIfInBounds (5+u * 4+1) (.int .i64 m)=zQR mu (d.withAt u m):=by
 rcases(by omega:u=0∨u=1∨u=2∨u=3)with rfl|rfl|rfl|rfl <;> rfl
theorem zQg.own (h:zQg w d mu val) {mu':Int} {o:Nat} {v:Value} (ho:o<22) {K:World->Prop} (hc:(zQR mu d).setIfInBounds o v=zQR mu' d') (hS:d'.S=d.S) (hsd:d'.sd=d.sd) (hb:∀x,zQE x d val->zQE x d' val)
  (hK:∀x,zQg x d' mu' val->Fr (·=d.S) w x->x.heap.size=w.heap.size->K x):st1 ⟨d.S,o,none⟩ v w K:=by
 refine zQt h.st ho λx hx hbx=>?_
 have hf:Fr (·=d.S) w x:=by rw[hx];exact Fr.cell w _ _ _
 refine hK x ⟨by rw[hS,hbx,hc],hb x (h.bd.fr hf λb κ hb hne e=>?_),by rw[hsd,h.sd]⟩ hf (by rw[hx];simp)
 rw[show b=d.S from e,h.bd.oS]at hb
 exact hne (Option.some.inj hb).symm
theorem zQE.same(h:zQE w d val)(m a:Nat->Int):zQE w { d with mode:=m,at_:=a } val:=⟨h.fl,h.rw_,h.aw,h.mp,h.ml,h.lm,h.vr,h.low,h.nd,h.oS,h.oL,h.oC,h.oK,h.oF,h.oR,h.oA,h.oV,h.lt⟩
structure zQB(w w':World)(d d':zQs)(mu:Int)(val':Nat->List Val):Prop where
 sys:zQg w' d' mu val'
 fr:Fr (λb=>d.o b ≠ none) w w'
 own:∀b,d'.o b ≠ none->d.o b ≠ none∨w.heap.size<=b
 ptr:d'.S=d.S
theorem zQB.refl(h:zQg w d mu val):zQB w w d d mu val:=⟨h,Fr.refl _ _,λ_ h=>.inl h,rfl⟩
theorem zQB.pu(h:zQg w d mu val)(hp:Pu w w'):zQB w w' d d mu val:=⟨h.pu hp,Fr.pu hp,λ_ h=>.inl h,rfl⟩
theorem zQB.trans{w'':World}{d'':zQs}{mu':Int}{val' val'':Nat->List Val}(h:zQB w w' d d' mu val')(k:zQB w' w'' d' d'' mu' val''):zQB w w'' d d'' mu' val'':=by
 refine⟨k.sys,h.fr.trans k.fr λb hb hlt=>(h.own b hb).resolve_right (by omega),λb hb=>?_,k.ptr.trans h.ptr⟩
 rcases k.own b hb with h1|h1
 ·exact h.own b h1
 ·exact .inr (Nat.le_trans h.fr.size h1)
theorem zQB.putU{val':Nat->List Val}{w'':World}(h:zQB w w' d d' mu val')(hp:Pu w' w''):zQB w w'' d d' mu val':=h.trans (zQB.pu h.sys hp)
theorem disable(w:World):(callFunc 168 #[]).run prog w=.ok (.value (.tuple #[])) w:=run_call_mark0 Tryz.func168 (by kernel_rfl) (by kernel_rfl) (by kernel_rfl) .disable (by kernel_rfl) w
theorem enable(w:World):(callFunc 170 #[]).run prog w=.ok (.value (.tuple #[])) w:=run_call_mark0 Tryz.func170 (by kernel_rfl) (by kernel_rfl) (by kernel_rfl) .enable (by kernel_rfl) w
theorem acquire(a:Addr)(w:World):(callFunc 171 #[.pointer (some a)]).run prog w=.ok (.value (.tuple #[])) w:=run_call_marked Tryz.func171 (by kernel_rfl) (by kernel_rfl) (by kernel_rfl) .acquire (by kernel_rfl) a w
theorem xQo(a:Addr)(w:World):(callFunc 173 #[.pointer (some a)]).run prog w=.ok (.value (.tuple #[])) w:=run_call_marked Tryz.func173 (by kernel_rfl) (by kernel_rfl) (by kernel_rfl) .releaseMerge (by kernel_rfl) a w
theorem mu1:prog.underlying 202=some (.pointer 85):=by kernel_rfl
theorem mu2:prog.underlying 206=some .unsafePointer:=by kernel_rfl
theorem mu3:(prog.info? 85).map (λi=>decide (i.size=0))=some false:=by kernel_rfl
theorem xXI {a:Addr} {w:World} (hc:w.cell? a=some (.int .i32 0)) (hz:w.frozen? a=false) :
  Calls prog 85 #[.pointer (some a)] w λe w'=>e=.returned (.tuple #[])/\w'=w.setCell a (.int .i32 1):=by
 refine yWn _ w _ ?_
 refine Calls.mono (R:=λe w'=>e=.returned (.tuple #[])/\w'=w.setCell a (.int .i32 1)) ?_ λe w' h=>⟨h.1,rfl,h.2⟩
 refine yZY _ w _ ?_
 refine⟨w,disable w,true,w.setCell a (.int .i32 1),run_call_cas_hit Tryz.func169 (by kernel_rfl) (by kernel_rfl) (by kernel_rfl) .i32 (by kernel_rfl) hc hz,?_⟩
 have hc':(w.setCell a (.int .i32 1)).cell? a=some (.int .i32 1):=World.cell?_setCell_same _ _ _ hc
 exact⟨_,enable _,_,_,run_convert_to_unsafe mu1 mu2 mu3 hc',_,acquire a _,rfl,rfl⟩
theorem yYx {a:Addr} {w:World} (hc:w.cell? a=some (.int .i32 1)) (hz:w.frozen? a=false) (u:FrameMode) :
  CallsD prog 86 #[.pointer (some a)] u w λe u' w'=>u'=u/\e=.returned (.tuple #[])/\w'=w.setCell a (.int .i32 0):=by
 refine yZK _ w (λe w'=>e=.returned (.tuple #[])/\w'=w.setCell a (.int .i32 0)) u ?_
 refine Calls.mono (R:=λe w'=>e=.returned (.tuple #[])/\w'=w.setCell a (.int .i32 0)) ?_ λe w' h=>⟨h.1,rfl,h.2⟩
 refine yJ3 _ w _ ?_
 refine⟨1,hc,_,_,run_convert_to_unsafe mu1 mu2 mu3 hc,_,xQo a _,_,disable _,0,w.setCell a (.int .i32 0),
  run_call_add Tryz.func174 (by kernel_rfl) (by kernel_rfl) (by kernel_rfl) .i32 (by kernel_rfl) hc hz (by simp[go_sem];rfl),w.setCell a (.int .i32 0),enable _,rfl,rfl⟩
theorem zQg.setMu(h:zQg w d mu val)(m:Int):zQg (w.setCell ⟨d.S,0,none⟩ (.int .i32 m)) d m val:=by
 have hf:=Fr.cell w d.S 0 (.int .i32 m)
 refine⟨?_,h.bd.fr hf λb κ hb hne e=>?_,h.sd⟩
 ·rw[zJP h.st 0 (.int .i32 m)];rfl
 ·rw[show b=d.S from e,h.bd.oS]at hb
  exact hne (Option.some.inj hb).symm
def xJb(d:zQs):Value:=.func (.func 86) #[d.ptr] #[]
def zX3(d:zQs):Deferred:={ target:=.fn (.func 86) #[],args:=#[d.ptr] }
def uV(d:zQs)(u:Int):Value:=.pointer (if isU u=true then some (uA d u.toNat)else none)
theorem yW3(h:zQg w d 0 val)(u:Int) :
  Calls prog 47 #[d.ptr,.int .i64 u] w λe w'=>e=.returned (.tuple #[uV d u,xJb d,.int .i64 (uC u)])/\zQg w' d 1 val/\Fr (·=d.S) w w'/\w'.heap.size=w.heap.size:=by
 refine yKA _ u w _ ⟨false,w,zXk xXA _ _ _ w,?_⟩
 show Calls prog 85 #[.pointer (some ⟨d.S,0,none⟩)] w _
 refine Calls.mono (xXI (by rw[h.cell];rfl) (zJA h.st 0)) ?_
 rintro e w1 ⟨rfl,gj⟩
 have h1:zQg w1 d 1 val:=by rw[gj];exact h.setMu 1
 have bo:Fr (·=d.S) w w1:=by rw[gj];exact Fr.cell w _ _ _
 have iJ:w1.heap.size=w.heap.size:=by rw[gj];simp
 have fin:∀{w2:World},Pu w1 w2->w2.heap=w1.heap->zQg w2 d 1 val/\Fr (·=d.S) w w2/\w2.heap.size=w.heap.size:=λ{w2} hp hh=>⟨h1.pu hp,bo.trans (Fr.pu hp:Fr (·=d.S) w1 w2) λi hi _=>hi,by rw[hh];exact iJ⟩
 refine⟨rfl,Br.of (λc1=>zQf λw2 aj hh2=>?_) (λc1=>Br.of (λc2=>zQf λw2 aj hh2=>?_) (λc2=>zQf λw2 aj hh2=>?_))⟩
 ·have c1:=zQm c1
  have hu:isU u=false:=by simp[isU];omega
  exact⟨by simp only[uV,uC,hu];rfl,fin aj hh2⟩
 ·have c2:=zQm c2
  have hu:isU u=false:=by simp[isU];omega
  exact⟨by simp only[uV,uC,hu];rfl,fin aj hh2⟩
 ·have c1:=zQh c1
  have c2:=zQh c2
  have hu:isU u=true:=by simp[isU];omega
  refine⟨by omega,by omega,?_,fin aj hh2⟩
  simp only[uV,uC,hu,if_true]
  rw[zQc,zQc]
  rfl
theorem yQW (h:zQg w d 1 val) {K:World->Prop} (hK:∀w',zQg w' d 0 val->Fr (·=d.S) w w'->w'.heap.size=w.heap.size->K w'):zQe prog [zX3 d] w K:=by
 show yYY prog (zX3 d) w _
 show CallsD prog 86 #[.pointer (some ⟨d.S,0,none⟩)] .returning w _
 refine CallsD.mono (yYx (by rw[h.cell];rfl) (zJA h.st 0) .returning) ?_
 rintro e u' w' ⟨rfl,rfl,rfl⟩
 exact⟨⟨_,rfl⟩,rfl,hK _ (h.setMu 0) (Fr.cell w _ _ _) (by simp)⟩
theorem zXg {w0:World} {d0:zQs} (h:zQB w0 w d0 d 1 val) {K:World->Prop} (hK:∀w',zQB w0 w' d0 d 0 val->Fr (·=d.S) w w'->w'.heap.size=w.heap.size->K w'):zQe prog [zX3 d] w K:=
 yQW h.sys λw' h' hf hs=>hK w' (h.trans ⟨h',hf.mono λi hi _=>by rw[show i=d.S from hi,h.sys.bd.oS];simp,λ_ h=>.inl h,rfl⟩) hf hs
theorem zQB.enter {w1:World} (h:zQg w d 0 val) (h1:zQg w1 d 1 val) (hf:Fr (·=d.S) w w1):zQB w w1 d d 1 val:=
 ⟨h1,hf.mono λi hi _=>by rw[show i=d.S from hi,h.bd.oS];simp,λ_ h=>.inl h,rfl⟩
theorem zQY{u:Int}(h:isU u=true):∃n:Nat,u=(n:Int)/\n<4:=by
 simp[isU]at h
 exact⟨u.toNat,by omega,by omega⟩
theorem zJZ {u:Int} (h:(uC u != 0)=true):¬isU u=true:=by
 intro hu;simp[uC,hu]at h
theorem zKs {u:Int} (h:(uC u != 0)=false):isU u=true:=by
 cases hu:isU u with
 | true=>rfl
 | false=>simp[uC,hu]at h
theorem zWf{u:Nat}(h:u<4):(if isU (u:Int)=true then some (uA d (u:Int).toNat)else none)=some (uA d u):=by
 have:isU (u:Int)=true:=by simp[isU];omega
 simp[this]
theorem zXr{u:Nat}:((zQa d val).us u).ap.length=(d.ah u).length:=by simp[zQa,zZ9]
theorem zKQ{u:Nat}:((zQa d val).us u).ch.length=(d.ch u).length:=by simp[zQa,zZ9]
theorem zQg.as_len(h:zQg w d mu val){u:Nat}(hu:u<4):(d.asv u).len=(d.ah u).length:=(h.bd.aw u hu).len zQk (by decide)
theorem zY5(h:zQg w d mu val){u:Nat}(hu:u<4):Calls prog 48 #[.pointer (some (uA d u))] w λe w'=>e=.returned (.bool ((zQa d val).us u).emp)/\w'=w:=by
 refine yVQ _ w _ ⟨some (d.C u),by rw[h.cellU hu];exact zVx hu,_,w,(h.mp hu).len rfl yJQ,Br.of (λc=>?_) (λc=>?_)⟩
 ·refine⟨d.asv u,by rw[h.cellU hu];exact zKG hu,?_,rfl⟩
  have hc:(d.ch u).length=0:=by have:=zQA c;omega
  rw[h.as_len hu,Usr.emp,zXr,zKQ,hc]
  congr 2
  by_cases e:(d.ah u).length=0
  ·simp[e]
  ·simp[e]
 ·have hc:(d.ch u).length ≠ 0:=by have:=zQo c;omega
  refine⟨?_,rfl⟩
  rw[Usr.emp,zXr,zKQ,decide_eq_false (by omega)]
theorem yYZ(h:zQg w d mu val){u:Nat}(hu:u<4):Calls prog 103 #[.pointer (some (uA d u))] w λe w'=>e=.returned (.bool ((zQa d val).us u).rows)/\w'=w:=by
 have hm:w.cell? (uA d u)=some (.int .i64 (d.mode u)):=by
  have:=h.cellU hu 0
  rw[zKk]at this
  rw[this];exact zKo hu
 have e:((zQa d val).us u).rows=(decide (d.mode u=1) || decide (d.mode u=2)):=rfl
 rw[e]
 refine yJz _ w _ ⟨_,hm,Br.of (λc=>⟨?_,rfl⟩) (λc=>⟨_,hm,?_,rfl⟩)⟩
 ·rw[decide_eq_true (zQA c)];rfl
 ·have c:=zQo c
  rw[decide_eq_false c,Bool.false_or]
  rfl
theorem xZ6(h:zQg w d 0 val)(u m:Int):Calls prog 14 #[d.ptr,.int .i64 u,.int .i64 m] w λe w'=>e=.returned (.int .i64 (modeC u m (zQa d val)))/\∃d',zQB w w' d d' 0 val/\zQa d' val=modeS u m (zQa d val):=by
 refine yW5 _ u m w _ ?_
 refine Calls.mono (yW3 h u) ?_
 rintro e w1 ⟨rfl,h1,bo,_⟩
 have L1:=zQB.enter h h1 bo
 have bad:∀(n:Int),n ≠ 0->modeC u m (zQa d val)=n->zQe prog [zX3 d] w1 λw'=>Ending.returned (.int .i64 n)=.returned (.int .i64 (modeC u m (zQa d val)))/\∃d',zQB w w' d d' 0 val/\zQa d' val=modeS u m (zQa d val):=λn hn hC=>
  zXg L1 λw' hL _ _=>⟨by rw[hC],d,hL,by rw[modeS,hC,if_neg hn]⟩
 refine⟨_,_,_,rfl,Br.of (λc=>?_) (λc=>?_)⟩
 ·have hu:=zJZ c
  have hC:modeC u m (zQa d val)=1:=by rw[modeC,if_pos hu]
  have e:uC u=1:=by rw[uC,if_neg hu]
  rw[e]
  exact bad 1 (by decide) hC
 have hu:=zKs c
 refine Br.of (λc1=>bad 1 (by decide) (by rw[modeC,if_neg (by simp[hu]),if_pos (.inl (zQm c1))])) (λc1=>Br.of (λc2=>bad 1 (by decide) (by rw[modeC,if_neg (by simp[hu]),if_pos (.inr (zQm c2))])) (λc2=>?_))
 have c1:=zQh c1
 have c2:=zQh c2
 obtain⟨n,rfl,hn⟩:=zQY hu
 rw[zWf hn]
 refine Calls.mono (zY5 h1 hn) ?_
 rintro e w2 ⟨rfl,rfl⟩
 refine⟨_,rfl,Br.of (λc3=>bad 9 (by decide) ?_) (λc3=>?_)⟩
 ·rw[modeC,if_neg (by simp[hu]),if_neg (by omega),if_pos (by simpa using c3)]
 have hC:modeC (n:Int) m (zQa d val)=0:=by
  have c3:((zQa d val).us n).emp=true:=by simpa using c3
  rw[modeC,if_neg (by simp[hu]),if_neg (by omega),if_neg (by rw[zQI,c3];simp)]
 rw[zQn]
 refine h1.own (d':=d.withMode n m) (mu':=1) (by omega) (zVt hn m) rfl rfl (λx hb=>hb.same _ _) λw3 h3 bP pL=>?_
 have L3:zQB w w3 d (d.withMode n m) 1 val:=L1.trans ⟨h3,bP.mono λi hi _=>by rw[show i=d.S from hi,h.bd.oS];simp,λ_ h=>.inl h,rfl⟩
 exact zXg L3 λw' hL _ _=>⟨by rw[hC],_,hL,by rw[modeS,if_pos hC,zWt,zQI]⟩
end Go.Proofs.YtcihcbfcgjepfaaGreatDoor
/- Desks: records and fields copied; a new desk. No condition but those stated. -/
namespace Go.Proofs.YtcihcbfcgjepfaaGreatDoor
open Go.Sh Go.RowKit Tryz
variable {w w' : World} {d d' : zQs} {val : Nat -> List Val} {mu : Int}
theorem bu75:prog.underlying 75=some (.slice 28):=by kernel_rfl
theorem bu22:prog.underlying 22=some (.slice 38):=by kernel_rfl
theorem yK8:(prog.info? 28).map (λi=>(i.zero,i.size,i.bytes))=some (some (.agg #[.int .i64 0,.int .i64 0,.string ⟨#[]⟩]),3,32):=by kernel_rfl
theorem yVE:(prog.info? 38).map (λi=>(i.zero,i.size,i.bytes))=some (some (.agg #[.string ⟨#[]⟩,.int .i64 0,.int .i64 0,.bool false]),4,40):=by kernel_rfl
theorem zJd:(prog.info? 77).map (λi=>(i.zero,i.size,i.bytes))=some (some (.agg #[.bool false,.slice none 0 0]),2,32):=by kernel_rfl
theorem yQk:zX1 prog 77=2:=by kernel_rfl
theorem zYQ:zX1 prog 133=4:=by kernel_rfl
theorem zWp:zX1 prog 28=3:=by kernel_rfl
theorem yYI{s:SV}{l:List Val}(h:RdV w s l)(hb:l.length<=1000000):Calls prog 141 #[.slice s.a s.len s.cap] w λe w'=>∃q:SV,e=.returned (.slice q.a q.len q.cap)/\zZ8 w w' q l/\Pu w w':=by
 refine yJi s w _ ⟨_,w,zKh bu75 _ _ _ _ _ w,Br.of (λhn=>?_) (λhn=>?_)⟩
 ·have hl:l=[]:=by
   cases l with
   | nil=>rfl
   | cons v l=>
    obtain⟨a,ha,_⟩:=h.get 0 v rfl
    rw[ha]at hn;cases hn
  subst hl
  exact⟨⟨none,0,0⟩,rfl,zZ8.nil w w,Pu.refl w⟩
 ·refine zXz λw1 gj=>?_
  have al:Pu w w1:=by rw[gj];exact Pu.alloc w _
  have ww:zQl w1 28 3 ⟨some ⟨w.heap.size,0,none⟩,0,0⟩ []:=⟨rfl,.inr ⟨_,#[],rfl,by rw[gj];exact zX4 w _,Nat.le_refl _,Nat.zero_le _,rfl,rfl⟩⟩
  have h1:=h.pu al
  have hlen:=h.len
  obtain⟨t,w2,hr,hrow,hf,hblk,_⟩:=zQ6 (P:=prog) (ty:=75) bu75 yK8 rfl (by omega) ww (A:=s.a) (m:=s.len) (c:=s.cap) (news:=l.flatMap zXJ) (by rw[zQ0 zQF,hlen]) (λj x hx=>by
   have hj:j<l.length * 3:=by have:=(List.getElem?_eq_some_iff.1 hx).1;rwa [zQ0 zQF]at this
   obtain⟨v,hv⟩:=zXe (l:=l) (k:=j / 3) (by omega)
   obtain⟨a,ha,c0,c1,c2⟩:=h1.get _ v hv
   have h2:=zXU zQF hv (j % 3) (by omega)
   rw[show j / 3 * 3+j % 3=j by omega,hx]at h2
   refine⟨a,ha,?_⟩
   have e:a.add j=(a.add (j / 3 * 3)).add (j % 3):=by
    rw[Addr.add_add];congr 1;omega
   rw[e]
   rcases(by omega:j % 3=0∨j % 3=1∨j % 3=2)with e2|e2|e2 <;> rw[e2]at h2 ⊢ <;> simp[zXJ]at h2 <;> subst h2 <;> assumption) (λx hx=>by
    obtain⟨y,_,hy⟩:=List.mem_flatMap.1 hx
    simp[zXJ]at hy
    rcases hy with rfl|rfl|rfl <;> rfl) (by show(0+s.len) * (32+1)<=_;omega)
  rw[List.nil_append]at hrow
  refine⟨t,w2,hr,t,rfl,⟨hrow,λb hb=>?_⟩,al.andNew hf λb hb=>by simp[zQb]at hb;omega⟩
  rcases hblk b hb with h|h
  ·simp[zQb]at h;omega
  ·have:=al.size;omega
theorem yZd{s:SV}{l:List Fld}(h:zXP w s l)(hb:l.length<=1000000):Calls prog 39 #[.slice s.a s.len s.cap] w λe w'=>∃q:SV,e=.returned (.slice q.a q.len q.cap)/\zQl w' 38 4 q (l.flatMap zKW)/\(∀b ∈ zQb q,w.heap.size<=b)/\Pu w w':=by
 have fl:∀f:Fld,(zKW f).length=4:=λf=>rfl
 refine yVD s w _ ⟨_,w,zKh bu22 _ _ _ _ _ w,Br.of (λhn=>?_) (λhn=>?_)⟩
 ·have hl:l=[]:=by
   cases l with
   | nil=>rfl
   | cons v l=>
    obtain⟨a,ha,_⟩:=zZ2 h (i:=0) (f:=v) rfl
    rw[ha]at hn;cases hn
  subst hl
  exact⟨⟨none,0,0⟩,rfl,zQl.nil _ _ _,by simp[zQb],Pu.refl w⟩
 ·refine zXz λw1 gj=>?_
  have al:Pu w w1:=by rw[gj];exact Pu.alloc w _
  have ww:zQl w1 38 4 ⟨some ⟨w.heap.size,0,none⟩,0,0⟩ []:=⟨rfl,.inr ⟨_,#[],rfl,by rw[gj];exact zX4 w _,Nat.le_refl _,Nat.zero_le _,rfl,rfl⟩⟩
  have h1:=h.pu al
  have hlen:=h.len
  obtain⟨t,w2,hr,hrow,hf,hblk,_⟩:=zQ6 (P:=prog) (ty:=22) bu22 yVE rfl (by omega) ww (A:=s.a) (m:=s.len) (c:=s.cap) (news:=l.flatMap zKW) (by rw[zQ0 fl,hlen]) (λj x hx=>by
   have hj:j<l.length * 4:=by have:=(List.getElem?_eq_some_iff.1 hx).1;rwa [zQ0 fl]at this
   obtain⟨v,hv⟩:=zXe (l:=l) (k:=j / 4) (by omega)
   obtain⟨a,ha,_,_,_,_,c0,c1,c2,c3⟩:=zZ2 h1 hv
   have h2:=zXU fl hv (j % 4) (by omega)
   rw[show j / 4 * 4+j % 4=j by omega,hx]at h2
   refine⟨a,ha,?_⟩
   have e:a.add j=(a.add (j / 4 * 4)).add (j % 4):=by
    rw[Addr.add_add];congr 1;omega
   rw[e]
   rcases(by omega:j % 4=0∨j % 4=1∨j % 4=2∨j % 4=3)with e2|e2|e2|e2 <;> rw[e2]at h2 ⊢ <;> simp[zKW]at h2 <;> subst h2 <;> assumption) (λx hx=>by
    obtain⟨y,_,hy⟩:=List.mem_flatMap.1 hx
    simp[zKW]at hy
    rcases hy with rfl|rfl|rfl|rfl <;> rfl) (by show(0+s.len) * (40+1)<=_;omega)
  rw[List.nil_append]at hrow
  refine⟨t,w2,hr,t,rfl,hrow,λb hb=>?_,al.andNew hf λb hb=>by simp[zQb]at hb;omega⟩
  rcases hblk b hb with h|h
  ·simp[zQb]at h;omega
  ·have:=al.size;omega
theorem zK1{g:Bool}{s:SV}{l:List Val}(h:RdV w s l)(hb:l.length<=1000000):Calls prog 88 #[.agg #[.bool g,.slice s.a s.len s.cap]] w λe w'=>∃q:SV,e=.returned (.agg #[.bool g,.slice q.a q.len q.cap])/\zZ8 w w' q l/\Pu w w':=by
 refine yWB _ _ w _ (alB λw1 al ay=>alB λw2 aj ag=>zQf λw3 am _=>?_)
 have b1:=am.blk (aj.blk ay)
 have b2:=am.blk ag
 have hp:=(al.trans aj).trans am
 have z1:=al.size
 have z2:=aj.size
 have z3:=am.size
 refine⟨λu=>Pu w3 u,Pu.refl _,_,λu hu=>cl0 (hu.blk b1),_,λu hu=>cl (hu.blk b1) 1,(yYI (h.pu hp) hb).mono ?_⟩
 rintro e w4 ⟨q,rfl,hq,ar⟩
 have l1:w.heap.size<w1.heap.size:=zQy ay
 have l2:w1.heap.size<w2.heap.size:=zQy ag
 refine⟨q,rfl,ar,zQj (ar.blk b2) yQk.symm rfl rfl λw5 aP bT rI=>⟨_,cl aP 0,_,cl aP 1,q,rfl,?_,(hp.trans ar).andNew bT λi hi=>by have hi:i=w1.heap.size:=hi;omega⟩⟩
 exact(hq.fr bT λi hi e=>by have:=hq.2 i hi;have e:i=w1.heap.size:=e;omega).low (by omega)
structure zXQ(w:World)(s:SV)(rs:List Rec):Prop where
 len:s.len=rs.length
 get:∀i r,rs[i]?=some r->∃a t,s.a=some a/\w.cell? ((a.add (i * 2)).add 0)=some (.bool r.gone)/\w.cell? ((a.add (i * 2)).add 1)=some (.slice t.a t.len t.cap)/\RdV w t r.v
theorem zXQ.pu{s:SV}{rs:List Rec}(h:zXQ w s rs)(hp:Pu w w'):zXQ w' s rs:=⟨h.len,λi r hr=>by
 obtain⟨a,t,h1,h2,h3,h4⟩:=h.get i r hr
 exact⟨a,t,h1,hp.cell h2,hp.cell h3,h4.pu hp⟩⟩
theorem zXQ.of{s:SV}{rs:List Rec}(h:zXP w s rs):zXQ w s rs:=⟨h.len,λi r hr=>by
 obtain⟨a,t,h1,_,h2,h3,h4⟩:=yJf h hr
 exact⟨a,t,h1,h3,h4,RdV.of h2⟩⟩
def zQK(w:World):List zQx->List Rec->Prop
 | [],[]=>True
 | h :: hs,r :: rs=>(h.g=r.gone/\zQl w 28 3 h.s (r.v.flatMap zXJ))/\zQK w hs rs
 | _,_=>False
theorem zQK.fr{B:Nat->Prop}(hf:Fr B w w'):∀{hs:List zQx} {rs:List Rec},zQK w hs rs->(∀b ∈ vB hs,¬B b)->zQK w' hs rs
 | [],[],_,_=>trivial
 | h :: hs,r :: rs,⟨⟨h1,h2⟩,h3⟩,hn=>⟨⟨h1,h2.fr hf λb hb=>hn b (by rw[zXl];exact List.mem_append_left _ hb)⟩,zQK.fr hf h3 λb hb=>hn b (by rw[zXl];exact List.mem_append_right _ hb)⟩
theorem zQK.push{h:zQx}{r:Rec}:∀{hs:List zQx} {rs:List Rec},zQK w hs rs->h.g=r.gone->zQl w 28 3 h.s (r.v.flatMap zXJ)->zQK w (hs ++ [h]) (rs ++ [r])
 | [],[],_,h1,h2=>⟨⟨h1,h2⟩,trivial⟩
 | x :: hs,y :: rs,⟨a,b⟩,h1,h2=>⟨a,zQK.push b h1 h2⟩
theorem zQK.len:∀{hs:List zQx} {rs:List Rec},zQK w hs rs->hs.length=rs.length
 | [],[],_=>rfl
 | x :: hs,y :: rs,⟨_,b⟩=>by simp[zQK.len b]
structure zXb(w0 w:World)(q:SV)(hs:List zQx)(rs:List Rec):Prop where
 row:zQl w 77 2 q (hs.flatMap zJR)
 new:∀b ∈ zQb q,w0.heap.size<=b
 recs:zQK w hs rs
 vnew:∀b ∈ vB hs,w0.heap.size<=b/\b ∉ zQb q
 nd:(vB hs).Nodup
theorem zXb.pu{w0:World}{q:SV}{hs:List zQx}{rs:List Rec}(h:zXb w0 w q hs rs)(hp:Pu w w'):zXb w0 w' q hs rs:=⟨h.row.pu hp,h.new,h.recs.fr (Fr.pu hp:Fr (λ_=>False) w w') λ_ _ h=>h,h.vnew,h.nd⟩
theorem zZT(s:SV):(zQb s).Nodup:=by unfold zQb;split <;> simp
theorem zYf(l:List zQx)(h:zQx):vB (l ++ [h])=vB l ++ zQb h.s:=by simp[vB]
theorem zJN{s:SV}{rs:List Rec}(h:zXQ w s rs)(hb:rs.length<=100000)(hv:∀r ∈ rs,r.v.length<=1000000):Calls prog 40 #[.slice s.a s.len s.cap] w λe w'=>∃(q:SV) (hs:List zQx),e=.returned (.slice q.a q.len q.cap)/\zXb w w' q hs rs/\Pu w w':=by
 have hlen:=h.len
 refine yWf s w _ ?_
 refine zQ1 rs.length (λk t w'=>t.2=(k:Int)/\∃hs,zXb w w' t.1 hs (rs.take k)/\Pu w w') ⟨rfl,[],⟨zQl.nil _ _ _,by simp[zQb],trivial,by simp[vB],by simp[vB]⟩,Pu.refl _⟩ ?_
 rintro k J ⟨q,t⟩ w1 hk ⟨ht,hs,hq,al⟩ hJ
 obtain rfl:t=(k:Int):=ht
 dsimp only
 have hq:zXb w w1 q hs (rs.take k):=hq
 have hql:=hq.row.len zQk (by decide)
 have hhl:=hq.recs.len
 have htl:=List.length_take_le k rs
 refine Br.of (λd1=>?_) (λd1=>?_)
 ·have hkn:k<rs.length:=by have:=zQm d1;omega
  obtain⟨r,hr⟩:=zXe hkn
  obtain⟨a,t,ha,c0,c1,hV⟩:=(h.pu al).get k r hr
  refine⟨a,ha,by omega,by omega,r.gone,by rw[zQI];exact c0,t,by rw[zQI];exact c1,?_⟩
  refine alB λw2 aj ag=>zQj ag yQk.symm rfl rfl λw3 aH bP pL=>?_
  have am:Pu w1 w3:=aj.andNew bP λi hi=>by rw[show i=_ from hi];exact Nat.le_refl _
  refine⟨_,cl aH 0,_,cl aH 1,(zK1 (hV.pu am) (hv r (List.mem_of_getElem? hr))).mono ?_⟩
  rintro e w4 ⟨s',rfl,hs',ar⟩
  refine⟨_,s',rfl,alB λw5 aB aP=>?_⟩
  have z1:=al.size
  have z3:=am.size
  have z4:=ar.size
  have z5:=aB.size
  have aT:=(am.trans ar).trans aB
  have hq5:=hq.pu aT
  have hlt5:∀b ∈ zQb s',b<w4.heap.size:=hs'.1.lt
  have hqlt:∀b ∈ zQb q,b<w1.heap.size:=hq.row.lt
  obtain⟨q',w6,hra,iE,bb,dM,_⟩:=zQ6 (P:=prog) (ty:=23) xZy zJd rfl (by omega) hq5.row (A:=some ⟨w4.heap.size,0,none⟩) (m:=1) (c:=1) (news:=[.bool r.gone,.slice s'.a s'.len s'.cap]) rfl (λj x hx=>⟨_,rfl,by rw[cl aP];simpa using hx⟩) (λx hx=>by simp at hx;rcases hx with rfl|rfl <;> rfl) (by show(q.len+1) * (32+1)<=_;omega)
  refine⟨q',w6,hra,?_⟩
  rw[zQd (by omega) (by omega)]
  refine hJ _ _ hkn ⟨by simp,hs ++ [⟨r.gone,s'⟩],⟨?_,λb hb=>?_,?_,λb hb=>?_,?_⟩,(al.trans aT).andNew bb λb hb=>hq.new b hb⟩
  ·rw[List.flatMap_append,List.flatMap_singleton];exact iE
  ·rcases dM b hb with h1|h1
   ·exact hq.new b h1
   ·omega
  ·rw[zQP hr]
   refine((hq5.recs).fr bb λb hb=>(hq.vnew b hb).2).push rfl ((hs'.1.pu aB).fr bb λb hb hx=>?_)
   have:=hs'.2 b hb
   have:=hqlt b hx
   omega
  ·rw[zYf,List.mem_append]at hb
   have hq':∀b,b ∈ zQb q'->b ∈ zQb q∨w5.heap.size<=b:=dM
   rcases hb with hb|hb
   ·have h1:=hq.vnew b hb
    refine⟨h1.1,λhx=>?_⟩
    rcases hq' b hx with h2|h2
    ·exact h1.2 h2
    ·have:b<w5.heap.size:=by
      obtain⟨y,hy,hyb⟩:=List.mem_flatMap.1 hb
      have hrec:∀(hs:List zQx) (rs:List Rec),zQK w5 hs rs->∀y ∈ hs,∀b ∈ zQb y.s,b<w5.heap.size:=λhs=>by
       induction hs with
       | nil=>intro rs _ y hy;cases hy
       | cons x hs ih=>intro rs hR y hy b hb;cases rs with
        | nil=>exact hR.elim
        | cons z rs=>
         rcases List.mem_cons.1 hy with rfl|hy
         ·exact hR.1.2.lt b hb
         ·exact ih rs hR.2 y hy b hb
      exact hrec _ _ hq5.recs y hy b hyb
     omega
   ·have h1:=hs'.2 b hb
    have h3:=hlt5 b hb
    refine⟨by omega,λhx=>?_⟩
    rcases hq' b hx with h2|h2
    ·have:=hqlt b h2;omega
    ·omega
  ·rw[zYf]
   refine List.nodup_append.2 ⟨hq.nd,zZT _,λa ha b hb e=>?_⟩
   subst e
   have h1:=hs'.2 a hb
   obtain⟨y,hy,hyb⟩:=List.mem_flatMap.1 ha
   have hrec:∀(hs:List zQx) (rs:List Rec),zQK w1 hs rs->∀y ∈ hs,∀b ∈ zQb y.s,b<w1.heap.size:=λhs=>by
    induction hs with
    | nil=>intro rs _ y hy;cases hy
    | cons x hs ih=>intro rs hR y hy b hb;cases rs with
     | nil=>exact hR.elim
     | cons z rs=>
      rcases List.mem_cons.1 hy with rfl|hy
      ·exact hR.1.2.lt b hb
      ·exact ih rs hR.2 y hy b hb
   have:=hrec _ _ hq.recs y hy a hyb
   omega
 ·have hkn:k=rs.length:=by have:=zQh d1;omega
  subst hkn
  rw[List.take_length]at hq
  exact⟨q,hs,rfl,hq,al⟩
end Go.Proofs.YtcihcbfcgjepfaaGreatDoor
/- Desks: a record as a user sees it; a value of a record; the lock of a record. No condition but those stated. -/
namespace Go.Proofs.YtcihcbfcgjepfaaGreatDoor
open Go.Sh Go.RowKit Tryz
variable {w w' : World} {d d' : zQs} {val : Nat -> List Val} {mu : Int}
theorem zQg.page(h:zQg w d mu val):w.cell? ((⟨d.S,0,none⟩:Addr).add 2)=some (.int .i64 d.page):=by rw[h.cellA];rfl
theorem zQg.flds(h:zQg w d mu val):w.cell? (((⟨d.S,0,none⟩:Addr).add 2).add 1)=some (.slice d.fs.a d.fs.len d.fs.cap):=by rw[zQc,zQc,h.cell];rfl
theorem zQg.recs(h:zQg w d mu val):w.cell? (((⟨d.S,0,none⟩:Addr).add 2).add 2)=some (.slice d.rs.a d.rs.len d.rs.cap):=by rw[zQc,zQc,h.cell];rfl
theorem zQg.locks(h:zQg w d mu val):w.cell? ((⟨d.S,0,none⟩:Addr).add 21)=some (.map (some d.L)):=by rw[h.cellA];rfl
theorem zQg.uMode(h:zQg w d mu val){u:Nat}(hu:u<4):w.cell? (uA d u)=some (.int .i64 (d.mode u)):=by
 have:=h.cellU hu 0
 rw[zKk]at this
 rw[this];exact zKo hu
theorem zQg.uAt(h:zQg w d mu val){u:Nat}(hu:u<4):w.cell? ((uA d u).add 1)=some (.int .i64 (d.at_ u)):=by rw[h.cellU hu];exact zKN hu
theorem zQg.uCh(h:zQg w d mu val){u:Nat}(hu:u<4):w.cell? ((uA d u).add 2)=some (.map (some (d.C u))):=by rw[h.cellU hu];exact zVx hu
theorem zQg.uAp(h:zQg w d mu val){u:Nat}(hu:u<4):w.cell? ((uA d u).add 3)=some (.slice (d.asv u).a (d.asv u).len (d.asv u).cap):=by rw[h.cellU hu];exact zKG hu
theorem zQg.rs_len(h:zQg w d mu val):d.rs.len=d.rh.length:=h.bd.rw_.len zQk (by decide)
theorem zWJ:Keys prog 3 zQM:=yXZ (q:=.i64) (by kernel_rfl)
def h0:zQx:=⟨false,⟨none,0,0⟩⟩
def recV(h:zQx):Value:=.agg #[.bool h.g,.slice h.s.a h.s.len h.s.cap]
def chG(l:List Chg)(k:Int):zQx × zQx:=(AL.get l k).getD (h0,h0)
theorem zYa{b:Nat}{l:List Chg}(h:zQ3 w zQM chV b l)(k:Int):(Instr.lookup 88 (.map (some b)) (.int .i64 k) true).run prog w=.ok (.tuple #[chV (chG l k),.bool (AL.get l k).isSome]) w:=by
 have:=h.look (P:=prog) (t:=88) (kt:=3) (e:=133) zWJ yJQ (z:=.agg #[.bool false,.slice none 0 0,.bool false,.slice none 0 0]) (Tryz.zeroValue133 w) k true
 rw[show(.int .i64 k:Value)=zQM k from rfl,this]
 unfold chG
 cases AL.get l k <;> rfl
theorem zYd {b:Nat} {l:List (Int × Int)} (h:zQ3 w zQM zQM b l) (k:Int):(Instr.lookup 80 (.map (some b)) (.int .i64 k) true).run prog w=.ok (.tuple #[.int .i64 ((AL.get l k).getD 0),.bool (AL.get l k).isSome]) w:=by
 have:=h.look (P:=prog) (t:=80) (kt:=3) (e:=3) zWJ yYh (z:=.int .i64 0) (Tryz.zeroValue3 w) k true
 rw[show(.int .i64 k:Value)=zQM k from rfl,this]
 cases AL.get l k <;> rfl
theorem zXM(val:Nat->List Val):∀(l:List Chg) (k:Int),AL.get (l.map (toC val)) k=(AL.get l k).map λc=>(toR val c.1,toR val c.2)
 | [],k=>rfl
 | (a,b) :: l,k=>by
  simp only[List.map_cons,toC,AL.get]
  by_cases e:a=k
  ·simp[e]
  ·simp only[e,if_false];exact zXM val l k
def zXy(d:zQs)(u:Nat)(k:Int):Option zQx:=if k<0 then(d.ah u)[(-k - 1).toNat]? else if k<1∨k > d.rh.length then none else match AL.get (d.ch u) k with
 | some c=>some c.2
 | none=>d.rh[(k - 1).toNat]?
theorem zKr(d:zQs)(val:Nat->List Val)(u:Nat)(k:Int):(zXy d u k).map (toR val)=seenR (zQa d val) u k:=by
 unfold zXy seenR
 have e1:((zQa d val).us u).ap=(d.ah u).map (toR val):=rfl
 have e2:((zQa d val).us u).ch=(d.ch u).map (toC val):=rfl
 have e3:(zQa d val).recs=d.rh.map (toR val):=rfl
 rw[e1,e2,e3,zXM,List.length_map]
 split
 ·rw[List.getElem?_map]
 ·split
  ·rfl
  ·cases AL.get (d.ch u) k with
   | none=>simp[List.getElem?_map]
   | some c=>rfl
theorem yQw{d:zQs}{u:Nat}(hu:u<4){k:Int}{x:zQx}(h:zXy d u k=some x):x ∈ zQX d:=by
 unfold zXy at h
 split at h
 ·exact zXj hu (List.mem_of_getElem? h)
 ·split at h
  ·cases h
  ·split at h
   ·next c hc=>
    have:=zXA hu (AL.get_mem hc)
    rw[←Option.some.inj h];exact this.2
   ·exact zQJ (List.mem_of_getElem? h)
theorem yWc (h:zQg w d mu val) {u:Nat} (hu:u<4) (k:Int) (ha:(d.ah u).length<=1000000) (hr:d.rh.length<=1000000) :
  Calls prog 49 #[d.ptr,.pointer (some (uA d u)),.int .i64 k] w λe w'=>e=.returned (.tuple #[recV ((zXy d u k).getD h0),.bool (zXy d u k).isSome])/\Pu w w':=by
 refine yKx _ _ k w _ (alB λw1 al ay=>?_)
 have h1:=h.pu al
 have hal:=h.as_len hu
 have hrl:=h.rs_len
 have fin:∀{w2:World} (x:zQx) (b:Bool),Pu w1 w2->((zXy d u k).getD h0=x/\(zXy d u k).isSome=b)->stA prog 77 ⟨w.heap.size,0,none⟩ #[.bool x.g,.slice x.s.a x.s.len x.s.cap] w2 λw3=>∃aC:Bool,w3.cell? ((⟨w.heap.size,0,none⟩:Addr).add 0)=some (.bool aC)/\
   ∃af:SV,w3.cell? ((⟨w.heap.size,0,none⟩:Addr).add 1)=some (.slice af.a af.len af.cap)/\(Ending.returned (.tuple #[.agg #[.bool aC,.slice af.a af.len af.cap],.bool b])=.returned (.tuple #[recV ((zXy d u k).getD h0),.bool (zXy d u k).isSome])/\Pu w w3):=λ{w2} x b hp hx=>
  zQj (hp.blk ay) yQk.symm rfl rfl λw3 aH bP _=>⟨_,cl aH 0,_,cl aH 1,by rw[hx.1,hx.2];rfl,(al.trans hp).andNew bP λi hi=>by rw[show i=w.heap.size from hi];exact Nat.le_refl _⟩
 refine Br.of (λc=>?_) (λc=>?_)
 ·have c:=zQm c
  refine⟨d.asv u,h1.uAp hu,?_⟩
  rw[zQd (by omega) (by omega)]
  refine Br.of (λc2=>?_) (λc2=>?_)
  ·have c2:=zQm c2
   have hlt:(-k - 1).toNat<(d.ah u).length:=by omega
   obtain⟨x,hx⟩:=zXe hlt
   obtain⟨a,ea,_,g0⟩:=(h1.bd.aw u hu).elem zQk hx (o:=0) (v:=.bool x.g) rfl
   obtain⟨a',ea',_,g1⟩:=(h1.bd.aw u hu).elem zQk hx (o:=1) (v:=.slice x.s.a x.s.len x.s.cap) rfl
   obtain rfl:a=a':=by rw[ea]at ea';exact Option.some.inj ea'
   have ew:IntKind.i64.wrap ((IntKind.i64.wrap (0 - k)) - 1)=-k - 1:=by rw[zQd (n:=0 - k) (by omega) (by omega),zQd (by omega) (by omega)];omega
   refine⟨d.asv u,h1.uAp hu,a,ea,?_⟩
   rw[ew]
   refine⟨by omega,by omega,x.g,g0,x.s,g1,fin x true (Pu.refl _) ?_⟩
   have:zXy d u k=some x:=by rw[zXy,if_pos c,hx]
   rw[this];exact⟨rfl,rfl⟩
  ·have c2:=zQh c2
   have hn:zXy d u k=none:=by rw[zXy,if_pos c,List.getElem?_eq_none];omega
   refine Br.of (λ_=>fin h0 false (Pu.refl _) (by rw[hn];exact⟨rfl,rfl⟩)) (λc3=>?_)
   have:=zQh c3;omega
 ·have c:=zQh c
  refine Br.of (λc1=>?_) (λc1=>?_)
  ·have c1:=zQm c1
   exact fin h0 false (Pu.refl _) (by rw[zXy,if_neg c,if_pos (.inl c1)];exact⟨rfl,rfl⟩)
  have c1:=zQh c1
  refine⟨d.rs,h1.recs,Br.of (λc2=>?_) (λc2=>?_)⟩
  ·have c2:=zQm c2
   exact fin h0 false (Pu.refl _) (by rw[zXy,if_neg c,if_pos (.inr (by omega))];exact⟨rfl,rfl⟩)
  have c2:=zQh c2
  have hx:zXy d u k=match AL.get (d.ch u) k with|some c=>some c.2|none=>d.rh[(k - 1).toNat]?:=by rw[zXy,if_neg c,if_neg (by omega)]
  refine⟨some (d.C u),h1.uCh hu,_,(chG (d.ch u) k).1.s,_,(chG (d.ch u) k).2.s,_,w1,zYa (h1.mp hu) k,alB λw2 aj ag=>zQj ag zYQ.symm rfl rfl λw3 aH bP _=>?_⟩
  have am:Pu w1 w3:=aj.andNew bP λi hi=>by rw[show i=w1.heap.size from hi];exact Nat.le_refl _
  have h3:=h1.pu am
  refine Br.of (λc4=>?_) (λc4=>?_)
  ·obtain⟨c,hc⟩:=Option.isSome_iff_exists.1 c4
   rw[hc]at hx
   have eg:chG (d.ch u) k=c:=by rw[chG,hc];rfl
   rw[eg]at aH
   refine⟨c.2.g,?_,c.2.s,?_,fin c.2 true am (by rw[hx];exact⟨rfl,rfl⟩)⟩
   ·rw[zQc,zQc,zQq aH];rfl
   ·rw[zQc,zQc,zQq aH];rfl
  ·have hc:AL.get (d.ch u) k=none:=by simpa using c4
   rw[hc]at hx
   have hlt:(k - 1).toNat<d.rh.length:=by omega
   obtain⟨x,hxx⟩:=zXe hlt
   rw[hxx]at hx
   obtain⟨a,ea,_,g0⟩:=h3.bd.rw_.elem zQk hxx (o:=0) (v:=.bool x.g) rfl
   obtain⟨a',ea',_,g1⟩:=h3.bd.rw_.elem zQk hxx (o:=1) (v:=.slice x.s.a x.s.len x.s.cap) rfl
   obtain rfl:a=a':=by rw[ea]at ea';exact Option.some.inj ea'
   refine⟨d.rs,h3.recs,a,ea,?_⟩
   rw[zQd (by omega) (by omega)]
   exact⟨by omega,by omega,x.g,g0,x.s,g1,fin x true am (by rw[hx];exact⟨rfl,rfl⟩)⟩
end Go.Proofs.YtcihcbfcgjepfaaGreatDoor
/- Desks: what holds of a desk throughout, in plain words. No condition but those stated. -/
namespace Go.Proofs.YtcihcbfcgjepfaaGreatDoor
open Go.Sh Go.RowKit Tryz
structure Inv(σ:Dsk):Prop where
 pg:zXm σ.page=true
 vf:zQW σ.flds=0
 gr:∀r ∈ σ.recs,zQD σ.flds σ.page r=0
 ga:∀u,u<4->∀r ∈ (σ.us u).ap,zQD σ.flds σ.page r=0
 gc:∀u,u<4->∀c ∈ (σ.us u).ch,(zQD σ.flds σ.page c.2.1=0/\zQD σ.flds σ.page c.2.2=0)/\1<=c.1/\c.1<=σ.recs.length
 cn:∀u,u<4->((σ.us u).ch.map Prod.fst).Nodup
 at_:∀u,u<4->(σ.us u).at_<=σ.recs.length/\-(σ.us u).at_<=(σ.us u).ap.length
 rw_:∀u,u<4->(σ.us u).rows=true->(σ.us u).ap ≠ []->(σ.us u).ap.length=1/\(σ.us u).at_=-1
 nn:allN σ<=300
 lr:∀k v,σ.lk k=some v->1<=k/\k<=σ.recs.length/\0<=v/\v<4
theorem zQG{l:List Fld}(h:zQW l=0):l ≠ []/\l.all zQ5=true/\l.length<=16:=by
 unfold zQW at h
 split at h
 ·cases h
 ·next h1=>
  split at h
  ·cases h
  ·split at h
   ·cases h
   ·next h2 h3=>exact⟨λe=>h1 (.inl e),by simpa using λe=>h1 (.inr e),by omega⟩
theorem zKK{f:Fld}(h:zQ5 f=true):zJU f.kind/\zJU f.width/\f.name.size<=10:=by
 unfold zQ5 zZg zWi at h
 simp only[Bool.and_eq_true,decide_eq_true_eq]at h
 obtain⟨⟨⟨⟨_,h2⟩,_⟩,_⟩,h3⟩:=h
 refine⟨?_,?_,h2⟩ <;> unfold zJU <;> (repeat' split at h3) <;> (try simp only[Bool.and_eq_true,decide_eq_true_eq]at h3) <;> first|omega|cases h3
theorem zQ2{l:List Fld}{p:Int}{r:Rec}(h:zQD l p r=0):r.v.length=l.length:=by
 by_cases e:r.v.length=l.length
 ·exact e
 ·rw[zKJ e]at h;cases h
theorem Inv.f16{σ:Dsk}(h:Inv σ):σ.flds.length<=16:=(zQG h.vf).2.2
theorem Inv.fB{σ:Dsk}(h:Inv σ){f:Fld}(hf:f ∈ σ.flds):zQ5 f=true:=List.all_eq_true.1 (zQG h.vf).2.1 f hf
theorem Inv.r300{σ:Dsk}(h:Inv σ):σ.recs.length<=300:=Nat.le_trans (Nat.le_add_right _ _) h.nn
theorem Inv.a300{σ:Dsk}(h:Inv σ){u:Nat}(hu:u<4):(σ.us u).ap.length<=300:=by
 have:=h.nn
 unfold allN at this
 rcases(by omega:u=0∨u=1∨u=2∨u=3)with rfl|rfl|rfl|rfl <;> omega
end Go.Proofs.YtcihcbfcgjepfaaGreatDoor
/- Desks: fields, read; a value of a record. No condition but those stated. -/
namespace Go.Proofs.YtcihcbfcgjepfaaGreatDoor
open Go.Sh Go.RowKit Tryz
variable {w w' : World} {d d' : zQs} {val : Nat -> List Val} {mu : Int}
theorem zZx(f:Fld):(zKW f).length=4:=rfl
theorem xZl {s:SV} {l:List Fld} (h:zQl w 38 4 s (l.flatMap zKW)) (hb:l.all zQ5=true) (hn:l.length<=16):zXP w s l:=by
 have hl:=h.len zZx (by decide)
 refine⟨hl,h.le_cap.1,by omega,λi f hf=>?_⟩
 have hB:=zKK (List.all_eq_true.1 hb f (List.mem_of_getElem? hf))
 obtain⟨a,ha,_,_⟩:=h.elem zZx hf (o:=0) rfl
 refine⟨a,ha,zKW f,⟨rfl,hB.1,hB.2.1⟩,λj v hv=>?_⟩
 obtain⟨a',ha',_,hc⟩:=h.elem zZx hf (o:=j) hv
 rw[ha]at ha';cases ha'
 exact hc
theorem zQg.fld(h:zQg w d mu val)(hv:zQW d.flds=0):zXP w d.fs d.flds:=xZl h.bd.fl (zQG hv).2.1 (zQG hv).2.2
theorem zWo{l:List Fld}(hv:zQW l=0):Lim.ok l:=λf hf=>by
 have:=zKK (List.all_eq_true.1 (zQG hv).2.1 f hf)
 show f.name.size<=140737488355328
 omega
theorem zQg.vals (h:zQg w d mu val) {x:zQx} (hx:x ∈ zQX d) (hl:(hv val x).length<=1000000):RdV w x.s (hv val x):=zZ8.rd (w0:={ w with heap:=#[] }) ⟨h.bd.vr x hx,λ_ _=>Nat.zero_le _⟩ (by omega)
theorem zWQ{l:List Fld}{s:ByteArray}{i:Nat}(h:zWl l s=some i):i<l.length:=by
 unfold zWl at h
 obtain⟨h1,_⟩:=List.findIdx?_eq_some_iff_getElem.1 h
 exact h1
theorem yXt(h:zQg w d mu val)(hvf:zQW d.flds=0){g b:Bool}{s:SV}{l:List Val}(hs:b=true->RdV w s l/\l.length=d.flds.length)(field:ByteArray) :
  Calls prog 56 #[d.ptr,.agg #[.bool g,.slice s.a s.len s.cap],.bool b,.string field] w λe w'=>
   e=.returned (.tuple #[zZh (valueR (zQa d val) (if b then some ⟨g,l⟩else none) field).1,.int .i64 (valueR (zQa d val) (if b then some ⟨g,l⟩else none) field).2])/\Pu w w':=by
 refine yW8 _ _ _ _ _ w _ (alB λw1 al ay=>alB λw2 aj ag=>?_)
 have aG:=al.trans aj
 have h2:=h.pu aG
 refine⟨d.fs,h2.flds,(yWU (h2.fld hvf) field).mono ?_⟩
 rintro e w4 ⟨rfl,ar⟩
 have c8:=aG.trans ar
 have aZ:=ar.blk ag
 have z1:=al.size
 have z2:=aj.size
 have e0:(zQa d val).flds=d.flds:=rfl
 have fin:∀(v:Val) (n:Int),valueR (zQa d val) (if b then some ⟨g,l⟩else none) field=(v,n)->stA prog 28 ⟨w1.heap.size,0,none⟩ #[.int .i64 v.kind,.int .i64 v.n,.string v.s] w4 λw5=>
   ∃aa:Int,w5.cell? ((⟨w1.heap.size,0,none⟩:Addr).add 0)=some (.int .i64 aa)/\∃ac:Int,w5.cell? ((⟨w1.heap.size,0,none⟩:Addr).add 1)=some (.int .i64 ac)/\∃ae:ByteArray,w5.cell? ((⟨w1.heap.size,0,none⟩:Addr).add 2)=some (.string ae)/\
   (Ending.returned (.tuple #[.agg #[.int .i64 aa,.int .i64 ac,.string ae],.int .i64 n])=.returned (.tuple #[zZh (valueR (zQa d val) (if b then some ⟨g,l⟩else none) field).1,.int .i64 (valueR (zQa d val) (if b then some ⟨g,l⟩else none) field).2])/\Pu w w5):=λv n hv=>
  zQj aZ zWp.symm rfl rfl λw5 aP bT _=>⟨_,cl aP 0,_,cl aP 1,_,cl aP 2,by rw[hv],c8.andNew bT λi hi=>by rw[show i=w1.heap.size from hi];omega⟩
 refine⟨_,_,rfl,Br.of (λc=>?_) (λc=>?_)⟩
 ·have c:b=false:=by simpa using c
  refine fin noV 4 ?_
  rw[c];rfl
 have c:b=true:=by simpa using c
 obtain⟨hV,hlen⟩:=hs c
 refine Br.of (λc1=>?_) (λc1=>?_)
 ·refine fin noV 4 ?_
  have c1:zWl d.flds field=none:=by simpa using c1
  simp only[c,if_true,valueR,e0,c1]
 ·have c1:(zWl d.flds field).isSome=true:=by simpa using c1
  obtain⟨i,hi⟩:=Option.isSome_iff_exists.1 c1
  have hil:i<l.length:=by rw[hlen];exact zWQ hi
  obtain⟨v,hv⟩:=zXe hil
  have eK:yXb d.flds field=(i:Int):=by rw[yXb,hi];rfl
  obtain⟨a,ha,c0,c1,c2⟩:=(hV.pu c8).get i v hv
  have gH:=ar.blk (aj.blk ay)
  have hsl:=hV.len
  rw[eK]
  refine⟨s,cl gH 1,a,ha,by omega,by omega,v.kind,c0,v.n,c1,v.s,c2,fin v 0 ?_⟩
  simp only[c,if_true,valueR,e0,hi]
  rw[List.getD_eq_getElem?_getD,hv];rfl
end Go.Proofs.YtcihcbfcgjepfaaGreatDoor
/- Desks: what looks at values: Get, Old, Now, Locked. No condition but those stated. -/
namespace Go.Proofs.YtcihcbfcgjepfaaGreatDoor
open Go.Sh Go.RowKit Tryz
variable {w w' : World} {d d' : zQs} {val : Nat -> List Val} {mu : Int}
theorem zQE.out(h:zQE w d val){r:Nat}(hr:w.heap.size<=r):d.o r=none:=by
 cases e:d.o r with
 | none=>rfl
 | some κ=>
  have:=h.lt r (by rw[e];simp)
  omega
structure yQ4(w w2:World)(d:zQs)(val:Nat->List Val):Prop where
 at_:zQg w2 d 1 val
 fr:Fr (λb=>d.o b ≠ none) w w2
theorem yQ4.pu{w3:World}(h:yQ4 w w' d val)(hp:Pu w' w3):yQ4 w w3 d val:=⟨h.at_.pu hp,h.fr.trans (Fr.pu hp:Fr (λb=>d.o b ≠ none) w' w3) λi hi _=>hi⟩
theorem yQ4.left (h:yQ4 w w' d val) {K:World->Prop} (hK:∀w3,zQB w w3 d d 0 val->Fr (·=d.S) w' w3->w3.heap.size=w'.heap.size->K w3):zQe prog [zX3 d] w' K:=
 yQW h.at_ λw3 h3 hf hs=>hK w3 ⟨h3,h.fr.trans hf λi hi _=>by rw[show i=d.S from hi,h.at_.bd.oS];simp,λ_ h=>.inl h,rfl⟩ hf hs
theorem zQU(h:zQg w d 0 val){w1:World}(hp:Pu w w1)(u:Int) :
  Calls prog 47 #[d.ptr,.int .i64 u] w1 λe w'=>e=.returned (.tuple #[uV d u,xJb d,.int .i64 (uC u)])/\yQ4 w w' d val/\Fr (·=d.S) w1 w'/\w'.heap.size=w1.heap.size:=by
 refine(yW3 (h.pu hp) u).mono ?_
 rintro e w2 ⟨he,h2,hf,hs⟩
 exact⟨he,⟨h2,(Fr.pu hp:Fr (λb=>d.o b ≠ none) w w1).trans hf λi hi _=>by rw[show i=d.S from hi,h.bd.oS];simp⟩,hf,hs⟩
theorem zVd (h:zQg w d 0 val) {r:Nat} (hr:w.heap.size<=r) {w2:World} (h2:yQ4 w w2 d val) {c:Array Value} (hc:c.size=3) (hb:w2.heap[r]?=some (.cells c 28)) (v:Val) (n:Int) {x:Val × Int} (hx:x=(v,n)) :
  stA prog 28 ⟨r,0,none⟩ #[.int .i64 v.kind,.int .i64 v.n,.string v.s] w2 λw3=>zQe prog [zX3 d] w3 λw4=>∃n0:Int,w4.cell? ((⟨r,0,none⟩:Addr).add 0)=some (.int .i64 n0)/\
   ∃n1:Int,w4.cell? ((⟨r,0,none⟩:Addr).add 1)=some (.int .i64 n1)/\∃s2:ByteArray,w4.cell? ((⟨r,0,none⟩:Addr).add 2)=some (.string s2)/\(Ending.returned (.tuple #[.agg #[.int .i64 n0,.int .i64 n1,.string s2],.int .i64 n])=.returned (.tuple #[zZh x.1,.int .i64 x.2])/\zQB w w4 d d 0 val):=by
 have ho:d.o r=none:=h.bd.out hr
 refine zQj hb zWp.symm hc rfl λw3 aH bP pL=>?_
 have h3:yQ4 w w3 d val:=⟨h2.at_.fr bP λb hb e=>by rw[show b=r from e]at hb;exact hb ho,h2.fr.trans bP λi hi hlt=>by have hi:i=r:=hi;omega⟩
 refine h3.left λw4 hL bp _=>?_
 have aZ:=bp.blk aH (λe=>by rw[show r=d.S from e,h.bd.oS]at ho;cases ho)
 exact⟨_,cl aZ 0,_,cl aZ 1,_,cl aZ 2,by rw[hx],hL⟩
theorem Inv.rh (h:Inv (zQa d val)):d.rh.length<=300:=by have:=h.r300;simpa[zQa] using this
theorem Inv.ah (h:Inv (zQa d val)) {u:Nat} (hu:u<4):(d.ah u).length<=300:=by have:=h.a300 hu;rwa [zXr]at this
theorem Inv.good (h:Inv (zQa d val)) {x:zQx} (hx:x ∈ zQX d) (hl:Low d):zQD d.flds d.page (toR val x)=0:=by
 have key:∀u,u<4->x ∈ uH d u->zQD d.flds d.page (toR val x)=0:=λu hu hx=>by
  rcases List.mem_append.1 hx with hx|hx
  ·obtain⟨c,hc,hx⟩:=List.mem_flatMap.1 hx
   have:=(h.gc u hu (toC val c) (List.mem_map.2 ⟨c,hc,rfl⟩)).1
   simp at hx
   rcases hx with rfl|rfl
   ·exact this.1
   ·exact this.2
  ·exact h.ga u hu _ (List.mem_map.2 ⟨x,hx,rfl⟩)
 unfold zQX at hx
 simp only[List.mem_append]at hx
 rcases hx with hx|hx|hx|hx|hx
 ·exact h.gr _ (List.mem_map.2 ⟨x,hx,rfl⟩)
 ·exact key 0 (by omega) hx
 ·exact key 1 (by omega) hx
 ·exact key 2 (by omega) hx
 ·exact key 3 (by omega) hx
theorem zQg.read (h:zQg w d mu val) (hI:Inv (zQa d val)) {x:zQx} (hx:x ∈ zQX d):RdV w x.s (hv val x)/\(hv val x).length=d.flds.length:=by
 have h1:(hv val x).length=d.flds.length:=zQ2 (hI.good hx h.bd.low)
 have h2:d.flds.length<=16:=hI.f16
 exact⟨h.vals hx (by omega),h1⟩
theorem xJs{α β:Type}(o:Option α)(b:α)(f:α->β):(if o.isSome then some (f (o.getD b))else none)=o.map f:=by cases o <;> rfl
theorem get_c (h:zQg w d 0 val) (hI:Inv (zQa d val)) (u k:Int) (field:ByteArray) :
  Calls prog 29 #[d.ptr,.int .i64 u,.int .i64 k,.string field] w λe w'=>e=.returned (.tuple #[zZh (getR u k field (zQa d val)).1,.int .i64 (getR u k field (zQa d val)).2])/\zQB w w' d d 0 val:=by
 refine yVB _ u k field w _ (alB λw1 al ay=>(zQU h al u).mono ?_)
 rintro e w2 ⟨rfl,h2,dh,fC⟩
 have z1:=al.size
 have lr:w.heap.size<w1.heap.size:=zQy ay
 have ho:d.o w.heap.size=none:=h.bd.out (Nat.le_refl _)
 have nS:¬w.heap.size=d.S:=λe=>by rw[e,h.bd.oS]at ho;cases ho
 have ag:=dh.blk ay nS
 refine⟨_,_,_,rfl,Br.of (λc=>?_) (λc=>?_)⟩
 ·have hu:=zJZ c
  have e1:uC u=1:=by rw[uC,if_neg hu]
  have e2:getR u k field (zQa d val)=(noV,1):=by rw[getR,if_pos hu]
  exact zVd h (Nat.le_refl _) h2 rfl ag noV (uC u) (by rw[e2,e1])
 ·have hu:=zKs c
  obtain⟨n,rfl,hn⟩:=zQY hu
  rw[zWf hn]
  refine(yWc h2.at_ hn k (by have:=hI.ah hn;omega) (by have:=hI.rh;omega)).mono ?_
  rintro e w5 ⟨rfl,aB⟩
  refine⟨_,_,_,rfl,alB λw6 bx dx=>zQj dx yQk.symm rfl rfl λw7 bQ dg _=>?_⟩
  have bU:Pu w2 w7:=(aB.trans bx).andNew dg λi hi=>by rw[show i=w5.heap.size from hi];exact aB.size
  have h7:=h2.pu bU
  refine⟨_,cl bQ 0,((zXy d n k).getD h0).s,cl bQ 1,(yXt h7.at_ hI.vf (l:=hv val ((zXy d n k).getD h0)) (λhs=>?_) field).mono ?_⟩
  ·obtain⟨x,hx⟩:=Option.isSome_iff_exists.1 hs
   rw[hx]
   exact h7.at_.read hI (yQw hn hx)
  rintro e w8 ⟨rfl,aV⟩
  have e2:getR (n:Int) k field (zQa d val)=valueR (zQa d val) (if (zXy d n k).isSome then some ⟨((zXy d n k).getD h0).g,hv val ((zXy d n k).getD h0)⟩else none) field:=by
   rw[getR,if_neg (by simp[hu]),zQI,←zKr,←xJs (zXy d n k) h0 (toR val)];rfl
  refine⟨_,_,_,_,rfl,?_⟩
  exact zVd h (Nat.le_refl _) (h7.pu aV) rfl ((bU.trans aV).blk ag) _ _ e2
theorem now_c (h:zQg w d 0 val) (hI:Inv (zQa d val)) (k:Int) (field:ByteArray) :
  Calls prog 18 #[d.ptr,.int .i64 k,.string field] w λe w'=>e=.returned (.tuple #[zZh (nowR k field (zQa d val)).1,.int .i64 (nowR k field (zQa d val)).2])/\zQB w w' d d 0 val:=by
 refine yYf _ k field w _ (alB λw1 al ay=>(zQU h al 0).mono ?_)
 rintro e w2 ⟨rfl,h2,dh,fC⟩
 have z1:=al.size
 have ho:d.o w.heap.size=none:=h.bd.out (Nat.le_refl _)
 have nS:¬w.heap.size=d.S:=λe=>by rw[e,h.bd.oS]at ho;cases ho
 have ag:=dh.blk ay nS
 have el:(zQa d val).recs.length=d.rh.length:=by simp[zQa]
 have hrl:=h2.at_.rs_len
 have uK:=hI.rh
 refine⟨_,_,_,rfl,?_⟩
 refine Br.of (λc1=>?_) (λc1=>?_)
 rotate_left
 refine⟨d.rs,h2.at_.recs,?_⟩
 refine Br.of (λc2=>?_) (λc2=>?_)
 rotate_left 2
 ·have c1:=zQm c1
  have e2:nowR k field (zQa d val)=(noV,4):=by rw[nowR,if_pos (.inl c1)]
  exact zVd h (Nat.le_refl _) h2 rfl ag noV 4 e2
 ·have c2:=zQm c2
  have e2:nowR k field (zQa d val)=(noV,4):=by rw[nowR,if_pos (.inr (by omega))]
  exact zVd h (Nat.le_refl _) h2 rfl ag noV 4 e2
 ·have c1:=zQh c1
  have c2:=zQh c2
  have hlt:(k - 1).toNat<d.rh.length:=by omega
  obtain⟨x,hx⟩:=zXe hlt
  obtain⟨a,ea,_,g0⟩:=h2.at_.bd.rw_.elem zQk hx (o:=0) (v:=.bool x.g) rfl
  obtain⟨a',ea',_,g1⟩:=h2.at_.bd.rw_.elem zQk hx (o:=1) (v:=.slice x.s.a x.s.len x.s.cap) rfl
  obtain rfl:a=a':=by rw[ea]at ea';exact Option.some.inj ea'
  refine⟨d.rs,h2.at_.recs,a,ea,?_⟩
  rw[zQd (by omega) (by omega)]
  refine⟨by omega,by omega,x.g,g0,x.s,g1,(yXt h2.at_ hI.vf (l:=hv val x) (λ_=>h2.at_.read hI (zQJ (List.mem_of_getElem? hx))) field).mono ?_⟩
  rintro e w8 ⟨rfl,aV⟩
  have e2:nowR k field (zQa d val)=valueR (zQa d val) (if true then some ⟨x.g,hv val x⟩else none) field:=by
   rw[nowR,if_neg (by omega),recK]
   have:(zQa d val).recs.getD (k - 1).toNat default=toR val x:=by
    show(d.rh.map (toR val)).getD _ _=_
    rw[List.getD_eq_getElem?_getD,List.getElem?_map,hx];rfl
   rw[this];rfl
  refine⟨_,_,_,_,rfl,?_⟩
  exact zVd h (Nat.le_refl _) (h2.pu aV) rfl (aV.blk ag) _ _ e2
theorem yYw(h:zQg w d 0 val)(k:Int) :
  Calls prog 30 #[d.ptr,.int .i64 k] w λe w'=>e=.returned (.tuple #[.int .i64 (lockedR k (zQa d val)).1,.bool (lockedR k (zQa d val)).2.1,.int .i64 (lockedR k (zQa d val)).2.2])/\zQB w w' d d 0 val:=by
 refine yVa _ k w _ ((zQU h (Pu.refl w) 0).mono ?_)
 rintro e w2 ⟨rfl,h2,dh,fC⟩
 have el:(zQa d val).recs.length=d.rh.length:=by simp[zQa]
 have hrl:=h2.at_.rs_len
 refine⟨_,_,_,rfl,?_⟩
 refine Br.of (λc1=>?_) (λc1=>?_)
 rotate_left
 refine⟨d.rs,h2.at_.recs,?_⟩
 refine Br.of (λc2=>?_) (λc2=>?_)
 rotate_left 2
 ·have c1:=zQm c1
  have e2:lockedR k (zQa d val)=(0,false,4):=by rw[lockedR,if_pos (.inl c1)]
  exact h2.left λw' hL _ _=>⟨by rw[e2],hL⟩
 ·have c2:=zQm c2
  have e2:lockedR k (zQa d val)=(0,false,4):=by rw[lockedR,if_pos (.inr (by omega))]
  exact h2.left λw' hL _ _=>⟨by rw[e2],hL⟩
 ·have c1:=zQh c1
  have c2:=zQh c2
  obtain⟨l,hl,hk⟩:=h2.at_.lm
  refine⟨some d.L,h2.at_.locks,_,_,w2,zYd hl k,h2.left λw' hL _ _=>⟨?_,hL⟩⟩
  have e2:lockedR k (zQa d val)=((d.lk k).getD 0,(d.lk k).isSome,0):=by rw[lockedR,if_neg (by omega)];rfl
  rw[e2,hk]
end Go.Proofs.YtcihcbfcgjepfaaGreatDoor
/- Desks: what stays of a desk when parts of it are changed. No condition but those stated. -/
namespace Go.Proofs.YtcihcbfcgjepfaaGreatDoor
open Go.Sh Go.RowKit Tryz
variable {w w' : World} {d d' : zQs} {val : Nat -> List Val} {mu : Int}
def usH(d:zQs):List zQx:=uH d 0 ++ (uH d 1 ++ (uH d 2 ++ uH d 3))
theorem xJn(d:zQs):zQX d=d.rh ++ usH d:=rfl
def zXa(d:zQs)(u:Nat):List zQx:=d.rh ++ ((if u=0 then []else uH d 0) ++ ((if u=1 then []else uH d 1) ++ ((if u=2 then []else uH d 2) ++ (if u=3 then []else uH d 3))))
theorem zJo(d:zQs){u:Nat}(hu:u<4):(zQX d).Perm (uH d u ++ zXa d u):=by
 rcases(by omega:u=0∨u=1∨u=2∨u=3)with rfl|rfl|rfl|rfl
 ·simp only[zXa,zQX]
  exact List.perm_append_comm_assoc ..
 ·simp only[zXa,zQX]
  refine List.Perm.trans (List.Perm.append_left _ ?_) (List.perm_append_comm_assoc ..)
  exact List.perm_append_comm_assoc ..
 ·simp only[zXa,zQX]
  refine List.Perm.trans (List.Perm.append_left _ (List.Perm.trans (List.Perm.append_left _ ?_) (List.perm_append_comm_assoc ..))) (List.perm_append_comm_assoc ..)
  exact List.perm_append_comm_assoc ..
 ·simp only[zXa,zQX]
  refine List.Perm.trans (List.Perm.append_left _ (List.Perm.trans (List.Perm.append_left _ (List.Perm.trans (List.Perm.append_left _ ?_) (List.perm_append_comm_assoc ..))) (List.perm_append_comm_assoc ..))) (List.perm_append_comm_assoc ..)
  simp only[if_true,List.append_nil,show(3:Nat) ≠ 2 by omega,if_false]
  exact List.perm_append_comm
theorem zXF{a b:List zQx}(h:a.Perm b):(vB a).Perm (vB b):=List.Perm.flatMap_right _ h
theorem yXi{u:Nat}(hu:u<4):(vB (zQX d)).Nodup ↔ (vB (uH d u ++ zXa d u)).Nodup:=(zXF (zJo d hu)).nodup_iff
theorem mem_u{u:Nat}(hu:u<4){x:zQx}:x ∈ zQX d ↔ x ∈ uH d u∨x ∈ zXa d u:=by rw[(zJo d hu).mem_iff,List.mem_append]
theorem yKy:∀{l:List zQx} {x y:zQx} {b:Nat},(vB l).Nodup->x ∈ l->y ∈ l->b ∈ zQb x.s->b ∈ zQb y.s->x=y
 | [],x,y,b,_,hx,_,_,_=>by cases hx
 | z :: l,x,y,b,hn,hx,hy,hbx,hby=>by
  rw[zXl]at hn
  obtain⟨_,n2,n3⟩:=List.nodup_append.1 hn
  rcases List.mem_cons.1 hx with ex|kx
  ·rcases List.mem_cons.1 hy with ey|ky
   ·rw[ex,ey]
   ·exact absurd rfl (n3 b (by rw[←ex];exact hbx) b (zQN ky hby))
  ·rcases List.mem_cons.1 hy with ey|ky
   ·exact absurd rfl (n3 b (by rw[←ey];exact hby) b (zQN kx hbx))
   ·exact yKy n2 kx ky hbx hby
theorem zQE.setVal (h:zQE w d val) {x:zQx} (hx:x ∈ zQX d) {a:Addr} (ha:x.s.a=some a) {l':List Val} (hf:Fr (·=a.block) w w') (hrow:zQl w' 28 3 x.s (l'.flatMap zXJ)):zQE w' d (zXE val a.block l'):=by
 have hb:a.block ∈ zQb x.s:=by simp[zQb,ha]
 have hV:d.o a.block=some .V:=h.oV _ (zQN hx hb)
 have ne:∀{b:Nat} {κ:zXx},d.o b=some κ->κ ≠ .V->¬b=a.block:=λ{b κ} hb hk e=>by rw[e,hV]at hb;exact hk (Option.some.inj hb).symm
 refine⟨h.fl.fr hf λb hb=>ne (h.oF b hb) (by simp),h.rw_.fr hf λb hb=>ne (h.oR b hb) (by simp),λu hu=>(h.aw u hu).fr hf λb hb=>ne (h.oA u hu b hb) (by simp),
  λe u hu=>(h.mp e u hu).fr hf (ne (h.oC e u hu) (by simp)),λe u hu=>(h.ml e u hu).fr hf λb hb=>ne (h.oK e u hu b hb) (by simp),?_,λy hy=>?_,h.low,h.nd,h.oS,h.oL,h.oC,h.oK,h.oF,h.oR,h.oA,h.oV,λb hb=>Nat.lt_of_lt_of_le (h.lt b hb) hf.size⟩
 ·obtain⟨l,h1,h2⟩:=h.lm
  exact⟨l,h1.fr hf (ne h.oL (by simp)),h2⟩
 ·by_cases hyb:a.block ∈ zQb y.s
  ·obtain rfl:=yKy h.nd hx hy hb hyb
   rw[zZs ha rfl];exact hrow
  ·rw[zZR hyb]
   exact(h.vr y hy).fr hf λb hb' e=>hyb (by rw[←show b=a.block from e];exact hb')
def zQs.ad(d:zQs)(b:Nat):zQs:={ d with o:=λc=>if c=b then some .V else d.o c }
theorem zQE.ad(h:zQE w d val){b:Nat}(ho:d.o b=none)(hb:b<w.heap.size)(x:List Val):zQE w (d.ad b) (zXE val b x):=by
 have up:∀{c:Nat} {κ:zXx},d.o c=some κ->(d.ad b).o c=some κ:=λ{c κ} hc=>by
  show(if c=b then _ else _)=_
  rw[if_neg λe=>by rw[e,ho]at hc;cases hc];exact hc
 refine⟨h.fl,h.rw_,h.aw,h.mp,h.ml,h.lm,λy hy=>?_,h.low,h.nd,up h.oS,up h.oL,λe u hu=>up (h.oC e u hu),λe u hu c hc=>up (h.oK e u hu c hc),λc hc=>up (h.oF c hc),λc hc=>up (h.oR c hc),λu hu c hc=>up (h.oA u hu c hc),λc hc=>up (h.oV c hc),λc hc=>?_⟩
 ·have hn:b ∉ zQb y.s:=λe=>by have:=h.oV b (zQN hy e);rw[ho]at this;cases this
  rw[zZR hn];exact h.vr y hy
 ·by_cases e:c=b
  ·rw[e];exact hb
  ·have:(if c=b then some zXx.V else d.o c) ≠ none:=hc
   rw[if_neg e]at this;exact h.lt c this
theorem zQE.free (h:zQE w d val) {b:Nat} (ho:d.o b=some .V) (hn:b ∉ vB (zQX d)) (hf:Fr (·=b) w w') (x:List Val):zQE w' d (zXE val b x):=by
 have ne:∀{c:Nat} {κ:zXx},d.o c=some κ->κ ≠ .V->¬c=b:=λ{c κ} hc hk e=>by rw[e,ho]at hc;exact hk (Option.some.inj hc).symm
 refine⟨h.fl.fr hf λb hb=>ne (h.oF b hb) (by simp),h.rw_.fr hf λb hb=>ne (h.oR b hb) (by simp),λu hu=>(h.aw u hu).fr hf λb hb=>ne (h.oA u hu b hb) (by simp),
  λe u hu=>(h.mp e u hu).fr hf (ne (h.oC e u hu) (by simp)),λe u hu=>(h.ml e u hu).fr hf λb hb=>ne (h.oK e u hu b hb) (by simp),?_,λy hy=>?_,h.low,h.nd,h.oS,h.oL,h.oC,h.oK,h.oF,h.oR,h.oA,h.oV,λb hb=>Nat.lt_of_lt_of_le (h.lt b hb) hf.size⟩
 ·obtain⟨l,h1,h2⟩:=h.lm
  exact⟨l,h1.fr hf (ne h.oL (by simp)),h2⟩
 ·have hyb:b ∉ zQb y.s:=λe=>hn (zQN hy e)
  rw[zZR hyb]
  exact(h.vr y hy).fr hf λc hc e=>hyb (by rw[←show c=b from e];exact hc)
theorem xQn {b:Nat} {x:List Val} (hl:Low d) (hn:b ∉ vB (zQX d)):zQa d (zXE val b x)=zQa d val:=by
 have hr:b ∉ vB d.rh:=λe=>hn (by rw[xJn,zQp];exact List.mem_append_left _ e)
 have hu:∀v,b ∉ vB (uH d v):=λv e=>by
  by_cases hv:v<4
  ·exact hn ((zXF (zJo d hv)).mem_iff.2 (by rw[zQp];exact List.mem_append_left _ e))
  ·rw[yVI hl (by omega)]at e;simp[vB]at e
 simp only[zQa,zJW hr,Dsk.mk.injEq,true_and,and_true]
 funext v
 exact zKD (hu v)
theorem zVB{b:Nat}{x:List Val}(h:zQE w d val)(ho:d.o b=none):zQa (d.ad b) (zXE val b x)=zQa d val:=
 xQn h.low λe=>by have:=h.oV b e;rw[ho]at this;cases this
theorem zQE.lks (h:zQE w d val) {lk':Int->Option Int} {l:List (Int × Int)} (hf:Fr (·=d.L) w w') (hl:zQ3 w' zQM zQM d.L l) (he:∀k,AL.get l k=(lk' k).map λv=>if d.sd then v+1 else v):zQE w' { d with lk:=lk' } val:=by
 have ne:∀{c:Nat} {κ:zXx},d.o c=some κ->κ ≠ .L->¬c=d.L:=λ{c κ} hc hk e=>by rw[e,h.oL]at hc;exact hk (Option.some.inj hc).symm
 exact⟨h.fl.fr hf λb hb=>ne (h.oF b hb) (by simp),h.rw_.fr hf λb hb=>ne (h.oR b hb) (by simp),λu hu=>(h.aw u hu).fr hf λb hb=>ne (h.oA u hu b hb) (by simp),
  λe u hu=>(h.mp e u hu).fr hf (ne (h.oC e u hu) (by simp)),λe u hu=>(h.ml e u hu).fr hf λb hb=>ne (h.oK e u hu b hb) (by simp),⟨l,hl,he⟩,λy hy=>(h.vr y hy).fr hf λb hb=>ne (h.oV b (zQN hy hb)) (by simp),h.low,h.nd,h.oS,h.oL,h.oC,h.oK,h.oF,h.oR,h.oA,h.oV,λb hb=>Nat.lt_of_lt_of_le (h.lt b hb) hf.size⟩
def zQs.gen(d:zQs)(u:Nat)(o':Nat->Option zXx)(rs':SV)(rh':List zQx)(as':SV)(ah':List zQx)(cs':SV)(ch':List Chg)(C':Nat):zQs:=
 { d with o:=o',rs:=rs',rh:=rh',asv:=λv=>if v=u then as' else d.asv v,ah:=λv=>if v=u then ah' else d.ah v,cs:=λv=>if v=u then cs' else d.cs v,ch:=λv=>if v=u then ch' else d.ch v,C:=λv=>if v=u then C' else d.C v }
section
variable {u : Nat} {o' : Nat -> Option zXx} {rs' as' cs' : SV} {rh' ah' : List zQx} {ch' : List Chg} {C' : Nat}
theorem gen_uH:uH (d.gen u o' rs' rh' as' ah' cs' ch' C') u=chH ch' ++ ah':=by simp[uH,zQs.gen]
theorem yK0{v:Nat}(h:v ≠ u):uH (d.gen u o' rs' rh' as' ah' cs' ch' C') v=uH d v:=by simp[uH,zQs.gen,h]
theorem xKb:zXa (d.gen u o' rs' rh' as' ah' cs' ch' C') u=rh' ++ (zXa d u).drop d.rh.length:=by
 have e:(zXa d u).drop d.rh.length=((if u=0 then []else uH d 0) ++ ((if u=1 then []else uH d 1) ++ ((if u=2 then []else uH d 2) ++ (if u=3 then []else uH d 3)))):=by simp[zXa]
 have k:∀v:Nat,(if u=v then []else uH (d.gen u o' rs' rh' as' ah' cs' ch' C') v)=(if u=v then []else uH d v):=λv=>by
  by_cases h:u=v
  ·rw[if_pos h,if_pos h]
  ·rw[if_neg h,if_neg h,yK0 (Ne.symm h)]
 rw[e]
 simp only[zXa,k]
 rfl
def zKO(d:zQs)(u:Nat)(rh' ah':List zQx)(ch':List Chg):List zQx:=(chH ch' ++ ah') ++ (rh' ++ (zXa d u).drop d.rh.length)
theorem yY0(hu:u<4):(zQX (d.gen u o' rs' rh' as' ah' cs' ch' C')).Perm (zKO d u rh' ah' ch'):=by
 have:=zJo (d.gen u o' rs' rh' as' ah' cs' ch' C') hu
 rwa [gen_uH,xKb]at this
theorem yQG {x:zQx} (hu:u<4) (h:x ∈ (zXa d u).drop d.rh.length):x ∈ zQX d:=(mem_u hu).2 (.inr (List.mem_of_mem_drop h))
theorem zQE.genL(h:zQE w d val)(hu:u<4){B:Nat->Prop}(hf:Fr B w w')
  {lk':Int->Option Int} (hK:∃l,zQ3 w' zQM zQM d.L l/\∀k,AL.get l k=(lk' k).map λv=>if d.sd then v+1 else v) (oL:o' d.L=some .L)
  (keep:∀b κ,d.o b=some κ->κ ≠ .L->κ ≠ .S->κ ≠ .R->κ ≠ .A u->κ ≠ .C u->¬B b/\o' b=some κ) (oS:o' d.S=some .S)
  (hR:zQl w' 77 2 rs' (rh'.flatMap zJR)) (oR:∀b ∈ zQb rs',o' b=some .R) (hA:zQl w' 77 2 as' (ah'.flatMap zJR)) (oA:∀b ∈ zQb as',o' b=some (.A u))
  (hM:d.sd=false->zQ3 w' zQM chV C' ch'/\o' C'=some (.C u)) (hL:d.sd=true->zQl w' 136 5 cs' (ch'.flatMap chC)/\∀b ∈ zQb cs',o' b=some (.C u))
  (new:∀x ∈ chH ch' ++ ah' ++ rh',(∃y ∈ zQX d,x.s=y.s)∨(zQl w' 28 3 x.s ((hv val x).flatMap zXJ)/\∀b ∈ zQb x.s,o' b=some .V)) (nd:(vB (zKO d u rh' ah' ch')).Nodup) (lt:∀b,o' b ≠ none->b<w'.heap.size) :
  zQE w' { d.gen u o' rs' rh' as' ah' cs' ch' C' with lk:=lk' } val:=by
 have gp:(zQX (d.gen u o' rs' rh' as' ah' cs' ch' C')).Perm (zKO d u rh' ah' ch'):=yY0 hu
 have kp:∀{b:Nat} {κ:zXx},d.o b=some κ->κ ≠ .S->κ ≠ .R->κ ≠ .A u->κ ≠ .C u->κ ≠ .L->¬B b:=λ{b κ} a1 a2 a3 a4 a5 a6=>(keep b κ a1 a6 a2 a3 a4 a5).1
 have ko:∀{b:Nat} {κ:zXx},d.o b=some κ->κ ≠ .S->κ ≠ .R->κ ≠ .A u->κ ≠ .C u->κ ≠ .L->o' b=some κ:=λ{b κ} a1 a2 a3 a4 a5 a6=>(keep b κ a1 a6 a2 a3 a4 a5).2
 have cls:∀x ∈ zKO d u rh' ah' ch',zQl w' 28 3 x.s ((hv val x).flatMap zXJ)/\∀b ∈ zQb x.s,o' b=some .V:=λx hx=>by
  have old:∀y ∈ zQX d,zQl w' 28 3 y.s ((hv val y).flatMap zXJ)/\∀b ∈ zQb y.s,o' b=some .V:=λy hy=>
   ⟨(h.vr y hy).fr hf λb hb=>kp (h.oV b (zQN hy hb)) (by simp) (by simp) (by simp) (by simp) (by simp),λb hb=>ko (h.oV b (zQN hy hb)) (by simp) (by simp) (by simp) (by simp) (by simp)⟩
  have hx':x ∈ chH ch' ++ ah' ++ rh'∨x ∈ (zXa d u).drop d.rh.length:=by
   simp only[zKO,List.mem_append]at hx ⊢
   rcases hx with(hx|hx)|hx|hx
   ·exact .inl (.inl (.inl hx))
   ·exact .inl (.inl (.inr hx))
   ·exact .inl (.inr hx)
   ·exact .inr hx
  rcases hx' with hx|hx
  ·rcases new x hx with⟨y,hy,hs⟩|hx
   ·have e:hv val x=hv val y:=by rw[hv,hv,hs]
    rw[e,hs]
    exact old y hy
   ·exact hx
  ·exact old x (yQG hu hx)
 refine⟨h.fl.fr hf λb hb=>kp (h.oF b hb) (by simp) (by simp) (by simp) (by simp) (by simp),hR,λv hv=>?_,λe v hv=>?_,λe v hv=>?_,?_,λx hx=>(cls x (gp.mem_iff.1 hx)).1,λv hv=>?_,((zXF gp).nodup_iff).2 nd,oS,oL,λe v hv=>?_,λe v hv b hb=>?_,λb hb=>ko (h.oF b hb) (by simp) (by simp) (by simp) (by simp) (by simp),oR,λv hv b hb=>?_,λb hb=>?_,lt⟩
 ·by_cases e:v=u
  ·subst e;simpa[zQs.gen] using hA
  ·simp only[zQs.gen,if_neg e]
   exact(h.aw v hv).fr hf λb hb=>kp (h.oA v hv b hb) (by simp) (by simp) (by simp[e]) (by simp) (by simp)
 ·by_cases e':v=u
  ·subst e';simpa[zQs.gen] using (hM e).1
  ·simp only[zQs.gen,if_neg e']
   exact(h.mp e v hv).fr hf (kp (h.oC e v hv) (by simp) (by simp) (by simp) (by simp[e']) (by simp))
 ·by_cases e':v=u
  ·subst e';simpa[zQs.gen] using (hL e).1
  ·simp only[zQs.gen,if_neg e']
   exact(h.ml e v hv).fr hf λb hb=>kp (h.oK e v hv b hb) (by simp) (by simp) (by simp) (by simp[e']) (by simp)
 ·exact hK
 ·have e:v ≠ u:=by omega
  have:=h.low v hv
  simpa[zQs.gen,e] using this
 ·by_cases e':v=u
  ·subst e';simpa[zQs.gen] using (hM e).2
  ·simp only[zQs.gen,if_neg e']
   exact ko (h.oC e v hv) (by simp) (by simp) (by simp) (by simp[e']) (by simp)
 ·by_cases e':v=u
  ·subst e'
   exact(hL e).2 b (by simpa[zQs.gen] using hb)
  ·simp only[zQs.gen,if_neg e']at hb
   exact ko (h.oK e v hv b hb) (by simp) (by simp) (by simp) (by simp[e']) (by simp)
 ·by_cases e:v=u
  ·subst e
   exact oA b (by simpa[zQs.gen] using hb)
  ·simp only[zQs.gen,if_neg e]at hb
   exact ko (h.oA v hv b hb) (by simp) (by simp) (by simp[e]) (by simp) (by simp)
 ·obtain⟨x,hx,hb⟩:=List.mem_flatMap.1 hb
  exact(cls x (gp.mem_iff.1 hx)).2 b hb
theorem zQE.gen(h:zQE w d val)(hu:u<4){B:Nat->Prop}(hf:Fr B w w')
  (keep:∀b κ,d.o b=some κ->κ ≠ .S->κ ≠ .R->κ ≠ .A u->κ ≠ .C u->¬B b/\o' b=some κ) (oS:o' d.S=some .S)
  (hR:zQl w' 77 2 rs' (rh'.flatMap zJR)) (oR:∀b ∈ zQb rs',o' b=some .R) (hA:zQl w' 77 2 as' (ah'.flatMap zJR)) (oA:∀b ∈ zQb as',o' b=some (.A u))
  (hM:d.sd=false->zQ3 w' zQM chV C' ch'/\o' C'=some (.C u)) (hL:d.sd=true->zQl w' 136 5 cs' (ch'.flatMap chC)/\∀b ∈ zQb cs',o' b=some (.C u))
  (new:∀x ∈ chH ch' ++ ah' ++ rh',(∃y ∈ zQX d,x.s=y.s)∨(zQl w' 28 3 x.s ((hv val x).flatMap zXJ)/\∀b ∈ zQb x.s,o' b=some .V)) (nd:(vB (zKO d u rh' ah' ch')).Nodup) (lt:∀b,o' b ≠ none->b<w'.heap.size) :
  zQE w' (d.gen u o' rs' rh' as' ah' cs' ch' C') val:=by
 obtain⟨l,h1,h2⟩:=h.lm
 have kL:=keep d.L .L h.oL (by simp) (by simp) (by simp) (by simp)
 exact h.genL hu hf (lk':=d.lk) ⟨l,h1.fr hf kL.1,h2⟩ kL.2 (λb κ a1 _ a2 a3 a4 a5=>keep b κ a1 a2 a3 a4 a5) oS hR oR hA oA hM hL new nd lt
theorem zK8:zQa (d.gen u o' rs' rh' as' ah' cs' ch' C') val={ (zQa d val)with recs:=rh'.map (toR val) }.setU u { (zQa d val).us u with ch:=ch'.map (toC val),ap:=ah'.map (toR val) }:=by
 simp only[zQa,Dsk.setU,Dsk.mk.injEq]
 refine⟨rfl,rfl,rfl,?_,rfl⟩
 funext v
 by_cases e:v=u
 ·subst e;simp[zZ9,zQs.gen]
 ·simp[zZ9,zQs.gen,e]
end
end Go.Proofs.YtcihcbfcgjepfaaGreatDoor
