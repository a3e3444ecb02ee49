import Derived.Test.YtaeecpjhfmcliaaGreatDoorLgOwD
import Derived.Test.YtaeecpjhfmcliaaGreatDoorLgOwC
/- Table: rows of fields and of records that a call has made; a field's entry, read by both packages. No condition. -/
set_option maxRecDepth 100000
set_option maxHeartbeats 1000000
set_option linter.unusedVariables false
set_option linter.unusedSimpArgs false
noncomputable section
namespace Go.Proofs.YtaeecpjhfmcliaaGreatDoor
open Go.Sh Go.RowKit Tryz
theorem u32':prog.underlying 32=some (.slice 129):=by kernel_rfl
theorem info23:(prog.info? 129).map (λi=>(i.zero,i.size,i.bytes))=some (some (.agg #[.string ⟨#[]⟩,.int .i64 0,.int .i64 0,.bool false]),4,40):=by kernel_rfl
theorem u33:prog.underlying 33=some (.slice 67):=by kernel_rfl
theorem info46:(prog.info? 67).map (λi=>(i.zero,i.size,i.bytes))=some (some (.agg #[.bool false,.slice none 0 0]),2,32):=by kernel_rfl
theorem zJb(f:Fld):(zYp f).length=4:=rfl
def zWr(w0 w:World)(s:SV)(l:List Fld):Prop:=zQj w 129 4 s (l.flatMap zYp)/\∀b ∈ zQb s,w0.heap.size<=b
theorem zWr.len{w0 w:World}{s:SV}{l:List Fld}(h:zWr w0 w s l):s.len=l.length:=h.1.len zJb (by decide)
theorem zWr.pu{w0 w w':World}{s:SV}{l:List Fld}(h:zWr w0 w s l)(hp:Pu w w'):zWr w0 w' s l:=⟨h.1.pu hp,h.2⟩
theorem zWr.fr{B:Nat->Prop}{w0 w w':World}{s:SV}{l:List Fld}(h:zWr w0 w s l)(hf:Fr B w w')(hn:∀k ∈ zQb s,¬B k):zWr w0 w' s l:=⟨h.1.fr hf hn,h.2⟩
theorem zWr.nil(w0 w:World):zWr w0 w ⟨none,0,0⟩ []:=⟨zQj.nil w 129 4,by simp[zQb]⟩
theorem zWr.low{w0 w1 w:World}{s:SV}{l:List Fld}(h:zWr w1 w s l)(hz:w0.heap.size<=w1.heap.size):zWr w0 w s l:=⟨h.1,λb hb=>Nat.le_trans hz (h.2 b hb)⟩
theorem zWr.push {w0 w:World} {s:SV} {l:List Fld} (h:zWr w0 w s l) (hz:w0.heap.size<=w.heap.size) {r:Nat} {f:Fld} {c:Array Value} (hr:w.heap[r]?=some (.cells c 129)) (hc:c=#[.string f.name,.int .i64 f.kind,.int .i64 f.width,.bool f.null]) (hb:l.length<=1000000) :
  ∃(s':SV) (w':World),(Builtin.append_ #[32,32] 32 #[.slice s.a s.len s.cap,.slice (some ⟨r,0,none⟩) 1 1]).run prog w=.ok (.slice s'.a s'.len s'.cap) w'/\zWr w0 w' s' (l ++ [f])/\Fr (· ∈ zQb s) w w':=by
 subst hc
 have h1:=h.len
 obtain⟨s',w',hra,hrow,hf,hblk,_⟩:=zQ9 (P:=prog) (ty:=32) u32' info23 rfl (by decide) h.1 (A:=some ⟨r,0,none⟩) (m:=1) (c:=1) (news:=zYp f) rfl (λj u hu=>⟨_,rfl,by rw[cl hr];simpa using hu⟩) (λu hu=>by simp[zYp]at hu;rcases hu with rfl|rfl|rfl|rfl <;> rfl) (by omega)
 refine⟨s',w',hra,⟨by simpa using hrow,λb hb=>?_⟩,hf⟩
 rcases hblk b hb with h2|h2
 ·exact h.2 b h2
 ·omega
def F64(l:List Fld):Prop:=∀f ∈ l,zZZ f.kind/\zZZ f.width
def V64(l:List Val):Prop:=∀v ∈ l,zZZ v.kind/\zZZ v.n
theorem zWr.rd{w0 w:World}{s:SV}{l:List Fld}(h:zWr w0 w s l)(hb:l.length<=1000000)(mv:F64 l):zXF w s l:=⟨h.len,h.1.le_cap.1,by have:=h.len;omega,λi f hf=>by
 obtain⟨a,h1,_,c0⟩:=h.1.elem zJb hf (o:=0) rfl
 obtain⟨a1,md,_,c1⟩:=h.1.elem zJb hf (o:=1) rfl
 obtain⟨a2,h1'',_,c2⟩:=h.1.elem zJb hf (o:=2) rfl
 obtain⟨a3,h1''',_,c3⟩:=h.1.elem zJb hf (o:=3) rfl
 rw[h1]at md h1'' h1''';cases md;cases h1'';cases h1'''
 refine⟨a,h1,zYp f,⟨rfl,mv f (List.mem_of_getElem? hf)⟩,λj v hv=>?_⟩
 rcases j with _|_|_|_|j <;> simp[zYp]at hv
 ·subst hv;exact c0
 ·subst hv;exact c1
 ·subst hv;exact c2
 ·subst hv;exact c3⟩
theorem zJy.rdS{w0 w:World}{s:SV}{l:List Val}(h:zJy w0 w s l)(hb:l.length<=1000000)(mv:V64 l):zXF w s l:=⟨h.len,h.1.le_cap.1,by have:=h.len;omega,λi f hf=>by
 obtain⟨a,h1,_,c0⟩:=h.1.elem zXP hf (o:=0) rfl
 obtain⟨a1,md,_,c1⟩:=h.1.elem zXP hf (o:=1) rfl
 obtain⟨a2,h1'',_,c2⟩:=h.1.elem zXP hf (o:=2) rfl
 rw[h1]at md h1'';cases md;cases h1''
 refine⟨a,h1,zVO f,⟨rfl,mv f (List.mem_of_getElem? hf)⟩,λj v hv=>?_⟩
 rcases j with _|_|_|j <;> simp[zVO]at hv
 ·subst hv;exact c0
 ·subst hv;exact c1
 ·subst hv;exact c2⟩
def yJh(x:Bool × SV):List Value:=[.bool x.1,.slice x.2.a x.2.len x.2.cap]
theorem zQN(x:Bool × SV):(yJh x).length=2:=rfl
theorem zQq{w:World}{e e':TypeId}{sz sz':Nat}{s s':SV}{vs vs':List Value}(h:zQj w e sz s vs)(h':zQj w e' sz' s' vs')(hne:e ≠ e'):∀k ∈ zQb s,¬k ∈ zQb s':=λk hk hk'=>by
 obtain⟨_,rfl|⟨g,cur,h3,h4,_⟩⟩:=h
 ·simp[zQb]at hk
 obtain⟨_,rfl|⟨g',cur',h3',zh,_⟩⟩:=h'
 ·simp[zQb]at hk'
 simp[zQb,h3]at hk
 simp[zQb,h3']at hk'
 subst hk;subst hk'
 rw[h4]at zh
 simp only[Option.some.injEq,Obj.cells.injEq]at zh
 exact hne zh.2.1
def zJU(w0 w:World)(s:SV)(rs:List Rec):Prop:=∃qs:List (Bool × SV),zQj w 67 2 s (qs.flatMap yJh)/\(∀b ∈ zQb s,w0.heap.size<=b)/\qs.length=rs.length/\∀(i:Nat) (r:Rec) (x:Bool × SV),rs[i]?=some r->qs[i]?=some x->x.1=r.gone/\zJy w0 w x.2 r.v
theorem zJU.len{w0 w:World}{s:SV}{rs:List Rec}(h:zJU w0 w s rs):s.len=rs.length:=by
 obtain⟨qs,h1,_,h3,_⟩:=h
 rw[h1.len zQN (by decide),h3]
theorem zJU.own{w0 w:World}{s:SV}{rs:List Rec}(h:zJU w0 w s rs):∀b ∈ zQb s,w0.heap.size<=b:=h.choose_spec.2.1
theorem zJU.pu{w0 w w':World}{s:SV}{rs:List Rec}(h:zJU w0 w s rs)(hp:Pu w w'):zJU w0 w' s rs:=by
 obtain⟨qs,h1,h2,h3,h4⟩:=h
 exact⟨qs,h1.pu hp,h2,h3,λi r x hr hx=>⟨(h4 i r x hr hx).1,(h4 i r x hr hx).2.pu hp⟩⟩
theorem zJU.one {w0 w w':World} {b:Nat} {s:SV} {rs:List Rec} (h:zJU w0 w s rs) (hf:Fr (·=b) w w') (hb:b<w0.heap.size):zJU w0 w' s rs:=by
 obtain⟨qs,h1,h2,h3,h4⟩:=h
 exact⟨qs,h1.fr hf λk hk e=>by have:=h2 k hk;omega,h2,h3,λi r x hr hx=>⟨(h4 i r x hr hx).1,(h4 i r x hr hx).2.fr hf λk hk e=>by have:=(h4 i r x hr hx).2.2 k hk;omega⟩⟩
theorem zJU.low{w0 w1 w:World}{s:SV}{rs:List Rec}(h:zJU w1 w s rs)(hz:w0.heap.size<=w1.heap.size):zJU w0 w s rs:=by
 obtain⟨qs,h1,h2,h3,h4⟩:=h
 exact⟨qs,h1,λb hb=>Nat.le_trans hz (h2 b hb),h3,λi r x hr hx=>⟨(h4 i r x hr hx).1,(h4 i r x hr hx).2.low hz⟩⟩
theorem zJU.nil(w0 w:World):zJU w0 w ⟨none,0,0⟩ []:=⟨[],zQj.nil w 67 2,by simp[zQb],rfl,λi r x hr=>by simp at hr⟩
theorem zJU.push {w0 w:World} {s q:SV} {rs:List Rec} {g:Bool} {vs:List Val} (h:zJU w0 w s rs) (hz:w0.heap.size<=w.heap.size) (hq:zJy w0 w q vs) {r:Nat} {c:Array Value} (hr:w.heap[r]?=some (.cells c 67)) (hc:c=#[.bool g,.slice q.a q.len q.cap]) (hb:rs.length<=1000000) :
  ∃(s':SV) (w':World),(Builtin.append_ #[33,33] 33 #[.slice s.a s.len s.cap,.slice (some ⟨r,0,none⟩) 1 1]).run prog w=.ok (.slice s'.a s'.len s'.cap) w'/\zJU w0 w' s' (rs ++ [⟨g,vs⟩])/\Fr (· ∈ zQb s) w w':=by
 subst hc
 have h1:=h.len
 obtain⟨qs,r1,r2,r3,r4⟩:=h
 obtain⟨s',w',hra,hrow,hf,hblk,_⟩:=zQ9 (P:=prog) (ty:=33) u33 info46 rfl (by decide) r1 (A:=some ⟨r,0,none⟩) (m:=1) (c:=1) (news:=yJh (g,q)) rfl (λj u hu=>⟨_,rfl,by rw[cl hr];simpa[yJh] using hu⟩) (λu hu=>by simp[yJh]at hu;rcases hu with rfl|rfl <;> rfl) (by omega)
 refine⟨s',w',hra,⟨qs ++ [(g,q)],by simpa using hrow,λb hb=>?_,by simp[r3],λi rr x iN hx=>?_⟩,hf⟩
 ·rcases hblk b hb with h2|h2
  ·exact r2 b h2
  ·omega
 ·rcases Nat.lt_trichotomy i rs.length with hi|hi|hi
  ·rw[List.getElem?_append_left hi]at iN
   rw[List.getElem?_append_left (by omega)]at hx
   obtain⟨e1,e2⟩:=r4 i rr x iN hx
   exact⟨e1,e2.fr hf (zQq e2.1 r1 (by decide))⟩
  ·subst hi
   rw[List.getElem?_append_right (Nat.le_refl _),Nat.sub_self]at iN
   rw[←r3,List.getElem?_append_right (Nat.le_refl _),Nat.sub_self]at hx
   simp at iN hx;subst iN hx
   exact⟨rfl,hq.fr hf (zQq hq.1 r1 (by decide))⟩
  ·rw[List.getElem?_eq_none (by simp;omega)]at iN;cases iN
def R64(rs:List Rec):Prop:=∀r ∈ rs,V64 r.v/\r.v.length<=1000000
theorem zJU.rd{w0 w:World}{s:SV}{rs:List Rec}(h:zJU w0 w s rs)(hb:rs.length<=1000000)(mv:R64 rs):zXF w s rs:=by
 have hl:=h.len
 obtain⟨qs,r1,r2,r3,r4⟩:=h
 refine⟨hl,r1.le_cap.1,by omega,λi r hr=>?_⟩
 obtain⟨x,hx⟩:=zQZ (l:=qs) (k:=i) (by have:=(List.getElem?_eq_some_iff.1 hr).1;omega)
 obtain⟨e1,e2⟩:=r4 i r x hr hx
 obtain⟨a,h1,_,c0⟩:=r1.elem zQN hx (o:=0) rfl
 obtain⟨a1,md,_,c1⟩:=r1.elem zQN hx (o:=1) rfl
 rw[h1]at md;cases md
 obtain⟨q1,q2⟩:=mv r (List.mem_of_getElem? hr)
 refine⟨a,h1,_,⟨x.2,rfl,e2.rdS q2 q1⟩,λj v hv=>?_⟩
 rcases j with _|_|j <;> simp at hv
 ·subst hv;rw[←e1];exact c0
 ·subst hv;exact c1
def zYq(l:List UInt8):List UInt8:=(l.reverse.dropWhile (· == 0)).reverse
theorem xKQ(s:ByteArray)(hs:s.size<=140737488355328)(w:World):Calls prog 119 #[.string s,.string ⟨#[0]⟩] w λe w'=>e=.returned (.string (bs (zYq s.data.toList)))/\Pu w w':=
 (Any.strings_TrimRight_one Tryz.lays162 s 0 (by decide) w (by omega)).mono λe w' ⟨h1,h2⟩=>⟨h1,h2 ▸ Pu.refl _⟩
theorem zK4(l:List UInt8)(hl:∀b ∈ l,b ≠ 0)(j:Nat):zYq (l ++ List.replicate j 0)=l:=by
 unfold zYq
 rw[List.reverse_append,List.reverse_replicate]
 have e1:∀(j:Nat) (x:List UInt8),(List.replicate j 0 ++ x).dropWhile (· == 0)=x.dropWhile (· == 0):=by
  intro j x
  induction j with
  | zero=>rfl
  | succ j ih=>rw[List.replicate_succ,List.cons_append,List.dropWhile_cons];simp only[beq_self_eq_true,if_true];exact ih
 rw[e1]
 have e2:l.reverse.dropWhile (· == 0)=l.reverse:=by
  cases h:l.reverse with
  | nil=>rfl
  | cons a r=>
   have ha:a ∈ l:=by rw[←List.mem_reverse,h];simp
   rw[List.dropWhile_cons,if_neg (by simpa using hl a ha)]
 rw[e2,List.reverse_reverse]
theorem xXl(l:List UInt8):(zYq l).length<=l.length:=by
 unfold zYq
 have h:=List.IsSuffix.length_le (List.dropWhile_suffix (· == (0:UInt8)) (l:=l.reverse))
 simpa using h
theorem zW2{f:Fld}(h:zQn f=true):∀b ∈ f.name.data.toList,b ≠ 0:=λb hb=>by
 unfold zQn zXV at h
 simp only[Bool.and_eq_true]at h
 have h1:=List.all_eq_true.1 h.1.1.2 b hb
 intro e;subst e;revert h1;decide
theorem zKJ{n:Int}(h:0<=n/\n<=255):(((zZj n).toNat:Nat):Int)=n:=by
 unfold zZj
 have:(UInt8.ofNat (n % 256).toNat).toNat=(n % 256).toNat:=by simp;omega
 rw[this];omega
theorem zKu{f:Fld}(hf:zQn f=true){d:List UInt8}(hd:zQE f=d):d.take 10=f.name.data.toList ++ List.replicate (10 - f.name.size) 0/\d[10]?=some (zWE f.kind)/\d[11]?=some (zZj f.width)/\d[12]?=some (yVJ f.null):=by
 obtain⟨_,nA,_⟩:=zQR hf
 have hl:(f.name.data.toList ++ List.replicate (10 - f.name.size) (0:UInt8)).length=10:=by rw[List.length_append,zQy,List.length_replicate];omega
 subst hd
 unfold zQE
 refine⟨?_,?_,?_,?_⟩
 ·rw[List.take_append_of_le_length (by omega),List.take_of_length_le (by omega)]
 ·rw[List.getElem?_append_right (by omega),hl];rfl
 ·rw[List.getElem?_append_right (by omega),hl];rfl
 ·rw[List.getElem?_append_right (by omega),hl];rfl
theorem yZl{k:Int}{K:K5}(h:zQU k=some K):(k,K) ∈ zXQ:=AL.get_mem h
theorem yQ1:∀p ∈ zXQ,∀q ∈ zXQ,p.2.letter=q.2.letter->p.1=q.1:=by decide
theorem xW8:∀p ∈ zXQ,zZZ p.1:=λp hp=>by
 have:∀p ∈ zXQ,0<=p.1/\p.1<=5:=by decide
 have:=this p hp
 exact⟨by omega,by omega⟩
def KindSo (b:UInt8) (kd:Int) (todo:List (Int × K5)):Prop:=(∀p ∈ zXQ,p.2.letter=((b.toNat:Nat):Int)->p ∈ todo∨kd=p.1)/\(kd=0∨∃p ∈ zXQ,p.2.letter=((b.toNat:Nat):Int)/\kd=p.1)
theorem yZA{w:World}{t:SV}{d:List UInt8}(ht:ByV w t d)(hd:d.length=16):Calls prog 160 #[.slice t.a t.len t.cap] w λe w'=>∃f':Fld,e=.returned (yQ9 f')/\zZZ f'.kind/\zZZ f'.width/\f'.name.size<=10/\Pu w w'/\∀f,zQn f=true->zQE f=d->f'=f:=by
 have htl:=ht.len
 have htc:=ht.cap
 obtain⟨dc,nA⟩:=zQZ (l:=d) (k:=10) (by omega)
 obtain⟨ml,h11⟩:=zQZ (l:=d) (k:=11) (by omega)
 obtain⟨cO,mH⟩:=zQZ (l:=d) (k:=12) (by omega)
 have gb:=dc.toNat_lt
 have cS:=ml.toNat_lt
 refine yJQ _ w _ (alB λw1 ax aE=>zQf λw2 ar _=>?_)
 have aM:=ax.trans ar
 obtain⟨eL,zi,zj⟩:=(ht.pu aM).get _ _ h11
 obtain⟨iR,zk,zl⟩:=(ht.pu aM).get _ _ mH
 have hsub:∀{wz},Pu w2 wz->(convert 22 9 (.slice (if t.cap=0 then t.a else t.a.map (λx=>x.add (0 * 1))) ((10:Int).toNat - 0) (t.cap - 0))).run prog wz=.ok (.string (bs (d.take 10))) wz:=λ{wz} hz=>by
  have h1:=(ht.pu (aM.trans hz)).sub (lo:=0) (hi:=10) (by omega) (by omega)
  rw[List.drop_zero]at h1
  exact yZq h1
 have hl10:(bs (d.take 10)).size=10:=by rw[zQ3,List.length_take];omega
 have trim:∀wz,Calls prog 119 #[.string (bs (d.take 10)),.string (⟨#[0]⟩:ByteArray)] wz λe w'=>e=.returned (.string (bs (zYq (d.take 10))))/\Pu wz w':=λwz=>by
  have:=xKQ (bs (d.take 10)) (by omega) wz
  rw[zQH]at this;exact this
 have hnm:(bs (zYq (d.take 10))).size<=10:=by
  have:=xXl (d.take 10)
  rw[List.length_take]at this
  rw[zQ3];omega
 have r2lt:w.heap.size<w1.heap.size:=zQz aE
 have z2:=ar.size
 -- behind the variable's first values
 have main:∀{wz:World} {r3:Nat},Pu w2 wz->w2.heap.size<=r3->wz.heap[r3]?=some (.cells #[.string (bs (zYq (d.take 10))),.int .i64 0,.int .i64 (IntKind.i64.wrap ((ml.toNat:Nat):Int)),.bool (((cO.toNat:Nat):Int) == 1)] 129)->
   Calls prog 145 #[] wz λe dM=>∃m4:Option Nat,e=.returned (.map m4)/\∃kw:Option Addr,∃dP:World,(Instr.range 176 (.map m4)).run prog dM=.ok (.pointer kw) dP/\
    yXp (λe w'=>∃f':Fld,e=.returned (yQ9 f')/\zZZ f'.kind/\zZZ f'.width/\f'.name.size<=10/\Pu w w'/\∀f,zQn f=true->zQE f=d->f'=f) t (some (⟨w.heap.size,0,none⟩:Addr)) (some (⟨r3,0,none⟩:Addr)) kw [] dP:=λ{wz r3} hz hr3 bo=>by
  rw[zQa (n:=((ml.toNat:Nat):Int)) (by omega) (by omega)]at bo
  refine(zW1 wz).mono ?_
  rintro e w3 ⟨m,rfl,hm,hml,aA⟩
  obtain⟨w4,e4,zm,aJ,sK⟩:=hm.range (t:=176) xWd
  refine⟨some m,rfl,_,w4,e4,?_⟩
  have b3:=(aA.trans aJ).blk bo
  have l3:r3<wz.heap.size:=zQz bo
  have z3:=aA.size
  have zz:=hz.size
  have p4:Pu w2 w4:=(hz.trans aA).trans aJ
  refine xX3 (σ:=Unit) zXQ.length (λn _ w'=>∃(todo:List (Int × K5)) (kd:Int),todo.length=n/\(∀p ∈ todo,p ∈ zXQ)/\zXA w' xQq zV0 w3.heap.size m zXQ todo/\KindSo dc kd todo/\w4.heap.size<=w'.heap.size/\Pu w2 w'/\
   w'.heap[r3]?=some (.cells #[.string (bs (zYq (d.take 10))),.int .i64 kd,.int .i64 ((ml.toNat:Nat):Int),.bool (((cO.toNat:Nat):Int) == 1)] 129)) ⟨zXQ,0,rfl,λp hp=>hp,zm,⟨λp hp _=>.inl hp,.inl rfl⟩,Nat.le_refl _,p4,b3⟩ ?_
  rintro n J _ w5 ⟨todo,kd,hn,hall,hit,⟨wk,aG⟩,hz5,aV,bi⟩ hJ
  rcases hit.next (P:=prog) 0 with⟨hnil,hr⟩|⟨p,hpm,w6,hr,gN,sM,zn,hen⟩
  ·refine .inl ⟨w5,hr,?_⟩
   subst hnil
   refine⟨_,cl bi 0,_,cl bi 1,_,cl bi 2,_,cl bi 3,zQh (aV.blk (ar.blk aE)) s23.symm rfl rfl λw6 gi gN sM=>⟨_,cl gi 0,_,cl gi 1,_,cl gi 2,_,cl gi 3,⟨bs (zYq (d.take 10)),kd,((ml.toNat:Nat):Int),((cO.toNat:Nat):Int) == 1⟩,rfl,?_,⟨by show _<=((ml.toNat:Nat):Int);omega,by show((ml.toNat:Nat):Int)<=_;omega⟩,hnm,(aM.trans aV).andNew gN λi hi=>by omega,λf hf hd2=>?_⟩⟩
   ·rcases aG with h|⟨p,hp,_,h⟩
    ·show zZZ kd;rw[h];exact⟨by decide,by decide⟩
    ·show zZZ kd;rw[h];exact xW8 p hp
   ·obtain⟨e1,e2,e3,wu⟩:=zKu hf hd2
    obtain⟨_,_,K,hK,hKl⟩:=zQR hf
    rw[nA]at e2;rw[h11]at e3;rw[mH]at wu
    have e2:=Option.some.inj e2
    have e3:=Option.some.inj e3
    have wu:=Option.some.inj wu
    have hwf:=zXh hf
    rcases wk (f.kind,K) (yZl hK) (by rw[e2];exact hKl)with h|h
    ·cases h
    obtain⟨fn,fk,fw,fnl⟩:=f
    simp only at *
    congr 1
    ·rw[e1,zK4 _ (zW2 hf),yZ0]
    ·rw[e3];exact zKJ (by omega)
    ·rw[wu];cases fnl <;> decide
  ·refine .inr ⟨_,_,w6,hr,_,_,w6,hen,?_⟩
   simp only[xWl,zV0,xWa,dHd_mk,xWt]
   have gi:=gN.blk bi (show ¬r3=w3.heap.size by omega)
   have bV:Pu w2 w6:=aV.andNew gN λi hi=>by omega
   refine zYt rfl s102.symm (xWp rfl rfl) λw7 cK hs7 nH=>zQf λw8 bM _=>?_
   have p8:=(bV.trans cK).trans bM
   obtain⟨eJ,oy,oz⟩:=(ht.pu (aM.trans p8)).get _ _ nA
   have b8:=(cK.trans bM).blk gi
   have vm:=zn.fr (Fr.pu (cK.trans bM):Fr (λ_=>False) w6 w8) (λh=>h) (λh=>h)
   have hlen:=AL.length_del hpm hit.nodup
   have hperm:=AL.perm_del hpm hit.nodup
   have rh:∀q ∈ AL.del todo p.1,q ∈ zXQ:=λq hq=>hall q (hperm.symm.subset (List.mem_cons_of_mem _ hq))
   have z6:=sM
   have z78:=(cK.trans bM).size
   refine⟨_,cl0 (bM.blk nH),eJ,oy,by omega,by omega,_,oz,Br.of (λq=>?_) (λq=>?_)⟩
   ·have hq:p.2.letter=((dc.toNat:Nat):Int):=zQC q
    show st1 ((⟨r3,0,none⟩:Addr).add 1) _ w8 _
    rw[zQr]
    refine zQw b8 (by simp) λw9 wo kH=>?_
    have mG:Fr (·=r3) w8 w9:=by rw[wo];exact Fr.cell w8 _ _ _
    have z9:w9.heap.size=w8.heap.size:=by rw[wo];simp
    refine hJ _ () w9 (by omega) ⟨AL.del todo p.1,p.1,rfl,rh,vm.fr mG (by omega) (by omega),⟨λq' hq' hl'=>.inr (yQ1 p (hall p hpm) q' hq' (by rw[hq,hl'])),.inr ⟨p,hall p hpm,hq,rfl⟩⟩,by omega,p8.andNew mG λi hi=>by omega,kH⟩
   ·have hq:p.2.letter ≠ ((dc.toNat:Nat):Int):=zQm q
    refine hJ _ () w8 (by omega) ⟨AL.del todo p.1,kd,rfl,rh,vm,⟨λq' hq' hl'=>?_,aG⟩,by omega,p8,b8⟩
    rcases wk q' hq' hl' with h|h
    ·rcases List.mem_cons.1 (hperm.subset h)with h|h
     ·subst h;exact absurd hl' hq
     ·exact .inl h
    ·exact .inr h
 refine⟨λu=>Pu w2 u,Pu.refl _,by omega,by omega,by omega,eL,zi,by omega,by omega,_,λu hu=>hu.cell zj,iR,zk,by omega,by omega,_,λu hu=>hu.cell zl,⟨bs (d.take 10),w2,hsub (Pu.refl _),Pu.refl _,(trim w2).mono ?_,alB λw3 aA bo=>⟨aA,(trim w3).mono ?_⟩⟩,alB λw3 aA bo=>⟨aA,bs (d.take 10),w3,hsub aA,aA,(trim w3).mono ?_⟩⟩
 ·rintro e w3 ⟨rfl,aA⟩
  exact⟨_,rfl,aA,alB λw4 aJ cA=>⟨aA.trans aJ,zQh cA s23.symm rfl rfl λw5 bi cr kG=>main ((aA.trans aJ).andNew cr λi hi=>by have:=aA.size;omega) (aA.size) bi⟩⟩
 ·rintro e w4 ⟨rfl,aJ⟩
  exact⟨_,rfl,aA.trans aJ,zQh (aJ.blk bo) s23.symm rfl rfl λw5 bi cr kG=>main ((aA.trans aJ).andNew cr λi hi=>by omega) (Nat.le_refl _) bi⟩
 ·rintro e w4 ⟨rfl,aJ⟩
  exact⟨_,rfl,aA.trans aJ,zQh (aJ.blk bo) s23.symm rfl rfl λw5 bi cr kG=>main ((aA.trans aJ).andNew cr λi hi=>by omega) (Nat.le_refl _) bi⟩
end Go.Proofs.YtaeecpjhfmcliaaGreatDoor
/- Table: parts of a table's bytes; a table that a call makes. No condition. -/
set_option maxHeartbeats 1000000
namespace Go.Proofs.YtaeecpjhfmcliaaGreatDoor
open Go.Sh Go.RowKit Tryz
theorem yJm{l:List Fld}(h:l.all zQn=true):(l.flatMap zQE).length=16 * l.length:=by
 induction l with
 | nil=>rfl
 | cons f l ih=>
  rw[List.flatMap_cons,List.length_append,zXW (zQR (List.all_eq_true.1 h f (by simp))).2.1,ih (List.all_eq_true.2 λg hg=>List.all_eq_true.1 h g (by simp[hg])),List.length_cons]
  omega
def zWB(u:Tbl):List UInt8:=[67,zZj u.page] ++ zWZ u.recs.length 4 ++ zWZ (13+16 * u.fields.length) 2 ++ zWZ (zX0 u.fields).toNat 2 ++ [zZj u.fields.length,0]
theorem zKN(u:Tbl):(zWB u).length=12:=by unfold zWB;simp[zXe]
theorem yXu(u:Tbl):zQ1 u=zWB u ++ (u.fields.flatMap zQE ++ ([13] ++ (u.recs.flatMap (zJm zQp u.fields) ++ [26]))):=by
 unfold zQ1 zZO zWB;simp only[List.append_assoc]
theorem zWo{u:Tbl}{d:List UInt8}(hd:zQ1 u=d):d[0]?=some 67/\d[1]?=some (zZj u.page)/\(d.drop 2).take 4=zWZ u.recs.length 4/\d[10]?=some (zZj u.fields.length):=by
 have hl:=zXe u.recs.length 4
 have h2:=zXe (13+16 * u.fields.length) 2
 have h3:=zXe (zX0 u.fields).toNat 2
 rw[←hd,yXu]
 refine⟨rfl,rfl,?_,?_⟩
 ·unfold zWB
  simp only[List.append_assoc,List.cons_append,List.nil_append,List.drop_succ_cons,List.drop_zero]
  rw[List.take_append_of_le_length (by omega),List.take_of_length_le (by omega)]
 ·rw[List.getElem?_append_left (by rw[zKN];omega)]
  unfold zWB
  rw[List.getElem?_append_right (by simp[zXe])]
  simp[zXe]
theorem zVx{u:Tbl}(ho:zJt u){d:List UInt8}(hd:zQ1 u=d):(d.length:Int)=13+16 * (u.fields.length:Int)+(u.recs.length:Int) * zX0 u.fields+1:=by
 have h1:=zVj ho u.recs.length (Nat.le_refl _)
 rw[List.take_length]at h1
 have h2:=zWn ho
 rw[←hd]
 unfold zQ1
 rw[List.length_append,List.length_append,List.length_singleton]
 omega
theorem zVw {u:Tbl} (ho:zJt u) {d:List UInt8} (hd:zQ1 u=d) {k:Nat} {f:Fld} (hf:u.fields[k]?=some f):(d.drop (12+16 * k)).take 16=zQE f:=by
 have hk:=(List.getElem?_eq_some_iff.1 hf).1
 have hall:(u.fields.take k).all zQn=true:=List.all_eq_true.2 λg hg=>List.all_eq_true.1 ho.all g (List.mem_of_mem_take hg)
 have h1:=yJm hall
 rw[List.length_take]at h1
 have gk:=zXW (zQR (List.all_eq_true.1 ho.all f (List.mem_of_getElem? hf))).2.1
 have e:u.fields.flatMap zQE=(u.fields.take k).flatMap zQE ++ (zQE f ++ (u.fields.drop (k+1)).flatMap zQE):=by
  rw[←List.flatMap_cons,←zXO hf,←List.flatMap_append,List.take_append_drop]
 have hl:(zWB u ++ (u.fields.take k).flatMap zQE).length=12+16 * k:=by rw[List.length_append,zKN,h1];omega
 rw[←hd,yXu,e,List.append_assoc,←List.append_assoc (zWB u),List.drop_append,List.drop_eq_nil_of_le (by omega),hl,Nat.sub_self,List.drop_zero,List.nil_append,List.append_assoc,List.take_append_of_le_length (by omega),List.take_of_length_le (by omega)]
theorem bytes_row {u:Tbl} (ho:zJt u) {d:List UInt8} (hd:zQ1 u=d) {k:Nat} {r:Rec} (hr:u.recs[k]?=some r):(d.drop (13+16 * u.fields.length+(zX0 u.fields).toNat * k)).take (zX0 u.fields).toNat=zJm zQp u.fields r:=by
 have hk:=(List.getElem?_eq_some_iff.1 hr).1
 have qY:0<=zX0 u.fields:=by have:=zZD (WOk.of ho.all);unfold zX0;omega
 have h1:=zVj ho k (by omega)
 have h2:=zWn ho
 have h3:=zKa ho.all (ho.recs r (List.mem_of_getElem? hr))
 have e:u.recs.flatMap (zJm zQp u.fields)=(u.recs.take k).flatMap (zJm zQp u.fields) ++ (zJm zQp u.fields r ++ (u.recs.drop (k+1)).flatMap (zJm zQp u.fields)):=by
  rw[←List.flatMap_cons,←zXO hr,←List.flatMap_append,List.take_append_drop]
 have hm:(((zX0 u.fields).toNat * k:Nat):Int)=(k:Int) * zX0 u.fields:=by
  rw[Int.natCast_mul,Int.toNat_of_nonneg qY,Int.mul_comm]
 have hl:(zZO u ++ (u.recs.take k).flatMap (zJm zQp u.fields)).length=13+16 * u.fields.length+(zX0 u.fields).toNat * k:=by rw[List.length_append,h2];omega
 rw[←hd]
 unfold zQ1
 rw[e,←List.append_assoc (zZO u),List.append_assoc,List.drop_append,List.drop_eq_nil_of_le (by omega),hl,Nat.sub_self,List.drop_zero,List.nil_append,List.append_assoc,List.take_append_of_le_length (by omega),List.take_of_length_le (by omega)]
structure zWe(w0 w:World)(t:Tbl)(f q:SV):Prop where
 fs:zWr w0 w f t.fields
 rs:zJU w0 w q t.recs
theorem zWe.pu{w0 w w':World}{t:Tbl}{f q:SV}(h:zWe w0 w t f q)(hp:Pu w w'):zWe w0 w' t f q:=⟨h.fs.pu hp,h.rs.pu hp⟩
theorem zWe.low{w0 w1 w:World}{t:Tbl}{f q:SV}(h:zWe w1 w t f q)(hz:w0.heap.size<=w1.heap.size):zWe w0 w t f q:=⟨h.fs.low hz,h.rs.low hz⟩
theorem zWe.one {w0 w w':World} {b:Nat} {t:Tbl} {f q:SV} (h:zWe w0 w t f q) (hf:Fr (·=b) w w') (hb:b<w0.heap.size):zWe w0 w' t f q:=⟨h.fs.fr hf λk hk e=>by have:=h.fs.2 k hk;omega,h.rs.one hf hb⟩
structure yQA(t:Tbl):Prop where
 page:zZZ t.page
 f64:F64 t.fields
 r64:R64 t.recs
 fl:t.fields.length<=255
 rl:t.recs.length<=300
 nm:∀f ∈ t.fields,f.name.size<=10
theorem zWe.rd{w0 w:World}{t:Tbl}{f q:SV}(h:zWe w0 w t f q)(hn:yQA t):zXD w t f q:=⟨hn.page,h.fs.rd (by have:=hn.fl;omega) hn.f64,h.rs.rd (by have:=hn.rl;omega) hn.r64⟩
theorem yQA.lim{t:Tbl}(hn:yQA t):Lim.ok t.fields:=λf hf=>by
 have:=hn.nm f hf
 show f.name.size<=140737488355328
 omega
theorem yQA.zero:yQA ⟨0,[],[]⟩:=⟨⟨by decide,by decide⟩,λf hf=>by simp at hf,λr hr=>by simp at hr,by simp,by simp,λf hf=>by simp at hf⟩
theorem s35:zXq prog 35=3:=by kernel_rfl
structure zKj(w0 wr:World)(r2 r4:Nat)(t:Tbl)(w:World):Prop where
 ex:∃f q:SV,w.heap[r4]?=some (.cells #[.int .i64 t.page,.slice f.a f.len f.cap,.slice q.a q.len q.cap] 35)/\zWe wr w t f q
 b2:w.heap[r2]?=some (.cells #[.int .i64 0,.slice none 0 0,.slice none 0 0] 35)
 sz:wr.heap.size<=w.heap.size
 pu:Pu w0 w
 l2:r2<wr.heap.size
 l4:r4<wr.heap.size
 ne:r2 ≠ r4
 z2:w0.heap.size<=r2
 z4:w0.heap.size<=r4
theorem zKj.on{w0 wr w w':World}{r2 r4:Nat}{t:Tbl}(h:zKj w0 wr r2 r4 t w)(hp:Pu w w'):zKj w0 wr r2 r4 t w':=by
 obtain⟨f,q,h1,h2⟩:=h.ex
 exact⟨⟨f,q,hp.blk h1,h2.pu hp⟩,hp.blk h.b2,Nat.le_trans h.sz hp.size,h.pu.trans hp,h.l2,h.l4,h.ne,h.z2,h.z4⟩
theorem zKj.putF {w0 wr w:World} {r2 r4 r:Nat} {t:Tbl} (h:zKj w0 wr r2 r4 t w) {f q:SV} (h4:w.heap[r4]?=some (.cells #[.int .i64 t.page,.slice f.a f.len f.cap,.slice q.a q.len q.cap] 35)) (ho:zWe wr w t f q) {x:Fld} (hr:w.heap[r]?=some (.cells #[.string x.name,.int .i64 x.kind,.int .i64 x.width,.bool x.null] 129)) (hb:t.fields.length<=1000000) :
  ∃(f':SV) (w1:World),(Builtin.append_ #[32,32] 32 #[.slice f.a f.len f.cap,.slice (some ⟨r,0,none⟩) 1 1]).run prog w=.ok (.slice f'.a f'.len f'.cap) w1/\
   ∀K:World->Prop,(∀w',zKj w0 wr r2 r4 ⟨t.page,t.fields ++ [x],t.recs⟩ w'->K w')->st1 ((⟨r4,0,none⟩:Addr).add 1) (.slice f'.a f'.len f'.cap) w1 K:=by
 obtain⟨f',w1,e1,r1,f1⟩:=ho.fs.push h.sz hr rfl hb
 have n4:¬r4 ∈ zQb f:=λhc=>by have:=ho.fs.2 _ hc;have:=h.l4;omega
 have n2:¬r2 ∈ zQb f:=λhc=>by have:=ho.fs.2 _ hc;have:=h.l2;omega
 refine⟨f',w1,e1,λK hK=>?_⟩
 rw[zQr,Nat.zero_add]
 refine zQw (f1.blk h4 n4) (by simp) λwx ex hbx=>hK wx ?_
 have fx:Fr (·=r4) w1 wx:=by rw[ex];exact Fr.cell w1 _ _ _
 have zx:wx.heap.size=w1.heap.size:=by rw[ex];simp
 have z1:=f1.size
 have hne:=h.ne
 have hsz:=h.sz
 have hz4:=h.z4
 have wt:=h.l4
 have rs1:zJU wr w1 q t.recs:=by
  obtain⟨qs,a1,a2,a3,a4⟩:=ho.rs
  exact⟨qs,a1.fr f1 (zQq a1 ho.fs.1 (by decide)),a2,a3,λi r' x' hr' hx'=>⟨(a4 i r' x' hr' hx').1,(a4 i r' x' hr' hx').2.fr f1 (zQq (a4 i r' x' hr' hx').2.1 ho.fs.1 (by decide))⟩⟩
 refine⟨⟨f',q,hbx,⟨r1.fr fx λi hi=>by have:=r1.2 i hi;omega,rs1.one fx wt⟩⟩,fx.blk (f1.blk h.b2 n2) (by omega),by omega,?_,h.l2,h.l4,h.ne,h.z2,h.z4⟩
 have p1:Pu w0 w1:=h.pu.andNew f1 λi hi=>by have:=ho.fs.2 i hi;omega
 exact p1.andNew fx λi hi=>by omega
theorem zKj.putR {w0 wr w:World} {r2 r4 r:Nat} {t:Tbl} (h:zKj w0 wr r2 r4 t w) {f q qv:SV} (h4:w.heap[r4]?=some (.cells #[.int .i64 t.page,.slice f.a f.len f.cap,.slice q.a q.len q.cap] 35)) (ho:zWe wr w t f q) {g:Bool} {vs:List Val} (hv:zJy wr w qv vs) (hr:w.heap[r]?=some (.cells #[.bool g,.slice qv.a qv.len qv.cap] 67)) (hb:t.recs.length<=1000000) :
  ∃(q':SV) (w1:World),(Builtin.append_ #[33,33] 33 #[.slice q.a q.len q.cap,.slice (some ⟨r,0,none⟩) 1 1]).run prog w=.ok (.slice q'.a q'.len q'.cap) w1/\
   ∀K:World->Prop,(∀w',zKj w0 wr r2 r4 ⟨t.page,t.fields,t.recs ++ [⟨g,vs⟩]⟩ w'->K w')->st1 ((⟨r4,0,none⟩:Addr).add 2) (.slice q'.a q'.len q'.cap) w1 K:=by
 obtain⟨q',w1,e1,r1,f1⟩:=ho.rs.push h.sz hv hr rfl hb
 have n4:¬r4 ∈ zQb q:=λhc=>by have:=ho.rs.own _ hc;have:=h.l4;omega
 have n2:¬r2 ∈ zQb q:=λhc=>by have:=ho.rs.own _ hc;have:=h.l2;omega
 refine⟨q',w1,e1,λK hK=>?_⟩
 rw[zQr,Nat.zero_add]
 refine zQw (f1.blk h4 n4) (by simp) λwx ex hbx=>hK wx ?_
 have fx:Fr (·=r4) w1 wx:=by rw[ex];exact Fr.cell w1 _ _ _
 have zx:wx.heap.size=w1.heap.size:=by rw[ex];simp
 have z1:=f1.size
 have hne:=h.ne
 have hsz:=h.sz
 have hz4:=h.z4
 have wt:=h.l4
 have own:=ho.rs.own
 have fs1:zWr wr w1 f t.fields:=by
  obtain⟨qs,a1,a2,a3,a4⟩:=ho.rs
  exact ho.fs.fr f1 (zQq ho.fs.1 a1 (by decide))
 refine⟨⟨f,q',hbx,⟨fs1.fr fx λi hi=>by have:=fs1.2 i hi;omega,r1.one fx wt⟩⟩,fx.blk (f1.blk h.b2 n2) (by omega),by omega,?_,h.l2,h.l4,h.ne,h.z2,h.z4⟩
 have p1:Pu w0 w1:=h.pu.andNew f1 λi hi=>by have:=own i hi;omega
 exact p1.andNew fx λi hi=>by omega
end Go.Proofs.YtaeecpjhfmcliaaGreatDoor
/- Table: the program's reading of a table's bytes. No condition. -/
set_option maxHeartbeats 2000000
namespace Go.Proofs.YtaeecpjhfmcliaaGreatDoor
open Go.Sh Go.RowKit Tryz
def retT(R:Rt)(r2 r4:Nat)(ok:Bool)(w:World):Prop:=
 zQg (some (⟨r4,0,none⟩:Addr)) λa1=>
 ∃eD:Int,w.cell? (a1.add 0)=some (.int .i64 eD)/\
 ∃bq:SV,w.cell? (a1.add 1)=some (.slice bq.a bq.len bq.cap)/\
 ∃br:SV,w.cell? (a1.add 2)=some (.slice br.a br.len br.cap)/\
 zQg (some (⟨r2,0,none⟩:Addr)) λa2=>
 stA prog 35 a2 #[.int .i64 eD,.slice bq.a bq.len bq.cap,.slice br.a br.len br.cap] w λw3=>
 zQg (some (⟨r2,0,none⟩:Addr)) λa5=>
 ∃ag:Int,w3.cell? (a5.add 0)=some (.int .i64 ag)/\
 ∃ab:SV,w3.cell? (a5.add 1)=some (.slice ab.a ab.len ab.cap)/\
 ∃ae:SV,w3.cell? (a5.add 2)=some (.slice ae.a ae.len ae.cap)/\
 R (.returned (.tuple #[.agg #[.int .i64 ag,.slice ab.a ab.len ab.cap,.slice ae.a ae.len ae.cap],.bool ok])) w3
theorem retT_c {R:Rt} {w0 wr w:World} {r2 r4:Nat} {t:Tbl} (h:zKj w0 wr r2 r4 t w) (ok:Bool) (hR:∀f q w',zWe wr w' t f q->Pu w0 w'->R (.returned (.tuple #[zYj t f q,.bool ok])) w'):retT R r2 r4 ok w:=by
 obtain⟨f,q,h4,ho⟩:=h.ex
 have hz:=h.z2
 exact⟨_,cl h4 0,f,cl h4 1,q,cl h4 2,zQh h.b2 s35.symm rfl rfl λw5 bi cr kG=>⟨_,cl bi 0,f,cl bi 1,q,cl bi 2,hR f q w5 (ho.one cr h.l2) (h.pu.andNew cr λi hi=>by omega)⟩⟩
def yXG(d:List UInt8)(t:Tbl)(ok:Bool):Prop:=∀u,zQi u=0->zQ1 u=d->t=u/\ok=true
theorem yZ2{w:World}{s:SV}{d:List UInt8}(hb:ByV w s d)(hd:d.length<=1000000000):Calls prog 124 #[.slice s.a s.len s.cap] w λe w'=>∃(t:Tbl) (f q:SV) (ok:Bool),e=.returned (.tuple #[zYj t f q,.bool ok])/\zWe w w' t f q/\yQA t/\Pu w w'/\yXG d t ok:=by
 have hsl:=hb.len
 have hsc:=hb.cap
 refine yKG _ w _ (alB λw1 ax aE=>alB λw2 ar aN=>?_)
 have aM:=ax.trans ar
 have me:w.heap.size<w1.heap.size:=zQz aE
 have ws:w1.heap.size<w2.heap.size:=zQz aN
 have cO:=ar.blk aE
 have sL:zKj w w2 w.heap.size w1.heap.size ⟨0,[],[]⟩ w2:=⟨⟨⟨none,0,0⟩,⟨none,0,0⟩,aN,⟨zWr.nil w2 w2,zJU.nil w2 w2⟩⟩,cO,Nat.le_refl _,aM,by omega,ws,by omega,Nat.le_refl _,by omega⟩
 have ret:∀{t:Tbl} {w':World} (ok:Bool),zKj w w2 w.heap.size w1.heap.size t w'->yQA t->yXG d t ok->retT (λe w'=>∃(t:Tbl) (f q:SV) (ok:Bool),e=.returned (.tuple #[zYj t f q,.bool ok])/\zWe w w' t f q/\yQA t/\Pu w w'/\yXG d t ok) w.heap.size w1.heap.size ok w':=λ{t w'} ok st hn hc=>
  retT_c st ok λf q w'' ho hp=>⟨t,f,q,ok,rfl,ho.low aM.size,hn,hp,hc⟩
 have no:∀{t:Tbl} {ok:Bool},(∀u,zQi u=0->zQ1 u=d->False)->yXG d t ok:=λh u hv hu=>(h u hv hu).elim
 have hlong:∀u,zQi u=0->zQ1 u=d->14<=d.length:=λu hv hu=>by
  have ho:=zJt.of hv
  have h1:=zVx ho hu
  have hf:0<u.fields.length:=List.length_pos_iff.2 ho.ne
  have qY:0<=zX0 u.fields:=by have:=zZD (WOk.of ho.all);unfold zX0;omega
  have h2:0<=(u.recs.length:Int) * zX0 u.fields:=Int.mul_nonneg (by omega) qY
  omega
 refine Br.of (λq=>ret false sL yQA.zero (no λu hv hu=>by have:=hlong u hv hu;have:=zQk q;omega)) (λq=>?_)
 have h14:14<=d.length:=by have:=zQd q;omega
 clear q
 obtain⟨b0,e0⟩:=zQZ (l:=d) (k:=0) (by omega)
 obtain⟨b1,e1⟩:=zQZ (l:=d) (k:=1) (by omega)
 obtain⟨dc,wq⟩:=zQZ (l:=d) (k:=10) (by omega)
 have kK:=hb.pu aM
 obtain⟨a0,zg,vk⟩:=kK.get _ _ e0
 obtain⟨a1,zo,hc1⟩:=kK.get _ _ e1
 refine⟨a0,zg,by omega,by omega,_,vk,Br.of (λq=>ret false sL yQA.zero (no λu hv hu=>?_)) (λq=>⟨a1,zo,by omega,by omega,_,hc1,?_⟩)⟩
 ·have h1:=(zWo hu).1
  rw[e0]at h1
  have h1:=Option.some.inj h1
  rw[h1]at q;exact zQ5 q rfl
 have n1:=b1.toNat_lt
 have gb:=dc.toNat_lt
 rw[zQa (n:=((b1.toNat:Nat):Int)) (by omega) (by omega)]
 refine zQw aN (by decide) λw3 oq bo=>zQf λw4 aJ _=>?_
 have fr3:Fr (·=w1.heap.size) w2 w3:=by rw[oq];exact Fr.cell w2 _ _ _
 have z3:w3.heap.size=w2.heap.size:=by rw[oq];simp
 have st4:zKj w w2 w.heap.size w1.heap.size ⟨((b1.toNat:Nat):Int),[],[]⟩ w4:=(⟨⟨⟨none,0,0⟩,⟨none,0,0⟩,bo,⟨zWr.nil w2 w3,zJU.nil w2 w3⟩⟩,fr3.blk cO (by omega),by omega,aM.andNew fr3 λi hi=>by omega,by omega,ws,by omega,Nat.le_refl _,by omega⟩:zKj w w2 w.heap.size w1.heap.size ⟨((b1.toNat:Nat):Int),[],[]⟩ w3).on aJ
 obtain⟨eJ,oy,oz⟩:=(hb.pu st4.pu).get _ _ wq
 refine⟨λu=>Pu w4 u,Pu.refl _,eJ,oy,by omega,by omega,_,λu hu=>hu.cell oz,eJ,oy,by omega,by omega,_,λu hu=>hu.cell oz,?_⟩
 rw[zQa (n:=((dc.toNat:Nat):Int)) (by omega) (by omega)]
 refine(yQL dc.toNat (by omega) w4).mono ?_
 rintro e w5 ⟨rfl,aV⟩
 have rV:=st4.on aV
 have pg:zZZ ((b1.toNat:Nat):Int):=⟨by omega,by omega⟩
 have vo:yQA ⟨((b1.toNat:Nat):Int),[],[]⟩:=⟨pg,λf hf=>by simp at hf,λr hr=>by simp at hr,by simp,by simp,λf hf=>by simp at hf⟩
 -- what a right table's bytes tell
 have pgu:∀u,zQi u=0->zQ1 u=d->u.page=((b1.toNat:Nat):Int)/\u.fields.length=dc.toNat:=λu hv hu=>by
  have ho:=zJt.of hv
  obtain⟨_,h1,_,h2⟩:=zWo hu
  rw[e1]at h1;rw[wq]at h2
  have h1:=Option.some.inj h1
  have h2:=Option.some.inj h2
  have hpg:=ho.page
  unfold zQT at hpg
  simp only[Bool.and_eq_true,decide_eq_true_eq]at hpg
  have gk:=ho.n16
  have e1:=zKJ (n:=u.page) (by omega)
  have e2:=zKJ (n:=((u.fields.length:Nat):Int)) (by omega)
  rw[h1,h2];omega
 refine⟨_,rfl,aV,Br.of (λq=>ret false rV vo (no λu hv hu=>?_)) (λq=>?_)⟩
 ·have h1:=zVx (zJt.of hv) hu
  have h2:=(pgu u hv hu).2
  have qY:0<=zX0 u.fields:=by have:=zZD (WOk.of (zJt.of hv).all);unfold zX0;omega
  have h3:0<=(u.recs.length:Int) * zX0 u.fields:=Int.mul_nonneg (by omega) qY
  have:=zQk q
  omega
 have hbeg:13+16 * dc.toNat<=d.length:=by have:=zQd q;omega
 clear q
 refine zQ0 dc.toNat (λk t w'=>t=(k:Int)/\∃fs:List Fld,fs.length=k/\F64 fs/\(∀f ∈ fs,f.name.size<=10)/\zKj w w2 w.heap.size w1.heap.size ⟨((b1.toNat:Nat):Int),fs,[]⟩ w'/\∀u,zQi u=0->zQ1 u=d->fs=u.fields.take k) ⟨rfl,[],rfl,λf hf=>by simp at hf,λf hf=>by simp at hf,rV,λu _ _=>by simp⟩ ?_
 rintro k J t w6 hk ⟨ht,fs,hfl,rW,hfn,st,hcond⟩ hJ
 obtain rfl:t=(k:Int):=ht
 refine Br.of (λq=>zQf λw7 cK _=>?_) (λq=>?_)
 ·have aG:k<dc.toNat:=by have:=zQk q;omega
  have sN:=st.on cK
  obtain⟨f,qr,h4,ho⟩:=sN.ex
  obtain⟨lj,e58,h58⟩:=(hb.pu sN.pu).part3 (lo:=12+16 * k) (hi:=28+16 * k) (by omega) (by omega)
  rw[show 28+16 * k - (12+16 * k)=16 by omega]at h58
  refine⟨λu=>Pu w7 u,Pu.refl _,f,λu hu=>cl (hu.blk h4) 1,?_⟩
  rw[zQa (n:=16 * (k:Int)) (by omega) (by omega),zQa (n:=12+16 * (k:Int)) (by omega) (by omega),zQa (n:=28+16 * (k:Int)) (by omega) (by omega),show 12+16 * (k:Int)=((12+16 * k:Nat):Int)by omega,show 28+16 * (k:Int)=((28+16 * k:Nat):Int)by omega]
  refine⟨lj,w7,e58,Pu.refl _,(yZA h58 (by rw[List.length_take,List.length_drop];omega)).mono ?_⟩
  rintro e w8 ⟨x,rfl,x1,x2,x3,bM,hx⟩
  refine⟨_,_,_,_,rfl,bM,alB λw9 eH kH=>⟨bM.trans eH,?_⟩⟩
  have st9:=(sN.on bM).on eH
  obtain⟨f',aU,zp,hK⟩:=st9.putF ((bM.trans eH).blk h4) (ho.pu (bM.trans eH)) kH (by show fs.length<=_;omega)
  refine⟨f',aU,zp,hK _ λaT oA=>?_⟩
  rw[zQa (by omega) (by omega)]
  refine hJ _ _ aG ⟨by omega,fs ++ [x],by simp[hfl],λy hy=>?_,λy hy=>?_,oA,λu hv hu=>?_⟩
  ·rcases List.mem_append.1 hy with hy|hy
   ·exact rW y hy
   ·simp at hy;subst hy;exact⟨x1,x2⟩
  ·rcases List.mem_append.1 hy with hy|hy
   ·exact hfn y hy
   ·simp at hy;subst hy;exact x3
  ·obtain⟨g,hg⟩:=zQZ (l:=u.fields) (k:=k) (by have:=(pgu u hv hu).2;omega)
   rw[zQ8 hg,←hcond u hv hu]
   have rf:=zJt.of hv
   rw[hx g (List.all_eq_true.1 rf.all g (List.mem_of_getElem? hg)) (zVw rf hu hg).symm]
 have aG:k=dc.toNat:=by have:=zQd q;omega
 subst aG
 clear hJ J q
 have hfs:∀u,zQi u=0->zQ1 u=d->fs=u.fields:=λu hv hu=>by
  rw[hcond u hv hu,List.take_of_length_le (by have:=(pgu u hv hu).2;omega)]
 have jG:yQA ⟨((b1.toNat:Nat):Int),fs,[]⟩:=⟨pg,rW,λr hr=>by simp at hr,by show fs.length<=_;omega,by simp,hfn⟩
 obtain⟨f,qr,h4,ho⟩:=st.ex
 refine⟨f,cl h4 1,(zZs (ho.rd jG).fields jG.lim).mono ?_⟩
 rintro e w7 ⟨rfl,cK⟩
 have sN:=st.on cK
 refine⟨_,rfl,Br.of (λq=>ret false sN jG (no λu hv hu=>?_)) (λq=>zQf λw8 bM _=>?_)⟩
 ·have:=(zJt.of hv).vf
  rw[←hfs u hv hu]at this
  exact zQ5 q this
 have hvf:zQG fs=0:=zQs q
 clear q
 obtain⟨_,hall,_,gk,mr⟩:=zXf hvf
 have hwok:=WOk.of hall
 have hwide:1<=zX0 fs:=by have:=zZD hwok;unfold zX0;omega
 have st8:=sN.on bM
 have wA:=(cK.trans bM).blk h4
 have vp:=ho.pu (cK.trans bM)
 refine⟨f,cl wA 1,by omega,by show 6<=_;omega,by omega,by decide,(zVo (vp.rd jG).fields hwok).mono ?_⟩
 rintro e w9 ⟨rfl,eH⟩
 have hnum:=(hb.pu (st8.pu.trans eH)).sub (lo:=2) (hi:=6) (by omega) (by omega)
 have vq:((d.drop 2).take (6 - 2)).length=4:=by rw[List.length_take,List.length_drop];omega
 refine⟨_,rfl,(xXf hnum vq).mono ?_⟩
 rintro e aU ⟨rfl,iq⟩
 have rX:=(st8.on eH).on iq
 obtain⟨cnt,hcnt⟩:∃cnt,cnt=xQc ((d.drop 2).take (6 - 2)):=⟨_,rfl⟩
 rw[←hcnt]
 have hrl:∀u,zQi u=0->zQ1 u=d->u.recs.length=cnt:=λu hv hu=>by
  have h1:=(zWo hu).2.2.1
  have h2:=(zJt.of hv).m300
  rw[hcnt,show 6 - 2=4 from rfl,h1,xQT (by omega)]
 refine⟨_,rfl,Br.of (λq=>ret false rX jG (no λu hv hu=>by have:=hrl u hv hu;have:=(zJt.of hv).m300;have:=zQk q;omega)) (λq=>?_)⟩
 have vr:cnt<=300:=by have:=zQd q;omega
 clear q
 obtain⟨W,hW⟩:∃W:Nat,zX0 fs=(W:Int):=⟨(zX0 fs).toNat,by omega⟩
 have hWl:W<=2000:=by omega
 have hWc:W * cnt<=600000:=Nat.mul_le_mul hWl vr
 have eWc:(W:Int) * (cnt:Int)=((W * cnt:Nat):Int):=by omega
 rw[hW,eWc,zQa (n:=((W * cnt:Nat):Int)) (by omega) (by omega),zQa (n:=((13+16 * dc.toNat:Nat):Int)+((W * cnt:Nat):Int)) (by omega) (by omega),zQa (n:=((13+16 * dc.toNat:Nat):Int)+((W * cnt:Nat):Int)+1) (by omega) (by omega)]
 refine Br.of (λq=>ret false rX jG (no λu hv hu=>?_)) (λq=>?_)
 ·have h1:=zVx (zJt.of hv) hu
  have h2:=(pgu u hv hu).2
  rw[←hfs u hv hu,hW,hrl u hv hu]at h1
  rw[←hfs u hv hu]at h2
  have h3:(cnt:Int) * (W:Int)=((W * cnt:Nat):Int):=by rw[Int.mul_comm];exact eWc
  have:=zQ5 q
  omega
 have hdl:d.length=13+16 * dc.toNat+W * cnt+1:=by have:=zQs q;omega
 clear q
 refine zQ0 cnt (λk t w'=>t=(k:Int)/\∃rs:List Rec,rs.length=k/\R64 rs/\zKj w w2 w.heap.size w1.heap.size ⟨((b1.toNat:Nat):Int),fs,rs⟩ w'/\∀u,zQi u=0->zQ1 u=d->rs=u.recs.take k) ⟨rfl,[],rfl,λr hr=>by simp at hr,rX,λu _ _=>by simp⟩ ?_
 rintro k J t aT hk ⟨ht,rs,hrn,vt,oA,hrc⟩ hJ
 obtain rfl:t=(k:Int):=ht
 have mf:yQA ⟨((b1.toNat:Nat):Int),fs,rs⟩:=⟨pg,rW,vt,by show fs.length<=_;omega,by show rs.length<=_;omega,hfn⟩
 refine Br.of (λq=>zQf λaX cT _=>?_) (λq=>?_)
 ·have aG:k<cnt:=by have:=zQk q;omega
  have oB:=oA.on cT
  obtain⟨f,qr,h4,ho⟩:=oB.ex
  have hWk:W * k+W<=W * cnt:=by rw[←Nat.mul_succ];exact Nat.mul_le_mul_left W aG
  have eWk:(W:Int) * (k:Int)=((W * k:Nat):Int):=by omega
  have eWk1:(W:Int) * ((k:Int)+1)=((W * k+W:Nat):Int):=by rw[Int.mul_add,eWk];omega
  refine⟨λu=>Pu aX u,Pu.refl _,f,λu hu=>cl (hu.blk h4) 1,?_⟩
  rw[zQa (n:=(k:Int)+1) (by omega) (by omega),eWk,eWk1,zQa (n:=((W * k:Nat):Int)) (by omega) (by omega),zQa (n:=((W * k+W:Nat):Int)) (by omega) (by omega),zQa (n:=((13+16 * dc.toNat:Nat):Int)+((W * k:Nat):Int)) (by omega) (by omega),zQa (n:=((13+16 * dc.toNat:Nat):Int)+((W * k+W:Nat):Int)) (by omega) (by omega)]
  have elo:(((13+16 * dc.toNat:Nat):Int)+((W * k:Nat):Int)).toNat=13+16 * dc.toNat+W * k:=by omega
  have ehi:(((13+16 * dc.toNat:Nat):Int)+((W * k+W:Nat):Int)).toNat=13+16 * dc.toNat+W * k+W:=by omega
  rw[elo,ehi]
  have hpart:∀{wz},Pu aX wz->ByV wz ⟨if s.cap=13+16 * dc.toNat+W * k then s.a else s.a.map (λx=>x.add ((13+16 * dc.toNat+W * k) * 1)),13+16 * dc.toNat+W * k+W - (13+16 * dc.toNat+W * k),s.cap - (13+16 * dc.toNat+W * k)⟩ ((d.drop (13+16 * dc.toNat+W * k)).take W):=λ{wz} hz=>by
   have:=(hb.pu (oB.pu.trans hz)).sub (lo:=13+16 * dc.toNat+W * k) (hi:=13+16 * dc.toNat+W * k+W) (by omega) (by omega)
   rw[show(d.drop (13+16 * dc.toNat+W * k)).take (13+16 * dc.toNat+W * k+W - (13+16 * dc.toNat+W * k))=(d.drop (13+16 * dc.toNat+W * k)).take W by rw[Nat.add_sub_cancel_left]]at this
   exact this
  have hplen:(((d.drop (13+16 * dc.toNat+W * k)).take W).length:Int)=zX0 fs:=by rw[List.length_take,List.length_drop,hW];omega
  have hrowu:∀u,zQi u=0->zQ1 u=d->∀r,u.recs[k]?=some r->zXs fs u.page r.v/\zJm zQp fs r=(d.drop (13+16 * dc.toNat+W * k)).take W:=λu hv hu r hr=>by
   have rf:=zJt.of hv
   have h1:=bytes_row rf hu hr
   have h2:=(pgu u hv hu).2
   have h3:=hfs u hv hu
   rw[h2,←h3,hW,zZc]at h1
   exact⟨by rw[h3];exact rf.recs r (List.mem_of_getElem? hr),h1.symm⟩
  -- behind the row
  have tail:∀{wz:World} {bU:Nat} {g ok:Bool} {vs:List Val} {qv:SV},Pu aX wz->zJy aX wz qv vs->vs.length=fs.length->V64 vs->(∀(r:Rec) (p:Int),zXs fs p r.v->zJm zQp fs r=(d.drop (13+16 * dc.toNat+W * k)).take W->g=r.gone/\vs=r.v/\ok=true)->wz.heap[bU]?=some (.cells #[.bool g,.slice qv.a qv.len qv.cap] 67)->
    Br (!ok) (retT (λe w'=>∃(t:Tbl) (f q:SV) (ok:Bool),e=.returned (.tuple #[zYj t f q,.bool ok])/\zWe w w' t f q/\yQA t/\Pu w w'/\yXG d t ok) w.heap.size w1.heap.size false wz) (
     zQg (some (⟨w1.heap.size,0,none⟩:Addr)) λjX=>∃du:SV,wz.cell? (jX.add 2)=some (.slice du.a du.len du.cap)/\
     ∃eF:Bool,wz.cell? ((⟨bU,0,none⟩:Addr).add 0)=some (.bool eF)/\∃bu:SV,wz.cell? ((⟨bU,0,none⟩:Addr).add 1)=some (.slice bu.a bu.len bu.cap)/\
     alE (.cells #[.bool eF,.slice bu.a bu.len bu.cap] 67) wz λmY bD=>∃dv:SV,∃cH:World,(Builtin.append_ #[33,33] 33 #[.slice du.a du.len du.cap,.slice (some ⟨mY,0,none⟩) 1 1]).run prog bD=.ok (.slice dv.a dv.len dv.cap) cH/\
     zQg (some (⟨w1.heap.size,0,none⟩:Addr)) λkP=>st1 (kP.add 2) (.slice dv.a dv.len dv.cap) cH λcP=>J ((k:Int)+1) cP):=λ{wz bU g ok vs qv} hz hv hvl ow hcv fV=>by
   have stz:=oB.on hz
   refine Br.of (λq1=>ret false stz mf (no λu hv hu=>?_)) (λq1=>?_)
   ·obtain⟨r,hr⟩:=zQZ (l:=u.recs) (k:=k) (by have:=hrl u hv hu;omega)
    obtain⟨h1,h2⟩:=hrowu u hv hu r hr
    rw[(hcv r u.page h1 h2).2.2]at q1;cases q1
   ·refine⟨qr,cl (hz.blk h4) 2,g,cl fV 0,qv,cl fV 1,alB λaK bg kL=>?_⟩
    obtain⟨q',bH,e14,hK⟩:=(stz.on bg).putR ((hz.trans bg).blk h4) (ho.pu (hz.trans bg)) ((hv.pu bg).low oB.sz) kL (by show rs.length<=_;omega)
    refine⟨q',bH,e14,hK _ λbC zq=>hJ _ _ aG ⟨by omega,rs ++ [⟨g,vs⟩],by simp[hrn],λy hy=>?_,zq,λu hv hu=>?_⟩⟩
    ·rcases List.mem_append.1 hy with hy|hy
     ·exact vt y hy
     ·simp at hy;subst hy;exact⟨ow,by show vs.length<=_;omega⟩
    ·obtain⟨r,hr⟩:=zQZ (l:=u.recs) (k:=k) (by have:=hrl u hv hu;omega)
     obtain⟨h1,h2⟩:=hrowu u hv hu r hr
     obtain⟨c1,c2,_⟩:=hcv r u.page h1 h2
     rw[zQ8 hr,←hrc u hv hu,c1,c2]
  refine⟨by omega,by omega,by omega,by omega,(yXq (ho.rd mf).fields hall gk (hpart (Pu.refl _)) hplen).mono ?_,alB λaK bg kL=>⟨bg,(yXq ((ho.pu bg).rd mf).fields hall gk (hpart bg) hplen).mono ?_⟩⟩
  ·rintro e aK ⟨g,ok,vs,qv,rfl,v1,v2,v3,bg,v4⟩
   exact⟨g,qv,ok,rfl,zYt rfl s46.symm rfl λbH kM hs14 gl=>tail (bg.trans kM) (v1.pu kM) v2 v3 v4 gl⟩
  ·rintro e bH ⟨g,ok,vs,qv,rfl,v1,v2,v3,kM,v4⟩
   have lt13:aX.heap.size<aK.heap.size:=zQz kL
   refine⟨g,qv,ok,rfl,zQh (kM.blk kL) s46.symm rfl rfl λbC zr vu hs15=>tail ((bg.trans kM).andNew vu λi hi=>by omega) ((v1.fr vu λi hi e=>by have:=v1.2 i hi;omega).low bg.size) v2 v3 v4 zr⟩
 ·have aG:k=cnt:=by have:=zQd q;omega
  subst aG
  refine ret true oA mf λu hv hu=>⟨?_,rfl⟩
  have h1:=hrc u hv hu
  rw[List.take_of_length_le (by have:=hrl u hv hu;omega)]at h1
  rw[h1,hfs u hv hu,←(pgu u hv hu).1]
end Go.Proofs.YtaeecpjhfmcliaaGreatDoor
/- Table: both packages' reading of a table's bytes. No condition. -/
set_option maxHeartbeats 2000000
namespace Go.Proofs.YtaeecpjhfmcliaaGreatDoor
open Go.Sh Go.RowKit Tryz
def zVY(d:List UInt8)(t:Tbl)(c:Int):Prop:=(c=0/\zQi t=0/\zQ1 t=d/\∀u,zQi u=0->zQ1 u=d->t=u)∨(c=11/\t=⟨0,[],[]⟩/\∀u,zQi u=0->zQ1 u ≠ d)
def xW0(w:World)(d:List UInt8):Rt:=λe w'=>∃(t:Tbl) (f q:SV) (c:Int),e=.returned (.tuple #[zYj t f q,.int .i64 c])/\zWe w w' t f q/\yQA t/\Pu w w'/\zVY d t c
def zeroT(R:Rt)(r2:Nat)(w:World):Prop:=
 stA prog 35 (⟨r2,0,none⟩:Addr) #[.int .i64 0,.slice none 0 0,.slice none 0 0] w λw5=>
 ∃ag:Int,w5.cell? ((⟨r2,0,none⟩:Addr).add 0)=some (.int .i64 ag)/\
 ∃ab:SV,w5.cell? ((⟨r2,0,none⟩:Addr).add 1)=some (.slice ab.a ab.len ab.cap)/\
 ∃ae:SV,w5.cell? ((⟨r2,0,none⟩:Addr).add 2)=some (.slice ae.a ae.len ae.cap)/\
 R (.returned (.tuple #[.agg #[.int .i64 ag,.slice ab.a ab.len ab.cap,.slice ae.a ae.len ae.cap],.int .i64 11])) w5
theorem yXZ {w0 w:World} {d:List UInt8} {r2:Nat} (hb:w.heap[r2]?=some (.cells #[.int .i64 0,.slice none 0 0,.slice none 0 0] 35)) (hp:Pu w0 w) (hr:w0.heap.size<=r2) (hno:∀u,zQi u=0->zQ1 u ≠ d):zeroT (xW0 w0 d) r2 w:=
 zQh hb s35.symm rfl rfl λw5 bi cr kG=>⟨_,cl bi 0,⟨none,0,0⟩,cl bi 1,⟨none,0,0⟩,cl bi 2,⟨0,[],[]⟩,⟨none,0,0⟩,⟨none,0,0⟩,11,rfl,⟨zWr.nil w0 w5,zJU.nil w0 w5⟩,yQA.zero,hp.andNew cr λi hi=>by omega,.inr ⟨rfl,rfl,hno⟩⟩
def copyT(R:Rt)(r2 r4:Nat)(w:World):Prop:=
 ∃eD:Int,w.cell? ((⟨r4,0,none⟩:Addr).add 0)=some (.int .i64 eD)/\
 ∃bq:SV,w.cell? ((⟨r4,0,none⟩:Addr).add 1)=some (.slice bq.a bq.len bq.cap)/\
 ∃br:SV,w.cell? ((⟨r4,0,none⟩:Addr).add 2)=some (.slice br.a br.len br.cap)/\
 stA prog 35 (⟨r2,0,none⟩:Addr) #[.int .i64 eD,.slice bq.a bq.len bq.cap,.slice br.a br.len br.cap] w λw3=>
 ∃ag:Int,w3.cell? ((⟨r2,0,none⟩:Addr).add 0)=some (.int .i64 ag)/\
 ∃ab:SV,w3.cell? ((⟨r2,0,none⟩:Addr).add 1)=some (.slice ab.a ab.len ab.cap)/\
 ∃ae:SV,w3.cell? ((⟨r2,0,none⟩:Addr).add 2)=some (.slice ae.a ae.len ae.cap)/\
 R (.returned (.tuple #[.agg #[.int .i64 ag,.slice ab.a ab.len ab.cap,.slice ae.a ae.len ae.cap],.int .i64 0])) w3
theorem xW1 {w0 wr w:World} {d:List UInt8} {r2 r4:Nat} {t:Tbl} {f q:SV} (aN:w.heap[r2]?=some (.cells #[.int .i64 0,.slice none 0 0,.slice none 0 0] 35)) (h4:w.heap[r4]?=some (.cells #[.int .i64 t.page,.slice f.a f.len f.cap,.slice q.a q.len q.cap] 35)) (ho:zWe wr w t f q) (hn:yQA t) (hp:Pu w0 w) (hr:w0.heap.size<=r2) (hl:r2<wr.heap.size) (hz:w0.heap.size<=wr.heap.size)
  (hout:zVY d t 0):copyT (xW0 w0 d) r2 r4 w:=
 ⟨_,cl h4 0,f,cl h4 1,q,cl h4 2,zQh aN s35.symm rfl rfl λw5 bi cr kG=>⟨_,cl bi 0,f,cl bi 1,q,cl bi 2,t,f,q,0,rfl,(ho.one cr hl).low hz,hn,hp.andNew cr λi hi=>by omega,hout⟩⟩
theorem yQS{w w0:World}{s t:SV}{a b:List UInt8}(ha:zQe w0 w s a)(hb:ByV w t b):Calls prog 125 #[.slice s.a s.len s.cap,.slice t.a t.len t.cap] w λe w'=>e=.returned (.bool (decide (a=b)))/\Pu w w':=by
 refine yKz _ _ w _ ⟨_,w,xQU ha,_,w,yZq hb,?_,Pu.refl w⟩
 rw[zXz]
 congr 2
 exact zZl ⟨λh=>by rw[←zQH a,h,zQH],λh=>by rw[h]⟩
theorem yZE{w:World}{s:SV}{d:List UInt8}(hb:ByV w s d)(hd:d.length<=1000000000):Calls prog 87 #[.slice s.a s.len s.cap] w (xW0 w d):=by
 refine yVr _ w _ (alB λw1 ax aE=>(yZ2 (hb.pu ax) hd).mono ?_)
 rintro e w2 ⟨t,f,q,ok,rfl,ho,hn,ar,hpar⟩
 have me:w.heap.size<w1.heap.size:=zQz aE
 refine⟨_,f,q,ok,rfl,zYt rfl s35.symm rfl λw3 aA ng bo=>?_⟩
 have p3:=(ax.trans ar).trans aA
 have ho3:=ho.pu aA
 refine Br.of (λd1=>yXZ ((ar.trans aA).blk aE) p3 (Nat.le_refl _) λu hv hu=>?_) (λd1=>⟨_,cl bo 0,f,cl bo 1,q,cl bo 2,(zZu (ho3.rd hn) hn.lim).mono ?_⟩)
 ·rw[(hpar u hv hu).2]at d1;cases d1
 rintro e w4 ⟨rfl,aJ⟩
 have p4:=p3.trans aJ
 have b3:=aJ.blk bo
 have sO:=ho3.pu aJ
 refine⟨_,rfl,Br.of (λd1=>yXZ (((ar.trans aA).trans aJ).blk aE) p4 (Nat.le_refl _) λu hv hu=>?_) (λd1=>⟨_,cl b3 0,f,cl b3 1,q,cl b3 2,?_⟩)⟩
 ·rw[(hpar u hv hu).1]at d1;exact zQ5 d1 hv
 have j1:zQi t=0:=zQs d1
 refine(zYz (sO.rd hn) (zJt.of j1)).mono ?_
 rintro e w5 ⟨o,rfl,ho5,aV⟩
 refine⟨o,rfl,(yQS ho5 (hb.pu (p4.trans aV))).mono ?_⟩
 rintro e w6 ⟨rfl,bV⟩
 have sP:=aV.trans bV
 refine⟨_,rfl,Br.of (λd1=>yXZ ((((ar.trans aA).trans aJ).trans sP).blk aE) (p4.trans sP) (Nat.le_refl _) λu hv hu=>?_) (λd1=>?_)⟩
 ·rw[(hpar u hv hu).1,decide_eq_true hu]at d1;cases d1
 have hbt:zQ1 t=d:=by simpa using d1
 exact xW1 ((((ar.trans aA).trans aJ).trans sP).blk aE) (sP.blk b3) (sO.pu sP) hn (p4.trans sP) (Nat.le_refl _) me ax.size (.inl ⟨rfl,j1,hbt,λu hv hu=>(hpar u hv hu).1⟩)
end Go.Proofs.YtaeecpjhfmcliaaGreatDoor
/- The log: what files tell, and what a recovery writes. In plain words. No condition but those stated. -/
namespace Go.Proofs.YtaeecpjhfmcliaaGreatDoor
open Go.Sh Go.RowKit Tryz
def zXE(d:List UInt8):Option Tbl:=open Classical in if h:∃u,zQi u=0/\zQ1 u=d then some h.choose else none
theorem zXl{d:List UInt8}{t:Tbl}(h:zXE d=some t):zQi t=0/\zQ1 t=d:=by
 unfold zXE at h
 split at h
 ·next hx=>rw[←Option.some.inj h];exact hx.choose_spec
 ·cases h
theorem zYL{d:List UInt8}(h:zXE d=none):∀u,zQi u=0->zQ1 u ≠ d:=λu hu hd=>by
 unfold zXE at h
 split at h
 ·cases h
 ·next hx=>exact hx ⟨u,hu,hd⟩
theorem yJc{d:List UInt8}{t:Tbl}(h:zVY d t 0):zXE d=some t:=by
 rcases h with⟨-,h1,h2,h3⟩|⟨h,-⟩
 ·cases e:zXE d with
  | none=>exact absurd h2 (zYL e t h1)
  | some u=>rw[h3 u (zXl e).1 (zXl e).2]
 ·cases h
theorem yWP{d:List UInt8}{t:Tbl}(h:zVY d t 11):zXE d=none:=by
 rcases h with⟨h,-⟩|⟨-,-,h3⟩
 ·cases h
 ·cases e:zXE d with
  | none=>rfl
  | some u=>exact absurd (zXl e).2 (h3 u (zXl e).1)
theorem zJL{d:List UInt8}{t:Tbl}{c:Int}(h:zVY d t c):(c=0/\zXE d=some t)∨(c=11/\zXE d=none/\t=⟨0,[],[]⟩):=by
 have h':=h
 rcases h with⟨rfl,-⟩|⟨rfl,h2,-⟩
 ·exact .inl ⟨rfl,yJc h'⟩
 ·exact .inr ⟨rfl,yWP h',h2⟩
def yQB(t:Tbl)(b:List UInt8):Option Rec:=(zXE (zZO { t with recs:=[⟨false,zZC t.fields⟩] } ++ b ++ [26])).bind λx=>x.recs.head?
def goC(t:Tbl)(size:Nat)(recs:List Rec)(rest:List UInt8):Option (List Rec):=
 if h:rest=[]then some recs
 else match yQB t ((rest.drop 2).take size)with
  | none=>none
  | some r=>if zQL (rest.take 2)<1∨recs.length+1<zQL (rest.take 2)∨300<zQL (rest.take 2)then none
   else goC t size (if recs.length<zQL (rest.take 2)then recs ++ [r]else recs.set (zQL (rest.take 2) - 1) r) (rest.drop (size+2))
 termination_by rest.length
 decreasing_by
 rw[List.length_drop]
 have:rest.length ≠ 0:=λe=>h (List.length_eq_zero_iff.1 e)
 omega
def zQO(t:Tbl)(body:List UInt8):Option Tbl:=
 if body.length<2∨(body.length - 2) % ((zX0 t.fields).toNat+2) ≠ 0 then none
 else(goC t (zX0 t.fields).toNat t.recs (body.drop 2)).bind λl=>if l.length=zQL (body.take 2)then some { t with recs:=l }else none
def xQm(t:Tbl)(k:Int):List UInt8:=match t.recs[(k - 1).toNat]? with
 | some r=>zJm zQp t.fields r
 | none=>[]
def zXg(t:Tbl)(l:List Int):List UInt8:=zZ5 t.recs.length 2 ++ l.flatMap λk=>if (t.recs.length:Int)<k then []else zZ5 k.toNat 2 ++ xQm t k
abbrev Fls:=List UInt8 × List UInt8
def zWc(cur:Option Tbl)(anew:Bool)(rest:List UInt8):Option Tbl × List UInt8 × Bool:=
 match h:zZm rest with
 | none=>(cur,rest,anew)
 | some (k,body,more)=>
  if k=119 then zWc (zXE body) true more
  else if k ≠ 99 then zWc none anew more
  else zWc (cur.bind λt=>zQO t body) anew more
 termination_by rest.length
 decreasing_by all_goals exact yQw h
def zQW(F:Fls):Option Tbl × List UInt8 × Bool:=zWc (zXE F.1) false F.2
structure Wr where
 file:Int
 at_:Int
 b:List UInt8
def Fls.get(F:Fls)(i:Int):List UInt8:=if i=0 then F.1 else F.2
def Fls.put(F:Fls)(i:Int)(b:List UInt8):Fls:=if i=0 then(b,F.2)else(F.1,b)
def zJu(F:Fls)(x:Wr)(k:Int):Fls:=if k<=0 then F else F.put x.file ((F.get x.file).take (min x.at_ (F.get x.file).length).toNat ++ x.b.take k.toNat)
def zQK(F:Fls)(x:Wr):Fls:=zJu F x (x.b.length+1)
def zXo(F:Fls):List Wr:=
 (if (zQW F).2.1=[]then []else [⟨1,F.2.length - (zQW F).2.1.length,[]⟩]) ++
 (if (zQW F).2.2 then [⟨0,0,[]⟩,⟨0,0,zX3 ((zQW F).1.getD yKa)⟩,⟨1,0,[]⟩]else [])
def openF(F:Fls):Fls:=(zXo F).foldl zQK F
def yJt(F:Fls):List Fls:=(zXo F).foldl (λl x=>l ++ [zQK (l.getLast?.getD F) x]) [F]
end Go.Proofs.YtaeecpjhfmcliaaGreatDoor
/- The log: right tables and their bytes stand for each other; headers too. In plain words. No condition but those stated. -/
namespace Go.Proofs.YtaeecpjhfmcliaaGreatDoor
open Go.Sh Go.RowKit Tryz
def wOf(d:List UInt8):World:={ heap:=#[.cells (d.map u8V).toArray 0 (0,0)],tape:=λ_ _=>0,drawn:=0,os:=default,output:=#[] }
theorem wOf_by(d:List UInt8)(hd:d.length<=140737488355328):ByV (wOf d) ⟨some ⟨0,0,none⟩,d.length,d.length⟩ d:=
 ⟨rfl,Nat.le_refl _,hd,λj b hj=>⟨_,rfl,by rw[zQr,zQF (c:=(d.map u8V).toArray) (e:=0) (f:=(0,0)) rfl];simp[hj]⟩⟩
theorem zKT{t:Tbl}(h:zJt t):(zQ1 t).length<=600300:=by
 have h1:=zWn h
 have h2:=yVF h t.recs.length (Nat.le_refl _)
 rw[List.take_length]at h2
 have h3:=h.n16
 unfold zQ1
 simp only[List.length_append,List.length_singleton]
 omega
theorem yXP(t:Tbl):(zX3 t).length<=600300:=by
 unfold zX3;split
 ·rename_i h;exact zKT (zJt.of h)
 ·simp
theorem yKQ{u v:Tbl}(hu:zQi u=0)(hv:zQi v=0)(h:zQ1 u=zQ1 v):u=v:=by
 have hl:=zKT (zJt.of hu)
 obtain⟨e,w',fr,⟨t,f,q,c,_,_,_,_,hr⟩,_⟩:=yZE (wOf_by (zQ1 u) (by omega)) (by omega) []
 rcases hr with⟨_,_,_,h3⟩|⟨_,_,h3⟩
 ·rw[←h3 u hu rfl,←h3 v hv h.symm]
 ·exact absurd rfl (h3 u hu)
theorem yQq{f:Fld}(h:zQn f=true):1<=f.kind/\f.kind<=5:=by
 unfold zQn at h
 have h:=(Bool.and_eq_true _ _ ▸ h:zXV f.name=true/\zKY f.kind f.width=true).2
 unfold zKY at h
 split at h
 ·omega
 split at h
 ·omega
 split at h
 ·omega
 split at h
 ·omega
 split at h
 ·omega
 ·cases h
theorem yZz{a b:Int}(ha:1<=a/\a<=5)(hb:1<=b/\b<=5)(h:zWE a=zWE b):a=b:=by
 rcases(by omega:a=1∨a=2∨a=3∨a=4∨a=5)with rfl|rfl|rfl|rfl|rfl <;> rcases(by omega:b=1∨b=2∨b=3∨b=4∨b=5)with rfl|rfl|rfl|rfl|rfl <;> first|rfl|(exfalso;revert h;decide)
theorem yVi{a b:Bool}(h:yVJ a=yVJ b):a=b:=by
 cases a <;> cases b <;> first|rfl|(exfalso;revert h;decide)
theorem zYd{a b:Int}(ha:0<=a/\a<=255)(hb:0<=b/\b<=255)(h:zZj a=zZj b):a=b:=by
 rw[←zKJ ha,←zKJ hb,h]
theorem yJP{f g:Fld}(hf:zQn f=true)(hg:zQn g=true)(h:zQE f=zQE g):f=g:=by
 obtain⟨a1,a2,a3,a4⟩:=zKu hf h
 obtain⟨b1,b2,b3,b4⟩:=zKu hg rfl
 have e1:f.name.data.toList=g.name.data.toList:=by
  have:=a1.symm.trans b1
  rw[←zK4 _ (zW2 hf) (10 - f.name.size),this,zK4 _ (zW2 hg)]
 have e2:=yZz (yQq hf) (yQq hg) (Option.some.inj (a2.symm.trans b2))
 have e3:=zYd (by have:=zXh hf;omega) (by have:=zXh hg;omega) (Option.some.inj (a3.symm.trans b3))
 have e4:=yVi (Option.some.inj (a4.symm.trans b4))
 obtain⟨n,k,wd,z⟩:=f
 obtain⟨n',k',wd',z'⟩:=g
 dsimp only at e1 e2 e3 e4
 rw[zQI e1,e2,e3,e4]
theorem xQN{x t:Tbl}(hx:zQi x=0)(hp:zQT t.page=true)(hvf:zQG t.fields=0){rest:List UInt8}(h:zQ1 x=zZO t ++ rest):x.page=t.page/\x.fields=t.fields:=by
 have ox:=zJt.of hx
 obtain⟨h0,hall,_,gk,hw⟩:=zXf hvf
 have x16:=ox.n16
 have e:zZO t ++ rest=zWB t ++ (t.fields.flatMap zQE ++ ([13] ++ rest)):=by unfold zZO zWB;simp only[List.append_assoc]
 rw[e]at h
 obtain⟨d,hd⟩:∃d,d=zQ1 x:=⟨_,rfl⟩
 obtain⟨_,p1,_,p10⟩:=zWo (u:=x) hd.symm
 have h1:=zXe t.recs.length 4
 have q1:d[1]?=some (zZj t.page):=by rw[hd,h];rfl
 have zt:d[10]?=some (zZj t.fields.length):=by
  rw[hd,h,List.getElem?_append_left (by rw[zKN];omega)]
  unfold zWB
  rw[List.getElem?_append_right (by simp[zXe])]
  simp[zXe]
 have px:=ox.page
 unfold zQT at px hp
 simp only[Bool.and_eq_true,decide_eq_true_eq]at px hp
 have ep:=zYd (by omega) (by omega) (Option.some.inj (p1.symm.trans q1))
 have en:=zYd (by omega) (by omega) (Option.some.inj (p10.symm.trans zt))
 have en:x.fields.length=t.fields.length:=by omega
 refine⟨ep,List.ext_getElem? λk=>?_⟩
 by_cases hk:k<t.fields.length
 ·obtain⟨f,hf⟩:=zQZ hk
  obtain⟨g,hg⟩:=zQZ (l:=x.fields) (k:=k) (by omega)
  have b1:=zVw ox hd.symm hg
  have b2:(d.drop (12+16 * k)).take 16=zQE f:=by
   have hallk:(t.fields.take k).all zQn=true:=List.all_eq_true.2 λg hg=>List.all_eq_true.1 hall g (List.mem_of_mem_take hg)
   have sQ:=yJm hallk
   rw[List.length_take]at sQ
   have hl16:=zXW (zQR (List.all_eq_true.1 hall f (List.mem_of_getElem? hf))).2.1
   have ee:t.fields.flatMap zQE=(t.fields.take k).flatMap zQE ++ (zQE f ++ (t.fields.drop (k+1)).flatMap zQE):=by
    rw[←List.flatMap_cons,←zXO hf,←List.flatMap_append,List.take_append_drop]
   have hl:(zWB t ++ (t.fields.take k).flatMap zQE).length=12+16 * k:=by rw[List.length_append,zKN,sQ];omega
   rw[hd,h,ee,List.append_assoc,←List.append_assoc (zWB t),List.drop_append,List.drop_eq_nil_of_le (by omega),hl,Nat.sub_self,List.drop_zero,List.nil_append,List.append_assoc,List.take_append_of_le_length (by omega),List.take_of_length_le (by omega)]
  rw[hg,hf,yJP (List.all_eq_true.1 ox.all g (List.mem_of_getElem? hg)) (List.all_eq_true.1 hall f (List.mem_of_getElem? hf)) (b1.symm.trans b2)]
 ·rw[List.getElem?_eq_none (by omega),List.getElem?_eq_none (by omega)]
theorem zJQ{t:Tbl}(hp:zQT t.page=true)(hf:zQG t.fields=0)(hn:t.recs.length<=300)(hr:∀r ∈ t.recs,zQA t.fields t.page r=0):zQi t=0:=by
 have key:∀l:List Rec,(∀r ∈ l,zQA t.fields t.page r=0)->zXr t.fields t.page l=0:=by
  intro l
  induction l with
  | nil=>intro _;rfl
  | cons r l ih=>
   intro h
   unfold zXr
   rw[if_neg (by rw[h r (List.mem_cons_self)];simp)]
   exact ih λx hx=>h x (List.mem_cons_of_mem _ hx)
 unfold zQi
 rw[if_pos hp,if_neg (by rw[hf];simp),if_neg (by omega)]
 exact key _ hr
structure zXw(t:Tbl):Prop where
 page:zQT t.page=true
 vf:zQG t.fields=0
 n300:t.recs.length<=300
 recs:∀r ∈ t.recs,zQA t.fields t.page r=0
theorem zXw.of{t:Tbl}(h:zQi t=0):zXw t:=by
 obtain⟨h1,h2,h3,h4⟩:=zWl h
 exact⟨h1,h2,h3,λr hr=>zZB h4 r hr⟩
theorem zXw.ok{t:Tbl}(h:zXw t):zQi t=0:=zJQ h.page h.vf h.n300 h.recs
end Go.Proofs.YtaeecpjhfmcliaaGreatDoor
/- The log: what bytes of the log tell, record by record; what is cut off or put behind; recoveries. In plain words. No condition but those stated. -/
namespace Go.Proofs.YtaeecpjhfmcliaaGreatDoor
open Go.Sh Go.RowKit Tryz
def zK9(cur:Option Tbl)(a:Bool)(k:UInt8)(body:List UInt8):Option Tbl × Bool:=
 if k=119 then(zXE body,true)else if k ≠ 99 then(none,a)else(cur.bind λt=>zQO t body,a)
theorem zZW{cur:Option Tbl}{a:Bool}{rest:List UInt8}(h:zZm rest=none):zWc cur a rest=(cur,rest,a):=by
 rw[zWc];split
 ·rfl
 ·next hx=>rw[h]at hx;cases hx
theorem zJ5 {cur:Option Tbl} {a:Bool} {rest body more:List UInt8} {k:UInt8} (h:zZm rest=some (k,body,more)):zWc cur a rest=zWc (zK9 cur a k body).1 (zK9 cur a k body).2 more:=by
 rw[zWc];split
 ·next hx=>rw[h]at hx;cases hx
 ·next k' body' more' hx=>
  rw[h]at hx
  simp only[Option.some.injEq,Prod.mk.injEq]at hx
  obtain⟨rfl,rfl,rfl⟩:=hx
  unfold zK9
  split
  ·rfl
  ·split <;> rfl
theorem yV0{M:Option Tbl->Bool->List UInt8->Prop}(h0:∀cur a rest,zZm rest=none->M cur a rest)
  (h1:∀cur a rest k body more,zZm rest=some (k,body,more)->M (zK9 cur a k body).1 (zK9 cur a k body).2 more->M cur a rest):∀cur a rest,M cur a rest:=by
 have key:∀n cur a rest,rest.length=n->M cur a rest:=by
  intro n
  induction n using Nat.strongRecOn with
  | _ n ih=>
   intro cur a rest hn
   cases h:zZm rest with
   | none=>exact h0 cur a rest h
   | some x=>
    obtain⟨k,body,more⟩:=x
    exact h1 cur a rest k body more h (ih more.length (by rw[←hn];exact yQw h) _ _ more rfl)
 exact λcur a rest=>key _ cur a rest rfl
theorem seg{b x:List UInt8}{m i j:Nat}(h:i+j<=m)(hm:m<=b.length):((b.take m ++ x).drop i).take j=(b.drop i).take j:=by
 have hl:(b.take m).length=m:=by rw[List.length_take];omega
 rw[List.drop_append_of_le_length (by omega),List.take_append_of_le_length (by rw[List.length_drop];omega),List.drop_take,List.take_take,Nat.min_eq_left (by omega)]
theorem yZj {b body more:List UInt8} {k:UInt8} (h:zZm b=some (k,body,more)):∃front,b=front ++ more/\9<=front.length/\∀x,zZm (front ++ x)=some (k,body,x):=by
 unfold zZm at h
 split at h
 ·cases h
 rename_i h9
 split at h
 ·cases h
 rename_i hn
 split at h
 ·cases h
 rename_i hs
 simp only[Option.some.injEq,Prod.mk.injEq]at h
 obtain⟨rfl,rfl,rfl⟩:=h
 obtain⟨n,en⟩:∃n,n=zQL ((b.drop 1).take 4):=⟨_,rfl⟩
 rw[←en]at hn hs ⊢
 have hm:9+n<=b.length:=by omega
 have hl:(b.take (9+n)).length=9+n:=by rw[List.length_take];omega
 refine⟨b.take (9+n),(List.take_append_drop _ _).symm,by omega,λx=>?_⟩
 have e1:(((b.take (9+n)) ++ x).drop 1).take 4=(b.drop 1).take 4:=seg (by omega) hm
 have e2:(((b.take (9+n)) ++ x).drop (5+n)).take 4=(b.drop (5+n)).take 4:=seg (by omega) hm
 have e3:((b.take (9+n)) ++ x).take (5+n)=b.take (5+n):=seg (i:=0) (by omega) hm
 have e4:(((b.take (9+n)) ++ x).drop 5).take n=(b.drop 5).take n:=seg (by omega) hm
 have e5:((b.take (9+n)) ++ x).drop (9+n)=x:=by
  conv=>lhs;rw[←hl]
  rw[hl]
  have:=List.drop_left (l₁:=b.take (9+n)) (l₂:=x)
  rw[hl]at this;exact this
 have e6:((b.take (9+n)) ++ x).headD 0=b.headD 0:=by
  cases b with
  | nil=>simp at hm
  | cons c b=>rw[show 9+n=(8+n)+1 by omega];rfl
 unfold zZm
 rw[e1,←en,if_neg (by rw[List.length_append];omega),if_neg (by rw[List.length_append];omega),e2,e3,if_neg hs,e4,e5,e6]
theorem yQ7:∀(cur:Option Tbl) (a:Bool) (rest:List UInt8),zZm (zWc cur a rest).2.1=none/\∃front,rest=front ++ (zWc cur a rest).2.1/\∀x,zWc cur a (front ++ x)=zWc (zWc cur a rest).1 (zWc cur a rest).2.2 x:=by
 refine yV0 (λcur a rest h=>?_) (λcur a rest k body more h ih=>?_)
 ·rw[zZW h]
  exact⟨h,[],rfl,λx=>rfl⟩
 ·rw[zJ5 h]
  obtain⟨h1,f,h2,h3⟩:=ih
  obtain⟨g,g1,_,g3⟩:=yZj h
  refine⟨h1,g ++ f,?_,λx=>?_⟩
  ·rw[List.append_assoc,←h2];exact g1
  ·rw[List.append_assoc,zJ5 (g3 (f ++ x)),h3]
theorem xQw{cur:Option Tbl}{a:Bool}{k:UInt8}{body x:List UInt8}(hb:body.length<4294967296):zWc cur a (zJ1 k body ++ x)=zWc (zK9 cur a k body).1 (zK9 cur a k body).2 x:=zJ5 (yVE hb)
theorem zVV {cur t:Option Tbl} {a b:Bool} {l:List UInt8} (h:zWc cur a l=(t,[],b)) (x:List UInt8):zWc cur a (l ++ x)=zWc t b x:=by
 obtain⟨_,f,h2,h3⟩:=yQ7 cur a l
 rw[h]at h2 h3
 simp only[List.append_nil]at h2
 subst h2
 exact h3 x
theorem yXd:zZm []=none:=rfl
theorem Fls.put1(F:Fls)(b:List UInt8):F.put 1 b=(F.1,b):=rfl
theorem yXg(F:Fls)(x:Wr):zQK F x=F.put x.file ((F.get x.file).take (min x.at_ (F.get x.file).length).toNat ++ x.b):=by
 unfold zQK zJu
 rw[if_neg (by omega),List.take_of_length_le (l:=x.b) (by omega)]
theorem zYF(F:Fls)(x:Wr){k:Int}(h:k<=0):zJu F x k=F:=by unfold zJu;rw[if_pos h]
theorem yQV(F:Fls)(x:Wr){k:Int}(h:0<k):zJu F x k=F.put x.file ((F.get x.file).take (min x.at_ (F.get x.file).length).toNat ++ x.b.take k.toNat):=by unfold zJu;rw[if_neg (by omega)]
end Go.Proofs.YtaeecpjhfmcliaaGreatDoor
/- The log: what a record of changes makes of a table: of the table before, the table behind. In plain words. No condition but those stated. -/
namespace Go.Proofs.YtaeecpjhfmcliaaGreatDoor
open Go.Sh Go.RowKit Tryz
theorem zYa{t:Tbl}(hv:zQi t=0):zXE (zQ1 t)=some t:=by
 cases q:zXE (zQ1 t)with
 | none=>exact absurd rfl (zYL q t hv)
 | some u=>obtain⟨q1,q2⟩:=zXl q;rw[yKQ q1 hv q2]
theorem yW0{t:Tbl}(hp:zQT t.page=true)(hf:zQG t.fields=0){r:Rec}(hr:zQA t.fields t.page r=0):yQB t (zJm zQp t.fields r)=some r:=by
 have hv:zQi { t with recs:=[r] }=0:=zJQ hp hf (by simp) λx hx=>by rw[List.mem_singleton.1 hx];exact hr
 have e:zZO { t with recs:=[⟨false,zZC t.fields⟩] } ++ zJm zQp t.fields r ++ [26]=zQ1 { t with recs:=[r] }:=by
  unfold zQ1
  rw[List.flatMap_cons,List.flatMap_nil,List.append_nil]
  rfl
 unfold yQB
 rw[e,zYa hv]
 rfl
theorem zYQ{t:Tbl}(hp:zQT t.page=true)(hf:zQG t.fields=0){b:List UInt8}{r:Rec}(h:yQB t b=some r):zQA t.fields t.page r=0:=by
 unfold yQB at h
 obtain⟨x,h1,h2⟩:=Option.bind_eq_some_iff.1 h
 obtain⟨hx,hb⟩:=zXl h1
 rw[List.append_assoc]at hb
 obtain⟨e1,e2⟩:=xQN (t:={ t with recs:=[⟨false,zZC t.fields⟩] }) hx hp hf hb
 have hr:r ∈ x.recs:=List.mem_of_mem_head? (by rw[h2];rfl)
 have:=(zXw.of hx).recs r hr
 rw[e1,e2]at this
 exact this
theorem yQb(t:Tbl)(size:Nat)(recs:List Rec):goC t size recs []=some recs:=by rw[goC,dif_pos rfl]
theorem yQy {t:Tbl} {size:Nat} {recs:List Rec} {rest:List UInt8} (h:rest ≠ []):goC t size recs rest=(match yQB t ((rest.drop 2).take size)with
  | none=>none
  | some r=>if zQL (rest.take 2)<1∨recs.length+1<zQL (rest.take 2)∨300<zQL (rest.take 2)then none
   else goC t size (if recs.length<zQL (rest.take 2)then recs ++ [r]else recs.set (zQL (rest.take 2) - 1) r) (rest.drop (size+2))):=by
 conv=>lhs;rw[goC]
 rw[dif_neg h]
 all_goals (cases yQB t ((rest.drop 2).take size) <;> rfl)
theorem yVu{t:Tbl}(hp:zQT t.page=true)(hf:zQG t.fields=0){size:Nat}:∀(n:Nat) (rest:List UInt8) (recs l:List Rec),rest.length<=n->recs.length<=300->(∀r ∈ recs,zQA t.fields t.page r=0)->goC t size recs rest=some l->
  l.length<=300/\∀r ∈ l,zQA t.fields t.page r=0:=by
 intro n
 induction n with
 | zero=>
  intro rest recs l hn hl hr h
  obtain rfl:rest=[]:=List.eq_nil_of_length_eq_zero (by omega)
  rw[yQb]at h;cases h
  exact⟨hl,hr⟩
 | succ n ih=>
  intro rest recs l hn hl hr h
  by_cases h0:rest=[]
  ·subst h0
   rw[yQb]at h;cases h
   exact⟨hl,hr⟩
  rw[yQy h0]at h
  split at h
  ·cases h
  rename_i r q
  split at h
  ·cases h
  rename_i hk
  have hpos:=List.length_pos_iff.2 h0
  refine ih _ _ _ (by rw[List.length_drop];omega) ?_ ?_ h
  ·split
   ·rw[List.length_append,List.length_singleton];omega
   ·rw[List.length_set];exact hl
  ·intro x hx
   have hrv:=zYQ hp hf q
   split at hx
   ·rcases List.mem_append.1 hx with hx|hx
    ·exact hr x hx
    ·rw[List.mem_singleton.1 hx];exact hrv
   ·rcases List.mem_or_eq_of_mem_set hx with hx|rfl
    ·exact hr x hx
    ·exact hrv
theorem zKq{t u:Tbl}{body:List UInt8}(hv:zQi t=0)(h:zQO t body=some u):zQi u=0:=by
 have hR:=zXw.of hv
 unfold zQO at h
 split at h
 ·cases h
 obtain⟨l,h1,h2⟩:=Option.bind_eq_some_iff.1 h
 split at h2
 ·cases h2
  obtain⟨g1,g2⟩:=yVu hR.page hR.vf _ _ _ _ (Nat.le_refl _) hR.n300 hR.recs h1
  exact zJQ hR.page hR.vf g1 g2
 ·cases h2
theorem yKx:∀(cur:Option Tbl) (a:Bool) (rest:List UInt8),(∀t,cur=some t->zQi t=0)->∀t,(zWc cur a rest).1=some t->zQi t=0:=by
 refine yV0 (λcur a rest h hc t ht=>?_) (λcur a rest k body more h ih hc t ht=>?_)
 ·rw[zZW h]at ht;exact hc t ht
 ·rw[zJ5 h]at ht
  refine ih (λu hu=>?_) t ht
  unfold zK9 at hu
  split at hu
  ·exact(zXl hu).1
  split at hu
  ·cases hu
  ·obtain⟨x,h1,h2⟩:=Option.bind_eq_some_iff.1 hu
   exact zKq (hc x h1) h2
theorem zK5 {F:Fls} {t:Tbl} (h:(zQW F).1=some t):zQi t=0:=yKx _ _ _ (λu hu=>(zXl hu).1) t h
theorem yZZ{n:Nat}(h:n<65536)(rest:List UInt8):zQL ((zZ5 n 2 ++ rest).take 2)=n:=by
 rw[List.take_append_of_le_length (by rw[zQx];omega),List.take_of_length_le (by rw[zQx];omega),zZQ,Nat.mod_eq_of_lt h]
theorem zVB(n:Nat)(rest:List UInt8):(zZ5 n 2 ++ rest).drop 2=rest:=by
 have:=List.drop_left (l₁:=zZ5 n 2) (l₂:=rest)
 rw[zQx]at this;exact this
def yXR(u:Tbl)(i:Nat):List UInt8:=zZ5 (i+1) 2 ++ (match u.recs[i]? with
 | some r=>zJm zQp u.fields r
 | none=>[])
theorem xQs{t u:Tbl}(ht:zQi t=0)(hu:zQi u=0)(hp:u.page=t.page)(hf:u.fields=t.fields)(hn:t.recs.length<=u.recs.length) :
  ∀(d j:Nat),j+d=u.recs.length->goC t (zX0 t.fields).toNat (u.recs.take j ++ t.recs.drop j) (((List.range' j d).filter (zVz t.recs u.recs)).flatMap (yXR u))=some u.recs:=by
 have hT:=zXw.of ht
 have hU:=zXw.of hu
 intro d
 induction d with
 | zero=>
  intro j hj
  rw[List.range'_zero,List.filter_nil,List.flatMap_nil,yQb,List.take_of_length_le (by omega),List.drop_eq_nil_of_le (by omega),List.append_nil]
 | succ d ih=>
  intro j hj
  have fK:=hU.n300
  obtain⟨r,hr⟩:=zQZ (l:=u.recs) (k:=j) (by omega)
  have nj:u.recs.take (j+1)=u.recs.take j ++ [r]:=zQ8 hr
  have hlen:(u.recs.take j).length=j:=by rw[List.length_take];omega
  rw[List.range'_succ]
  by_cases hd:zVz t.recs u.recs j=true
  ·rw[List.filter_cons_of_pos hd,List.flatMap_cons]
   obtain⟨X,hX⟩:∃X,X=((List.range' (j+1) d).filter (zVz t.recs u.recs)).flatMap (yXR u):=⟨_,rfl⟩
   rw[←hX]
   have hrv:zQA t.fields t.page r=0:=by rw[←hp,←hf];exact hU.recs r (List.mem_of_getElem? hr)
   have eB:yXR u j=zZ5 (j+1) 2 ++ zJm zQp t.fields r:=by unfold yXR;rw[hr,hf]
   have hrl:(zJm zQp t.fields r).length=(zX0 t.fields).toNat:=by
    have:=zKa (zXf hT.vf).2.1 (zXs.of (zXf hT.vf).2.1 hrv)
    omega
   have e1:zQL ((yXR u j ++ X).take 2)=j+1:=by rw[eB,List.append_assoc];exact yZZ (by omega) _
   have e2:((yXR u j ++ X).drop 2).take (zX0 t.fields).toNat=zJm zQp t.fields r:=by
    rw[eB,List.append_assoc,zVB,←hrl,List.take_left]
   have e3:(yXR u j ++ X).drop ((zX0 t.fields).toNat+2)=X:=by
    rw[Nat.add_comm,←List.drop_drop,eB,List.append_assoc,zVB,←hrl,List.drop_left]
   have hne:yXR u j ++ X ≠ []:=λe=>by
    have:=congrArg List.length e
    rw[eB]at this
    simp[zQx]at this
   rw[yQy hne,e2,yW0 hT.page hT.vf hrv]
   dsimp only
   rw[e1,e3]
   have hll:(u.recs.take j ++ t.recs.drop j).length=j+(t.recs.length - j):=by rw[List.length_append,hlen,List.length_drop]
   rw[if_neg (by omega)]
   have key:(if (u.recs.take j ++ t.recs.drop j).length<j+1 then u.recs.take j ++ t.recs.drop j ++ [r]else(u.recs.take j ++ t.recs.drop j).set (j+1 - 1) r)=u.recs.take (j+1) ++ t.recs.drop (j+1):=by
    by_cases hlt:t.recs.length<=j
    ·rw[if_pos (by omega),List.drop_eq_nil_of_le hlt,List.drop_eq_nil_of_le (show t.recs.length<=j+1 by omega),List.append_nil,List.append_nil,nj]
    ·rw[if_neg (by omega),Nat.add_sub_cancel,nj]
     obtain⟨y,hy⟩:=zQZ (l:=t.recs) (k:=j) (by omega)
     rw[zXO hy,List.set_append,if_neg (by omega),hlen,Nat.sub_self,List.set_cons_zero,List.append_assoc]
     rfl
   rw[key,hX]
   exact ih (j+1) (by omega)
  ·rw[List.filter_cons_of_neg hd]
   have he:t.recs[j]?=u.recs[j]?:=by
    unfold zVz at hd
    simpa using hd
   rw[hr]at he
   have:u.recs.take j ++ t.recs.drop j=u.recs.take (j+1) ++ t.recs.drop (j+1):=by rw[zXO he,nj,List.append_assoc];rfl
   rw[this]
   exact ih (j+1) (by omega)
theorem yZH{t u:Tbl}(hu:zQi u=0)(hf:u.fields=t.fields){l:List Nat}(h:∀i ∈ l,i<u.recs.length):(l.flatMap (yXR u)).length=l.length * ((zX0 t.fields).toNat+2):=by
 have hU:=zXw.of hu
 induction l with
 | nil=>simp
 | cons i l ih=>
  obtain⟨r,hr⟩:=zQZ (h i List.mem_cons_self)
  have hrl:=zKa (zXf hU.vf).2.1 (zXs.of (zXf hU.vf).2.1 (hU.recs r (List.mem_of_getElem? hr)))
  rw[hf]at hrl
  rw[List.flatMap_cons,List.length_append,ih λk hk=>h k (List.mem_cons_of_mem _ hk),List.length_cons,Nat.succ_mul]
  have:(yXR u i).length=2+(zJm zQp t.fields r).length:=by unfold yXR;rw[hr,hf,List.length_append,zQx]
  omega
theorem zWM{t u:Tbl}(l:List Nat)(h:∀i ∈ l,i<u.recs.length):zXg u (l.map λ(i:Nat)=>(i:Int)+1)=zZ5 u.recs.length 2 ++ l.flatMap (yXR u):=by
 unfold zXg
 congr 1
 induction l with
 | nil=>rfl
 | cons i l ih=>
  rw[List.map_cons,List.flatMap_cons,List.flatMap_cons,ih λk hk=>h k (List.mem_cons_of_mem _ hk)]
  congr 1
  have:=h i List.mem_cons_self
  rw[if_neg (by omega)]
  unfold yXR xQm
  rw[show((i:Int)+1).toNat=i+1 by omega,show((i:Int)+1 - 1).toNat=i by omega]
  all_goals (cases u.recs[i]? <;> rfl)
theorem xJ1 {a b:List Rec} {i:Nat} (h:i ∈ (List.range (max a.length b.length)).filter (zVz a b)) (hn:a.length<=b.length):i<b.length:=by
 have:=List.mem_range.1 (List.mem_filter.1 h).1
 omega
theorem zYs{t u:Tbl}(ht:zQi t=0)(hu:zQi u=0)(hp:u.page=t.page)(hf:u.fields=t.fields)(hn:t.recs.length<=u.recs.length) :
  zQO t (zXg u (zWI t.recs u.recs (max t.recs.length u.recs.length)))=some u:=by
 have hU:=zXw.of hu
 have fK:=hU.n300
 have hall:∀i ∈ (List.range (max t.recs.length u.recs.length)).filter (zVz t.recs u.recs),i<u.recs.length:=λi hi=>xJ1 hi hn
 have e:zXg u (zWI t.recs u.recs (max t.recs.length u.recs.length))=zZ5 u.recs.length 2 ++ ((List.range (max t.recs.length u.recs.length)).filter (zVz t.recs u.recs)).flatMap (yXR u):=zWM (t:=t) _ hall
 have hl:=yZH (t:=t) hu hf hall
 have hg:=xQs ht hu hp hf hn u.recs.length 0 (by omega)
 rw[List.take_zero,List.drop_zero,List.nil_append,←List.range_eq_range']at hg
 rw[Nat.max_eq_right hn]at e hl ⊢
 have hsub:(zXg u (zWI t.recs u.recs u.recs.length)).length - 2=((List.range u.recs.length).filter (zVz t.recs u.recs)).length * ((zX0 t.fields).toNat+2):=by
  rw[e,List.length_append,zQx,hl];omega
 have h2:2<=(zXg u (zWI t.recs u.recs u.recs.length)).length:=by rw[e,List.length_append,zQx];omega
 unfold zQO
 rw[if_neg (by rw[hsub];exact λh=>h.elim (λh=>by omega) (λh=>h (Nat.mul_mod_left _ _)))]
 rw[e,zVB,hg,yZZ (by omega)]
 simp only[Option.bind_some,if_pos]
 obtain⟨p,f,r⟩:=u
 obtain⟨p',f',r'⟩:=t
 dsimp only at hp hf
 rw[hp,hf]
theorem zYS{t u:Tbl}(hu:zQi u=0)(hn:t.recs.length<=u.recs.length):(zXg u (zWI t.recs u.recs (max t.recs.length u.recs.length))).length<=650000:=by
 have hU:=zJt.of hu
 have fK:=hU.m300
 have hw:=hU.w2
 have hall:∀i ∈ (List.range (max t.recs.length u.recs.length)).filter (zVz t.recs u.recs),i<u.recs.length:=λi hi=>xJ1 hi hn
 have e:zXg u (zWI t.recs u.recs (max t.recs.length u.recs.length))=zZ5 u.recs.length 2 ++ ((List.range (max t.recs.length u.recs.length)).filter (zVz t.recs u.recs)).flatMap (yXR u):=zWM (t:=t) _ hall
 have hl:=yZH (t:=u) hu rfl hall
 have hc:((List.range (max t.recs.length u.recs.length)).filter (zVz t.recs u.recs)).length<=300:=Nat.le_trans (List.length_filter_le _ _) (by rw[List.length_range];omega)
 rw[e,List.length_append,zQx,hl]
 have:=Nat.mul_le_mul hc (show(zX0 u.fields).toNat+2<=2002 by omega)
 omega
theorem xKX {a b:List Rec} (h:zWI a b (max a.length b.length)=[]):a=b:=by
 unfold zWI at h
 have h1:=List.map_eq_nil_iff.1 h
 refine List.ext_getElem? λi=>?_
 by_cases hi:i<max a.length b.length
 ·by_cases hd:zVz a b i=true
  ·exact absurd (List.mem_filter.2 ⟨List.mem_range.2 hi,hd⟩) (by rw[h1];exact List.not_mem_nil)
  ·unfold zVz at hd
   simpa using hd
 ·rw[List.getElem?_eq_none (by omega),List.getElem?_eq_none (by omega)]
theorem xQ9(a:List Rec):zWI a a (max a.length a.length)=[]:=by
 unfold zWI
 rw[List.filter_eq_nil_iff.2 λi _=>by unfold zVz;simp]
 rfl
end Go.Proofs.YtaeecpjhfmcliaaGreatDoor
/- The log: a store with its files: what each call leaves; what files tell behind any fall. In plain words. No condition but those stated. -/
namespace Go.Proofs.YtaeecpjhfmcliaaGreatDoor
open Go.Sh Go.RowKit Tryz
def zXU(F:Fls)(W:List Wr)(n:Nat):Fls:=(W.take n).foldl zQK F
def lst(P:List Int)(n:Nat):Nat:=(P.takeWhile λp=>decide (p<=(n:Int))).length
theorem yZ8 {P:List Int} {n:Nat} (h:∀p ∈ P,p<=(n:Int)):lst P n=P.length:=by
 unfold lst
 induction P with
 | nil=>rfl
 | cons p P ih=>
  rw[List.takeWhile_cons,if_pos (decide_eq_true (h p List.mem_cons_self)),List.length_cons,List.length_cons,ih λq hq=>h q (List.mem_cons_of_mem _ hq)]
theorem yVM(P:List Int)(n:Nat):lst P n<=P.length:=List.IsPrefix.length_le (List.takeWhile_prefix _)
theorem xXc {P:List Int} {n:Nat} {q:Int} (h:(n:Int)<q):lst (P ++ [q]) n=lst P n:=by
 unfold lst
 have hq:decide (q<=(n:Int))=false:=by simp;omega
 induction P with
 | nil=>simp[hq]
 | cons p P ih=>
  rw[List.cons_append,List.takeWhile_cons,List.takeWhile_cons]
  split
  ·rw[List.length_cons,List.length_cons,ih]
  ·rfl
structure yZD(F:Fls)(W:List Wr)(P:List Int)(D:List Tbl):Prop where
 len:P.length+1=D.length
 le:∀p ∈ P,1<=p/\p<=(W.length:Int)
 asc:P.Pairwise (· < ·)
 at_:∀n,n<=W.length->∃t,D[lst P n]?=some t/\(zQW (zXU F W n)).1=some t
 mid:∀n x,W[n]?=some x->∀k,∃t,(zQW (zJu (zXU F W n) x k)).1=some t/\(D[lst P n]?=some t∨D[lst P (n+1)]?=some t)
 one:∀n,lst P (n+1)<=lst P n+1
 adj:∀(j:Nat) a b,D[j]?=some a->D[j+1]?=some b->a ≠ b
variable {F : Fls} {W : List Wr} {P : List Int} {D : List Tbl} {t t' : Tbl} {x : Wr}
theorem zZa(F:Fls)(W:List Wr)(x:Wr){n:Nat}(h:n<=W.length):zXU F (W ++ [x]) n=zXU F W n:=by
 unfold zXU;rw[List.take_append_of_le_length h]
theorem zJi(F:Fls)(W:List Wr)(x:Wr):zXU F (W ++ [x]) (W.length+1)=zQK (zXU F W W.length) x:=by
 unfold zXU
 rw[List.take_of_length_le (by simp),List.take_length,List.foldl_append]
 rfl
theorem yZD.lstW(h:yZD F W P D):lst P W.length=P.length:=yZ8 λp hp=>(h.le p hp).2
theorem yZD.start (h:(zQW F).1=some t):yZD F [] [] [t] where
 len:=rfl
 le:=λp hp=>absurd hp List.not_mem_nil
 asc:=List.Pairwise.nil
 at_:=λn hn=>⟨t,rfl,by rw[show n=0 by simpa using hn];exact h⟩
 mid:=λn x hx=>by simp at hx
 one:=λn=>by simp[lst]
 adj:=λj a b _ hb=>by simp at hb
theorem yZD.lastD(h:yZD F W P D)(hl:D.getLast?=some t):D[P.length]?=some t:=by
 rw[List.getLast?_eq_getElem?]at hl
 rw[←hl,←h.len];simp
theorem yZD.same (h:yZD F W P D) (hl:D.getLast?=some t) (hk:∀k,(zQW (zJu (zXU F W W.length) x k)).1=some t):yZD F (W ++ [x]) P D where
 len:=h.len
 le:=λp hp=>⟨(h.le p hp).1,by have:=(h.le p hp).2;rw[List.length_append,List.length_singleton];omega⟩
 asc:=h.asc
 at_:=λn hn=>by
  rw[List.length_append,List.length_singleton]at hn
  rcases Nat.lt_or_ge W.length n with h1|h1
  ·obtain rfl:n=W.length+1:=by omega
   refine⟨t,?_,?_⟩
   ·rw[yZ8 λp hp=>by have:=(h.le p hp).2;omega];exact h.lastD hl
   ·rw[zJi];exact hk _
  ·rw[zZa F W x h1];exact h.at_ n h1
 mid:=λn y hy k=>by
  rcases Nat.lt_trichotomy n W.length with h1|h1|h1
  ·rw[List.getElem?_append_left h1]at hy
   rw[zZa F W x (by omega)];exact h.mid n y hy k
  ·subst h1
   rw[List.getElem?_append_right (Nat.le_refl _),Nat.sub_self]at hy
   simp at hy;subst hy
   rw[zZa F W x (Nat.le_refl _)]
   exact⟨t,hk k,.inl (by rw[h.lstW];exact h.lastD hl)⟩
  ·rw[List.getElem?_eq_none (by rw[List.length_append,List.length_singleton];omega)]at hy;cases hy
 one:=h.one
 adj:=h.adj
theorem yZD.new (h:yZD F W P D) (hl:D.getLast?=some t) (hne:t ≠ t') (hw:(zQW (zQK (zXU F W W.length) x)).1=some t')
  (hk:∀k,(zQW (zJu (zXU F W W.length) x k)).1=some t∨(zQW (zJu (zXU F W W.length) x k)).1=some t'):yZD F (W ++ [x]) (P ++ [(W.length:Int)+1]) (D ++ [t']):=by
 have hlen:=h.len
 have hq:∀n,n<=W.length->lst (P ++ [(W.length:Int)+1]) n=lst P n:=λn hn=>xXc (by omega)
 have sR:∀n,W.length<n->lst (P ++ [(W.length:Int)+1]) n=P.length+1:=λn hn=>by
  rw[yZ8]
  ·simp
  ·intro p hp
   rcases List.mem_append.1 hp with hp|hp
   ·have:=(h.le p hp).2;omega
   ·rw[List.mem_singleton.1 hp];omega
 have hD:∀j,j<=P.length->(D ++ [t'])[j]?=D[j]?:=λj hj=>List.getElem?_append_left (by omega)
 have zu:(D ++ [t'])[P.length+1]?=some t':=by rw[List.getElem?_append_right (by omega),hlen,Nat.sub_self];rfl
 refine⟨by simp;omega,λp hp=>?_,?_,λn hn=>?_,λn y hy k=>?_,λn=>?_,λj a b ha hb=>?_⟩
 ·rw[List.length_append,List.length_singleton]
  rcases List.mem_append.1 hp with hp|hp
  ·have:=h.le p hp;omega
  ·rw[List.mem_singleton.1 hp];omega
 ·refine List.pairwise_append.2 ⟨h.asc,List.pairwise_singleton _ _,λa ha b hb=>?_⟩
  rw[List.mem_singleton.1 hb]
  have:=(h.le a ha).2
  omega
 ·rw[List.length_append,List.length_singleton]at hn
  rcases Nat.lt_or_ge W.length n with h1|h1
  ·obtain rfl:n=W.length+1:=by omega
   exact⟨t',by rw[sR _ h1];exact zu,by rw[zJi];exact hw⟩
  ·rw[zZa F W x h1,hq n h1,hD _ (yVM P n)];exact h.at_ n h1
 ·rcases Nat.lt_trichotomy n W.length with h1|h1|h1
  ·rw[List.getElem?_append_left h1]at hy
   rw[zZa F W x (by omega),hq n (by omega),hq (n+1) (by omega),hD _ (yVM P n),hD _ (yVM P _)];exact h.mid n y hy k
  ·subst h1
   rw[List.getElem?_append_right (Nat.le_refl _),Nat.sub_self]at hy
   simp at hy;subst hy
   rw[zZa F W x (Nat.le_refl _),hq _ (Nat.le_refl _),sR _ (Nat.lt_succ_self _),h.lstW,hD _ (Nat.le_refl _),zu,h.lastD hl]
   rcases hk k with h2|h2
   ·exact⟨t,h2,.inl rfl⟩
   ·exact⟨t',h2,.inr rfl⟩
  ·rw[List.getElem?_eq_none (by rw[List.length_append,List.length_singleton];omega)]at hy;cases hy
 ·rcases Nat.lt_trichotomy n W.length with h1|h1|h1
  ·rw[hq n (by omega),hq (n+1) (by omega)];exact h.one n
  ·subst h1;rw[hq _ (Nat.le_refl _),sR _ (Nat.lt_succ_self _),h.lstW];exact Nat.le_refl _
  ·rw[sR _ h1,sR _ (by omega)];omega
 ·by_cases hj:j+1<=P.length
  ·rw[hD _ (by omega)]at ha
   rw[hD _ hj]at hb
   exact h.adj j a b ha hb
  ·have jH:j+1<(D ++ [t']).length:=(List.getElem?_eq_some_iff.1 hb).1
   rw[List.length_append,List.length_singleton]at jH
   obtain rfl:j=P.length:=by omega
   rw[zu]at hb
   rw[hD _ (Nat.le_refl _),h.lastD hl]at ha
   cases ha;cases hb
   exact hne
structure Dat where
 σ:Sto
 first:Fls
 last:Fls
 wr:List Wr
 pts:List Int
def Dat.write(d:Dat)(x:Wr):Dat:={ d with wr:=d.wr ++ [x],last:=zQK d.last x }
def Dat.to(d:Dat)(σ:Sto):Dat:={ d with σ:=σ }
def Dat.rec_(d:Dat):Wr:=⟨1,d.last.2.length,zJ1 99 (zXg d.σ.t (zZF d.σ))⟩
def Dat.commit(d:Dat):Dat:=if d.σ.lev=[]/\d.σ.t ≠ d.σ.last then { d.write d.rec_ with σ:={ d.σ with done:=d.σ.done ++ [d.σ.t] },pts:=d.pts ++ [(d.wr.length:Int)+1] }else d
theorem Dat.commit_σ(d:Dat):d.commit.σ=yQu d.σ:=by
 unfold Dat.commit yQu
 split <;> rfl
def Dat.new(t:Tbl)(F:Fls):Dat:=⟨Sto.new t,F,F,[],[]⟩
def Dat.begin(d:Dat):Dat:=d.to (zKr d.σ)
def Dat.end_(d:Dat):Dat:=if d.σ.lev=[]then d else(d.to { d.σ with lev:=d.σ.lev.dropLast }).commit
def Dat.back(d:Dat):Dat:=d.to (yQJ d.σ)
def Dat.recs(d:Dat)(l:List Rec):Dat:=(d.to { d.σ with t:={ d.σ.t with recs:=l } }).commit
def Dat.app(d:Dat)(r:Rec):Dat:=if appC d.σ r=0 then d.recs (d.σ.t.recs ++ [r])else d
def Dat.put(d:Dat)(k:Int)(r:Rec):Dat:=if putC d.σ k r=0 then d.recs (d.σ.t.recs.set (k - 1).toNat r)else d
def Dat.set(d:Dat)(k:Int)(nm:ByteArray)(v:Val):Dat:=match yWA d.σ.t.fields nm with
 | none=>d
 | some i=>if zZX d.σ k/\(zKk (d.σ.t.fields.getD i default) d.σ.t.page v).2=0 then d.recs (d.σ.t.recs.modify (k - 1).toNat λr=>{ r with v:=r.v.set i (zKk (d.σ.t.fields.getD i default) d.σ.t.page v).1 })else d
def Dat.whole(d:Dat):Wr:=⟨1,d.last.2.length,zJ1 119 (zX3 d.σ.t)⟩
theorem Dat.recs_σ(d:Dat)(l:List Rec):(d.recs l).σ=yZO d.σ l:=Dat.commit_σ _
theorem Dat.end_σ(d:Dat):d.end_.σ=endS d.σ:=by
 unfold Dat.end_ endS
 split
 ·rfl
 ·exact Dat.commit_σ _
theorem Dat.set_σ(d:Dat)(k:Int)(nm:ByteArray)(v:Val):(d.set k nm v).σ=setS d.σ k nm v:=by
 unfold Dat.set setS
 cases yWA d.σ.t.fields nm with
 | none=>rfl
 | some i=>
  dsimp only
  split
  ·exact Dat.recs_σ _ _
  ·rfl
end Go.Proofs.YtaeecpjhfmcliaaGreatDoor
