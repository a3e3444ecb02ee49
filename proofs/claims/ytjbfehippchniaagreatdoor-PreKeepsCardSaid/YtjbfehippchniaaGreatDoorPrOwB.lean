import Derived.Test.YtjbfehippchniaaGreatDoorPrOwA
import Derived.Test.YtjbfehippchniaaGreatDoorPrPrA
import Derived.Test.YtjbfehippchniaaGreatDoorShTwentyFive
import Derived.Test.YtjbfehippchniaaGreatDoorShTwentyTwo
import Derived.Test.YtjbfehippchniaaGreatDoorShThirteen
import Derived.Test.YtjbfehippchniaaGreatDoorPxShelf
import Derived.Test.YtjbfehippchniaaGreatDoorShTwentySix
import Derived.Test.YtjbfehippchniaaGreatDoorShTwentySeven
/- Lex: the scanner's state, and how it goes over blanks, comments and lines that go on. No condition but those stated. -/
set_option maxRecDepth 100000
set_option linter.unusedVariables false
set_option linter.unusedSimpArgs false
namespace Go.Proofs.YtjbfehippchniaaGreatDoor
open Go.Sh Go.Sh.Lx Go.RowKit
def scF(d:List UInt8)(p:Nat)(l g:Bool)(bad:Int)(i:Nat):Value:=
  if i=0 then .string (bs d)else if i=1 then .int .i64 (p:Int)else if i=258 then .bool l else if i=259 then .bool g else if i=260 then .int .i64 bad else clsV (i - 2)
structure Sc(w0 w:World)(b:Nat)(d:List UInt8)(p:Nat)(l g:Bool)(bad:Int):Prop where
  since:Pu w0 w
  new:w0.heap.size<=b
  blk:w.heap[b]?=some (.cells (arrF 261 (scF d p l g bad)) 152)
  le:p<=d.length
  lim:d.length<=4000
variable {w0 w w' : World} {b p : Nat} {d : List UInt8} {l g : Bool} {bad : Int}
theorem Sc.pu(h:Sc w0 w b d p l g bad)(hp:Pu w w'):Sc w0 w' b d p l g bad:=⟨h.since.trans hp,h.new,hp.blk h.blk,h.le,h.lim⟩
theorem Sc.fr{B:Nat->Prop}(h:Sc w0 w b d p l g bad)(hf:Fr B w w')(h1:¬B b)(h2:∀i,B i->w0.heap.size<=i):Sc w0 w' b d p l g bad:=⟨Pu.andNew h.since hf h2,h.new,hf.blk h.blk h1,h.le,h.lim⟩
theorem Sc.s(h:Sc w0 w b d p l g bad):w.cell? (⟨b,0,none⟩:Addr)=some (.string (bs d)):=by rw[cl0 h.blk,arrF_get (by omega)];rfl
theorem Sc.at_(h:Sc w0 w b d p l g bad):w.cell? ((⟨b,0,none⟩:Addr).add 1)=some (.int .i64 (p:Int)):=by rw[cl h.blk,arrF_get (by omega)];rfl
theorem Sc.ln(h:Sc w0 w b d p l g bad):w.cell? ((⟨b,0,none⟩:Addr).add 258)=some (.bool l):=by rw[cl h.blk,arrF_get (by omega)];rfl
theorem Sc.bg(h:Sc w0 w b d p l g bad):w.cell? ((⟨b,0,none⟩:Addr).add 259)=some (.bool g):=by rw[cl h.blk,arrF_get (by omega)];rfl
theorem Sc.bd(h:Sc w0 w b d p l g bad):w.cell? ((⟨b,0,none⟩:Addr).add 260)=some (.int .i64 bad):=by rw[cl h.blk,arrF_get (by omega)];rfl
theorem Sc.cls(h:Sc w0 w b d p l g bad)(x:UInt8):w.cell? (((⟨b,0,none⟩:Addr).add 2).add (((x.toNat:Nat):Int).toNat * 1))=some (.int .u8 (clsN x.toNat:Nat)):=by
  have hx:=x.toNat_lt
  rw[add_def,add_def,cell_blk h.blk,arrF_get (by rw[toNat_i];omega),toNat_i]
  unfold scF
  rw[if_neg (by omega),if_neg (by omega),if_neg (by omega),if_neg (by omega),if_neg (by omega),show 0+2+x.toNat * 1 - 2=x.toNat by omega];rfl
theorem Sc.st (h:Sc w0 w b d p l g bad) {o:Nat} (ho:o<261) {v:Value} {p':Nat} {l' g':Bool} {bad':Int} (hle:p'<=d.length) (hs:(λj=>if j=o then v else scF d p l g bad j)=scF d p' l' g' bad') {K:World->Prop}
    (hK:∀w',Sc w0 w' b d p' l' g' bad'->Fr (·=b) w w'->K w'):st1 ((⟨b,0,none⟩:Addr).add o) v w K:=by
  rw[add_def,Nat.zero_add]
  refine st1_intro h.blk (by rw[arrF_size];exact ho) λw' hw' hb'=>?_
  rw[arrF_set,hs]at hb'
  have hf:Fr (·=b) w w':=by rw[hw'];exact Fr.setCell w ⟨b,o,none⟩ v
  exact hK w' ⟨Pu.andNew h.since hf (λi hi=>by rw[show i=b from hi];exact h.new),h.new,hb',hle,h.lim⟩ hf
theorem Sc.st_at (h:Sc w0 w b d p l g bad) {p':Nat} (hle:p'<=d.length) {n:Int} (hn:n=(p':Int)) {K:World->Prop} (hK:∀w',Sc w0 w' b d p' l g bad->Fr (·=b) w w'->K w'):ptrE (some (⟨b,0,none⟩:Addr)) λa=>st1 (a.add 1) (.int .i64 n) w K:=by
  subst hn
  show st1 _ _ _ _
  refine h.st (by omega) hle ?_ hK
  funext j;unfold scF
  by_cases e:j=1
  · subst e;rfl
  · simp only[if_neg e]
theorem Sc.st_ln (h:Sc w0 w b d p l g bad) {l':Bool} {K:World->Prop} (hK:∀w',Sc w0 w' b d p l' g bad->Fr (·=b) w w'->K w'):ptrE (some (⟨b,0,none⟩:Addr)) λa=>st1 (a.add 258) (.bool l') w K:=by
  show st1 _ _ _ _
  refine h.st (by omega) h.le ?_ hK
  funext j;unfold scF
  by_cases e:j=258
  · subst e;rfl
  · simp only[if_neg e]
theorem Sc.st_bg (h:Sc w0 w b d p l g bad) {g':Bool} {K:World->Prop} (hK:∀w',Sc w0 w' b d p l g' bad->Fr (·=b) w w'->K w'):ptrE (some (⟨b,0,none⟩:Addr)) λa=>st1 (a.add 259) (.bool g') w K:=by
  show st1 _ _ _ _
  refine h.st (by omega) h.le ?_ hK
  funext j;unfold scF
  by_cases e:j=259
  · subst e;rfl
  · simp only[if_neg e]
theorem Sc.st_bd (h:Sc w0 w b d p l g bad) {bad':Int} {K:World->Prop} (hK:∀w',Sc w0 w' b d p l g bad'->Fr (·=b) w w'->K w'):ptrE (some (⟨b,0,none⟩:Addr)) λa=>st1 (a.add 260) (.int .i64 bad') w K:=by
  show st1 _ _ _ _
  refine h.st (by omega) h.le ?_ hK
  funext j;unfold scF
  by_cases e:j=260
  · subst e;rfl
  · simp only[if_neg e]
theorem frb (h:Fr (·=b) w w') {w2:World} (k:Fr (·=b) w' w2):Fr (·=b) w w2:=h.trans k λ_ hi _=>hi
theorem frp (h:Fr (·=b) w w') {w2:World} (k:Pu w' w2):Fr (·=b) w w2:=h.trans (Fr.pu k:Fr (·=b) w' w2) λ_ hi _=>hi
theorem pfr (h:Pu w w') {w2:World} (k:Fr (·=b) w' w2):Fr (·=b) w w2:=(Fr.pu h:Fr (·=b) w w').trans k λ_ hi _=>hi
def clsAt(d:List UInt8)(k c:Nat):Bool:=match d[k]? with
  | some x=>decide (clsN x.toNat=c)
  | none=>false
theorem is_c(h:Sc w0 w b d p l g bad)(k c:Nat):Calls Tryz.prog 187 #[.pointer (some ⟨b,0,none⟩),.int .i64 (k:Int),.int .u8 (c:Int)] w λe w'=>e=.returned (.bool (clsAt d k c))/\Pu w w':=by
  refine F187_calls _ _ _ w _ (dwE_intro λw1 hp1 _=>⟨_,(h.pu hp1).s,Br.of (λq=>⟨_,(h.pu hp1).s,?_⟩) (λq=>⟨?_,hp1⟩)⟩)
  · have q:=dtrue q
    rw[bs_size_i]at q
    obtain⟨x,hx⟩:=at_k (l:=d) (k:=k) (by omega)
    have hlt:=x.toNat_lt
    refine⟨x,by omega,by rw[toNat_i];exact bs_get hx,by omega,by omega,_,(h.pu hp1).cls x,?_,hp1⟩
    unfold clsAt
    rw[hx]
    congr 2
    show((clsN x.toNat:Int) == (c:Int))=decide (clsN x.toNat=c)
    rw[beq_dec];exact dec_eq (by omega)
  · have q:=dfalse q
    rw[bs_size_i]at q
    unfold clsAt
    rw[List.getElem?_eq_none (by omega)]
theorem clsAt_blk(d:List UInt8)(k:Nat):clsAt d k 3=match d[k]? with|some x=>blkB x|none=>false:=by
  unfold clsAt;cases d[k]? with
  | none=>rfl
  | some x=>exact(cls_b x).1
theorem clsAt_let(d:List UInt8)(k:Nat):clsAt d k 1=match d[k]? with|some x=>letB x|none=>false:=by
  unfold clsAt;cases d[k]? with
  | none=>rfl
  | some x=>exact(cls_b x).2.1
theorem clsAt_dig(d:List UInt8)(k:Nat):clsAt d k 2=match d[k]? with|some x=>digB x|none=>false:=by
  unfold clsAt;cases d[k]? with
  | none=>rfl
  | some x=>exact(cls_b x).2.2.1
theorem clsAt_wr(d:List UInt8)(k:Nat):clsAt d k 4=match d[k]? with|some x=>!isB x|none=>false:=by
  unfold clsAt;cases d[k]? with
  | none=>rfl
  | some x=>exact(cls_b x).2.2.2
theorem head_test {f:UInt8->Bool} {d:List UInt8} {p k:Nat} (hk:k<=((d.drop p).takeWhile f).length):(match d[p+k]? with|some x=>f x|none=>false)=decide (k<((d.drop p).takeWhile f).length):=by
  by_cases h:k<((d.drop p).takeWhile f).length
  · obtain⟨x,hx,hf⟩:=tw_lt h
    rw[get_drop]at hx
    rw[hx,decide_eq_true h];exact hf
  · have e:k=((d.drop p).takeWhile f).length:=by omega
    rw[decide_eq_false h]
    cases hx:d[p+k]? with
    | none=>rfl
    | some x=>exact tw_end (l:=d.drop p) (by rw[←e,get_drop];exact hx)
theorem tw_drop_le(f:UInt8->Bool)(d:List UInt8)(p:Nat)(hp:p<=d.length):p+((d.drop p).takeWhile f).length<=d.length:=by
  have:=tw_le f (d.drop p)
  rw[List.length_drop]at this;omega
def blkN(r:List UInt8):Nat:=(r.takeWhile blkB).length
theorem skip_c(h:Sc w0 w b d p l g bad):Calls Tryz.prog 166 #[.pointer (some ⟨b,0,none⟩)] w λe w'=>e=.returned (.tuple #[])/\Sc w0 w' b d (p+blkN (d.drop p)) l g bad/\Fr (·=b) w w':=by
  have hle:=tw_drop_le blkB d p h.le
  have hlim:=h.lim
  refine F166_calls _ w _ (loopUp (blkN (d.drop p)) (λk _ w'=>Sc w0 w' b d (p+k) l g bad/\Fr (·=b) w w') ⟨h,Fr.refl _ _⟩ ?_)
  rintro k J _ w1 hk ⟨h1,hf1⟩ hJ
  have ht:=head_test (f:=blkB) (d:=d) (p:=p) hk
  refine⟨_,h1.at_,(is_c h1 (p+k) 3).mono ?_⟩
  rintro e w2 ⟨rfl,hp2⟩
  rw[clsAt_blk,ht]
  have h2:=h1.pu hp2
  refine⟨_,rfl,Br.of (λq=>?_) (λq=>?_)⟩
  · have q:=dtrue q
    refine⟨_,h2.at_,h2.st_at (p':=p+(k+1)) (by unfold blkN at *;omega) (by rw[wrap_in (by omega) (by omega)];omega) λw3 h3 hf3=>hJ _ _ q ⟨h3,frb (frp hf1 hp2) hf3⟩⟩
  · have q:=dfalse q
    have e:k=blkN (d.drop p):=by unfold blkN at *;omega
    subst e
    exact⟨rfl,h2,frp hf1 hp2⟩
theorem nl_iff(b:UInt8):(!decide (b=(10:UInt8)))=!nlB b:=by
  unfold nlB
  congr 1
  exact dec_eq ⟨λh=>by rw[h];rfl,λh=>UInt8.toNat_inj.1 h⟩
theorem lineOf_eq(r:List UInt8):(r.takeWhile λb=>!decide (b=(10:UInt8)))=lineOf r:=by
  unfold lineOf
  congr 1
  funext b;exact nl_iff b
def lnN(r:List UInt8):Nat:=(lineOf r).length
theorem lnN_le(r:List UInt8):lnN r<=r.length:=tw_le _ r
theorem lineEnd_c(h:Sc w0 w b d p l g bad){q:Nat}(hq:q<=d.length):Calls Tryz.prog 188 #[.pointer (some ⟨b,0,none⟩),.int .i64 (q:Int)] w λe w'=>e=.returned (.int .i64 ((q+lnN (d.drop q):Nat):Int))/\w'=w:=by
  have hlim:=h.lim
  have hl:=lnN_le (d.drop q)
  rw[List.length_drop]at hl
  refine F188_calls _ _ w _ ⟨_,h.s,Nat.le_refl _,by omega,by rw[bs_size,toNat_i];exact hq,?_⟩
  rw[toNat_i,extract_drop]
  refine(indexByte_c (d.drop q) 10 w).mono ?_
  rintro e w1 ⟨rfl,rfl⟩
  have hi:=indexByte_tw 10 (d.drop q)
  rw[lineOf_eq]at hi
  have e10:((10:Int).toNat.toUInt8)=(10:UInt8):=rfl
  rw[e10,hi]
  refine⟨_,rfl,?_⟩
  show Br (decide ((if lnN (d.drop q)<(d.drop q).length then((lnN (d.drop q):Nat):Int)else -1) ≥ 0)) _ _
  by_cases hlt:lnN (d.drop q)<(d.drop q).length
  · rw[if_pos hlt]
    refine Br.t (decide_eq_true (by omega)) ⟨?_,rfl⟩
    rw[show(if (lineOf (d.drop q)).length<(d.drop q).length then(((lineOf (d.drop q)).length:Nat):Int)else -1)=((lnN (d.drop q):Nat):Int)from if_pos hlt]
    rw[wrap_in (by omega) (by omega)]
    congr 3
  · rw[if_neg hlt]
    refine Br.f (decide_eq_false (by omega)) ⟨_,h.s,?_,rfl⟩
    rw[bs_size_i]
    congr 3
    rw[List.length_drop]at hlt
    omega
end Go.Proofs.YtjbfehippchniaaGreatDoor

/- Lex: how the scanner goes over comments, over lines that go on, and over ends of lines. No condition but those stated. -/
set_option maxRecDepth 100000
set_option linter.unusedVariables false
set_option linter.unusedSimpArgs false
namespace Go.Proofs.YtjbfehippchniaaGreatDoor
open Go.Sh Go.Sh.Lx Go.RowKit
variable {w0 w w' : World} {b p : Nat} {d : List UInt8} {l g : Bool} {bad : Int}
theorem badAt_of {l:List UInt8} {i:Nat} {x:UInt8} (hx:l[i]?=some x) (hb:isB x=false) (hall:∀j,j<i->∀y,l[j]?=some y->isB y=true):badAt l=some i:=by
  unfold badAt
  rw[List.findIdx?_eq_some_iff_getElem]
  obtain⟨h1,h2⟩:=List.getElem?_eq_some_iff.1 hx
  refine⟨h1,by rw[h2,hb];rfl,λj hj=>?_⟩
  have:=hall j hj _ (List.getElem?_eq_getElem (by omega))
  rw[this];simp
theorem badAt_none {l:List UInt8} (hall:∀(j:Nat) (y:UInt8),l[j]?=some y->isB y=true):badAt l=none:=by
  unfold badAt
  rw[List.findIdx?_eq_none_iff]
  intro x hx
  obtain⟨j,hj⟩:=List.mem_iff_getElem?.1 hx
  rw[hall j x hj];rfl
theorem badAt_cons_ok{x:UInt8}{l:List UInt8}(h:isB x=true):badAt (x :: l)=(badAt l).map (· + 1):=by
  unfold badAt
  rw[List.findIdx?_cons,h];rfl
theorem lineOf_get{r:List UInt8}{k:Nat}(hk:k<lnN r):(lineOf r)[k]?=r[k]?:=by
  have h:(r.take (lnN r))[k]?=r[k]?:=by rw[List.getElem?_take,if_pos hk]
  rw[←h];congr 1
  exact(tw_take _ r).symm
theorem comment_c(h:Sc w0 w b d p l g bad):Calls Tryz.prog 168 #[.pointer (some ⟨b,0,none⟩)] w λe w'=>Fr (·=b) w w'/\match badAt (lineOf (d.drop p))with
    | some i=>e=.returned (.bool false)/\Sc w0 w' b d (p+i) l g ((p+i:Nat):Int)
    | none=>e=.returned (.bool true)/\Sc w0 w' b d (p+lnN (d.drop p)) l g bad:=by
  have hle:=lnN_le (d.drop p)
  rw[List.length_drop]at hle
  have hlim:=h.lim
  have hpl:=h.le
  refine F168_calls _ w _ ⟨_,h.at_,(lineEnd_c h h.le).mono ?_⟩
  rintro e w1 ⟨rfl,rfl⟩
  refine⟨_,rfl,loopUp (lnN (d.drop p)) (λk _ w'=>Sc w0 w' b d (p+k) l g bad/\Fr (·=b) w1 w'/\∀j,j<k->∀y,(lineOf (d.drop p))[j]?=some y->isB y=true) ⟨h,Fr.refl _ _,λj hj=>by omega⟩ ?_⟩
  rintro k J _ w2 hk ⟨h2,hf2,hall⟩ hJ
  refine⟨_,h2.at_,Br.of (λq=>?_) (λq=>?_)⟩
  · have q:=dtrue q
    have hk2:k<lnN (d.drop p):=by omega
    obtain⟨x,hx⟩:=at_k (l:=d) (k:=p+k) (by omega)
    have hgx:(lineOf (d.drop p))[k]?=some x:=by rw[lineOf_get hk2,get_drop];exact hx
    refine⟨_,h2.at_,(is_c h2 (p+k) 4).mono ?_⟩
    rintro e w3 ⟨rfl,hp3⟩
    have h3:=h2.pu hp3
    have hc:clsAt d (p+k) 4=!isB x:=by rw[clsAt_wr,hx]
    rw[hc]
    refine⟨_,rfl,Br.of (λq2=>?_) (λq2=>?_)⟩
    · have hb:isB x=false:=by simpa using q2
      refine⟨_,h3.at_,h3.st_bd λw4 h4 hf4=>⟨frb (frp hf2 hp3) hf4,?_⟩⟩
      rw[badAt_of hgx hb hall]
      exact⟨rfl,h4⟩
    · have hb:isB x=true:=by simpa using q2
      refine⟨_,h3.at_,h3.st_at (p':=p+(k+1)) (by omega) (by rw[wrap_in (by omega) (by omega)];omega) λw4 h4 hf4=>hJ _ _ hk2 ⟨h4,frb (frp hf2 hp3) hf4,λj hj y hy=>?_⟩⟩
      by_cases e:j=k
      · subst e;rw[hgx]at hy;cases hy;exact hb
      · exact hall j (by omega) y hy
  · have q:=dfalse q
    have e:k=lnN (d.drop p):=by omega
    subst e
    refine⟨hf2,?_⟩
    rw[badAt_none λj y hy=>hall j (by have:=(List.getElem?_eq_some_iff.1 hy).1;exact this) y hy]
    exact⟨rfl,h2⟩
theorem blk_isB{x:UInt8}(h:blkB x=true):isB x=true/\nlB x=false:=by
  have:∀n:Nat,n<256->blkB (UInt8.ofNat n)=true->isB (UInt8.ofNat n)=true/\nlB (UInt8.ofNat n)=false:=by decide +kernel
  have h2:=this x.toNat x.toNat_lt
  rw[UInt8.ofNat_toNat]at h2
  exact h2 h
theorem lnN_blk:∀r:List UInt8,lnN r=blkN r+lnN (r.drop (blkN r))/\badAt (lineOf r)=(badAt (lineOf (r.drop (blkN r)))).map (· + blkN r)
  | []=>⟨rfl,rfl⟩
  | x :: r=>by
    obtain⟨i1,i2⟩:=lnN_blk r
    by_cases hx:blkB x=true
    · obtain⟨h1,h2⟩:=blk_isB hx
      have e1:blkN (x :: r)=blkN r+1:=by unfold blkN;rw[List.takeWhile_cons,if_pos hx];rfl
      have e2:lineOf (x :: r)=x :: lineOf r:=by unfold lineOf;rw[List.takeWhile_cons,if_pos (by rw[h2];rfl)]
      have e3:lnN (x :: r)=lnN r+1:=by unfold lnN;rw[e2];rfl
      rw[e3,e2,e1,List.drop_succ_cons,badAt_cons_ok h1,i2]
      refine⟨by omega,?_⟩
      cases badAt (lineOf (r.drop (blkN r))) <;> rfl
    · have e1:blkN (x :: r)=0:=by unfold blkN;rw[List.takeWhile_cons,if_neg hx];rfl
      rw[e1,List.drop_zero]
      refine⟨by omega,?_⟩
      cases badAt (lineOf (x :: r)) <;> rfl
theorem goesB_eq(r:List UInt8):goesB r=match r.drop (blkN r)with
    | []=>true
    | b :: t=>nlB b || ampB (b :: t):=by
  unfold goesB blkN
  have h:=tw_drop blkB r
  generalize r.drop (r.takeWhile blkB).length=z at h ⊢
  subst h
  cases List.dropWhile blkB r <;> rfl
theorem ampB_take(l:List UInt8):decide (l.take 2=[38,38])=ampB l:=by
  match l with
  | []=>rfl
  | [a]=>simp[ampB]
  | a :: b :: t=>
    show _=(decide (a.toNat=38) && decide (b.toNat=38))
    rw[←Bool.decide_and]
    apply dec_eq
    simp only[List.take_succ_cons,List.take_zero,List.cons.injEq,and_true]
    constructor
    · rintro⟨rfl,rfl⟩;exact⟨rfl,rfl⟩
    · rintro⟨h1,h2⟩;exact⟨UInt8.toNat_inj.1 h1,UInt8.toNat_inj.1 h2⟩
theorem amp_c(r:List UInt8)(w:World):Calls Tryz.prog 41 #[.string (bs r),.string (⟨#[38,38]⟩:ByteArray)] w λe w'=>e=.returned (.bool (ampB r))/\w'=w:=by
  refine(hasPrefix_c r [38,38] w).mono ?_
  rintro e w' ⟨rfl,rfl⟩
  refine⟨?_,rfl⟩
  rw[←ampB_take];rfl
def goN(r:List UInt8):Nat:=if lnN r<r.length then lnN r+1 else lnN r
theorem goN_le(r:List UInt8):goN r<=r.length:=by unfold goN;have:=lnN_le r;split <;> omega
theorem continues_c{x:UInt8}{r:List UInt8}(h:Sc w0 w b d p l g bad)(hd:d.drop p=x :: r):Calls Tryz.prog 169 #[.pointer (some ⟨b,0,none⟩)] w λe w'=>Fr (·=b) w w'/\
    if goesB r=false then e=.returned (.tuple #[.bool false,.bool true])/\Sc w0 w' b d p l g bad else match badAt (lineOf r)with
    | some i=>∃p',e=.returned (.tuple #[.bool true,.bool false])/\Sc w0 w' b d p' l g ((p+1+i:Nat):Int)
    | none=>e=.returned (.tuple #[.bool true,.bool true])/\Sc w0 w' b d (p+1+goN r) l g bad:=by
  have hlim:=h.lim
  have hdl:(d.drop p).length=r.length+1:=by rw[hd];rfl
  rw[List.length_drop]at hdl
  have hr:d.drop (p+1)=r:=by rw[←List.drop_drop,hd];rfl
  obtain⟨hln,hbd⟩:=lnN_blk r
  have hm:blkN r<=r.length:=tw_le blkB r
  obtain⟨m,hmm⟩:∃m,m=blkN r:=⟨_,rfl⟩
  rw[←hmm]at hln hbd hm
  have hrm:d.drop (p+1+m)=r.drop m:=by rw[←hr,List.drop_drop]
  have hlnm:=lnN_le (r.drop m)
  rw[List.length_drop]at hlnm
  refine F169_calls _ w _ ⟨_,h.at_,?_⟩
  rw[wrap_in (by omega) (by omega)]
  have fin:∀{w2:World},Sc w0 w2 b d (p+1+lnN r) l g bad->Fr (·=b) w w2->badAt (lineOf r)=none->F169_1 (λe w'=>Fr (·=b) w w'/\if goesB r=false then e=.returned (.tuple #[.bool false,.bool true])/\Sc w0 w' b d p l g bad else match badAt (lineOf r)with
      | some i=>∃p',e=.returned (.tuple #[.bool true,.bool false])/\Sc w0 w' b d p' l g ((p+1+i:Nat):Int)
      | none=>e=.returned (.tuple #[.bool true,.bool true])/\Sc w0 w' b d (p+1+goN r) l g bad) (some ⟨b,0,none⟩) [] w2∨goesB r=false:=λ{w2} h2 hf2 hn=>by
    by_cases hg:goesB r=false
    · exact .inr hg
    · refine .inl (dwE_intro λw3 hp3 _=>?_)
      have h3:=h2.pu hp3
      refine⟨_,h3.at_,_,h3.s,Br.of (λq=>?_) (λq=>?_)⟩
      · have q:=dtrue q
        rw[bs_size_i]at q
        refine⟨_,h3.at_,h3.st_at (p':=p+1+(lnN r+1)) (by omega) (by rw[wrap_in (by omega) (by omega)];omega) λw4 h4 hf4=>⟨frb (frp hf2 hp3) hf4,?_⟩⟩
        rw[if_neg hg,hn]
        refine⟨rfl,?_⟩
        unfold goN;rw[if_pos (by omega)];exact h4
      · have q:=dfalse q
        rw[bs_size_i]at q
        refine⟨frp hf2 hp3,?_⟩
        rw[if_neg hg,hn]
        refine⟨rfl,?_⟩
        unfold goN;rw[if_neg (by omega)];exact h3
  -- the comment, from behind the blanks
  have com:∀{w2 w3:World} (hg:goesB r=true) {e:Ending},Fr (·=b) w w2->(Fr (·=b) w2 w3/\match badAt (lineOf (d.drop (p+1+m)))with
      | some i=>e=.returned (.bool false)/\Sc w0 w3 b d (p+1+m+i) l g ((p+1+m+i:Nat):Int)
      | none=>e=.returned (.bool true)/\Sc w0 w3 b d (p+1+m+lnN (d.drop (p+1+m))) l g bad)->
      ∃b49:Bool,e=.returned (.bool b49)/\Br (!b49) (Fr (·=b) w w3/\if goesB r=false then Ending.returned (.tuple #[.bool true,.bool false])=.returned (.tuple #[.bool false,.bool true])/\Sc w0 w3 b d p l g bad else match badAt (lineOf r)with
      | some i=>∃p',Ending.returned (.tuple #[.bool true,.bool false])=.returned (.tuple #[.bool true,.bool false])/\Sc w0 w3 b d p' l g ((p+1+i:Nat):Int)
      | none=>Ending.returned (.tuple #[.bool true,.bool false])=.returned (.tuple #[.bool true,.bool true])/\Sc w0 w3 b d (p+1+goN r) l g bad) (F169_1 (λe w'=>Fr (·=b) w w'/\if goesB r=false then e=.returned (.tuple #[.bool false,.bool true])/\Sc w0 w' b d p l g bad else match badAt (lineOf r)with
      | some i=>∃p',e=.returned (.tuple #[.bool true,.bool false])/\Sc w0 w' b d p' l g ((p+1+i:Nat):Int)
      | none=>e=.returned (.tuple #[.bool true,.bool true])/\Sc w0 w' b d (p+1+goN r) l g bad) (some ⟨b,0,none⟩) [] w3):=λ{w2 w3} hg {e} hf2 ⟨hf3,hm3⟩=>by
    rw[hrm]at hm3
    have hng:¬goesB r=false:=by rw[hg];simp
    cases hb:badAt (lineOf (r.drop m))with
    | some i=>
      rw[hb]at hm3 hbd
      obtain⟨rfl,h3⟩:=hm3
      refine⟨_,rfl,⟨frb hf2 hf3,?_⟩⟩
      rw[if_neg hng,hbd]
      exact⟨_,rfl,by rw[show p+1+(i+m)=p+1+m+i by omega];exact h3⟩
    | none=>
      rw[hb]at hm3 hbd
      obtain⟨rfl,h3⟩:=hm3
      refine⟨_,rfl,(fin (by rw[hln,←Nat.add_assoc];exact h3) (frb hf2 hf3) hbd).resolve_right hng⟩
  refine loopUp m (λk t w'=>t=((p+1+k:Nat):Int)/\Sc w0 w' b d p l g bad/\Fr (·=b) w w') ⟨by omega,h,Fr.refl _ _⟩ ?_
  rintro k J t w1 hk ⟨rfl,h1,hf1⟩ hJ
  have ht:=head_test (f:=blkB) (d:=d) (p:=p+1) (k:=k) (by rw[hr];show k<=blkN r;omega)
  refine(is_c h1 (p+1+k) 3).mono ?_
  rintro e w2 ⟨rfl,hp2⟩
  rw[clsAt_blk,ht,hr]
  have h2:=h1.pu hp2
  have hf2:=frp hf1 hp2
  refine⟨_,rfl,Br.of (λq=>?_) (λq=>?_)⟩
  · have q:k<blkN r:=dtrue q
    rw[wrap_in (by omega) (by omega)]
    exact hJ _ _ (by omega) ⟨by omega,h2,hf2⟩
  · have q:¬k<blkN r:=dfalse q
    obtain rfl:k=m:=by omega
    have hgo:=goesB_eq r
    rw[←hmm]at hgo
    refine⟨_,h2.s,Br.of (λq1=>?_) (λq1=>?_)⟩
    · have q1:=btrue q1
      rw[bs_size_i]at q1
      have hnil:r.drop k=[]:=List.drop_eq_nil_of_le (by omega)
      rw[hnil]at hgo
      exact h2.st_at (p':=p+1+k) (by omega) rfl λw3 h3 hf3=>(comment_c h3).mono λe w4 h4=>com hgo (frb hf2 hf3) h4
    · have q1:=bfalse q1
      rw[bs_size_i]at q1
      obtain⟨y,hy⟩:=at_k (l:=d) (k:=p+1+k) (by omega)
      have hyr:r.drop k=y :: r.drop (k+1):=by
        rw[←hrm,drop_at hy,←hr,List.drop_drop];congr 2
      rw[hyr]at hgo
      have hgo:goesB r=(nlB y || ampB (y :: r.drop (k+1))):=hgo
      have hy10:(((y.toNat:Nat):Int) == 10)=nlB y:=by rw[beq_dec];unfold nlB;exact dec_eq (by omega)
      refine⟨_,h2.s,y,by omega,by rw[toNat_i];exact bs_get hy,?_⟩
      rw[hy10]
      refine Br.of (λq2=>?_) (λq2=>?_)
      · have q2:nlB y=false:=by simpa using q2
        refine⟨_,h2.s,Nat.le_refl _,by omega,by rw[toNat_i,bs_size];omega,?_⟩
        rw[toNat_i,extract_drop,hrm]
        refine(amp_c _ w2).mono ?_
        rintro e w3 ⟨rfl,rfl⟩
        rw[hyr]
        have hgo:goesB r=ampB (y :: r.drop (k+1)):=by rw[hgo,q2,Bool.false_or]
        refine⟨_,rfl,Br.of (λq3=>?_) (λq3=>?_)⟩
        · have q3:ampB (y :: r.drop (k+1))=false:=by simpa using q3
          rw[q3]at hgo
          refine⟨hf2,?_⟩
          rw[if_pos hgo]
          exact⟨rfl,h2⟩
        · have q3:ampB (y :: r.drop (k+1))=true:=by simpa using q3
          rw[q3]at hgo
          exact h2.st_at (p':=p+1+k) (by omega) rfl λw3 h3 hf3=>(comment_c h3).mono λe w4 h4=>com hgo (frb hf2 hf3) h4
      · have q2:nlB y=true:=by simpa using q2
        have hgo:goesB r=true:=by rw[hgo,q2,Bool.true_or]
        exact h2.st_at (p':=p+1+k) (by omega) rfl λw3 h3 hf3=>(comment_c h3).mono λe w4 h4=>com hgo (frb hf2 hf3) h4
end Go.Proofs.YtjbfehippchniaaGreatDoor

/- Lex: days, dates and numbers that are read from texts, by both packages (out of the table's texts, by lxdate.py). No condition. -/
set_option maxRecDepth 100000
set_option linter.unusedVariables false
set_option linter.unusedSimpArgs false
namespace Go.Proofs.YtjbfehippchniaaGreatDoor
open Go.Sh Go.RowKit
theorem trimS_nil(l cs:List UInt8):Lib.trimS l cs=[] ↔ l.all (cs.contains ·)=true:=by
  unfold Lib.trimS Lib.trimLeftS Lib.trimRightS
  rw[dropWhile_nil]
  have:((l.reverse.dropWhile (cs.contains ·)).reverse).all (cs.contains ·)=(l.reverse.dropWhile (cs.contains ·)).all (cs.contains ·):=List.all_reverse
  rw[this,dropWhile_all,List.all_reverse]
theorem u110:(Tryz.prog.info? 133).map (λi=>(i.zero,i.size))=some (some (.agg (Array.replicate 256 (.bool false))),256):=by kernel_rfl
theorem isDigit_c(b:UInt8)(w:World):Calls Tryz.prog 28 #[.int .u8 ((b.toNat:Nat):Int)] w λe w'=>e=.returned (.bool (digB b))/\Pu w w':=by
  refine F28_calls _ w _ (Br.of (λd=>?_) (λd=>?_))
  · refine⟨?_,Pu.refl w⟩
    unfold digB;have:=dtrue d;rw[decide_eq_true (show 48<=b.toNat by omega),Bool.true_and]
    congr 2;simp only[decide_eq_decide];omega
  · refine⟨?_,Pu.refl w⟩
    unfold digB;have:=dfalse d;rw[decide_eq_false (show ¬48<=b.toNat by omega)];rfl
theorem min_run(ts:Array TypeId)(r:TypeId)(k:IntKind)(a b:Int)(w:World):(Builtin.min_ ts r #[.int k a,.int k b]).run Tryz.prog w=.ok (.int k (min a b)) w:=by
  rw[run_min_int2];congr 2;omega
theorem leap_c(n:Nat)(w:World):Calls Tryz.prog 210 #[.int .i64 (n:Int)] w λe w'=>e=.returned (.bool (leapN n))/\Pu w w':=by
  have e4:(n:Int).tmod 4=((n % 4:Nat):Int):=tmod_nat n 4
  have e100:(n:Int).tmod 100=((n % 100:Nat):Int):=tmod_nat n 100
  have e400:(n:Int).tmod 400=((n % 400:Nat):Int):=tmod_nat n 400
  refine F210_calls _ w _ ⟨rfl,by decide,Br.of (λd=>⟨rfl,by decide,Br.of (λd1=>⟨?_,Pu.refl w⟩) (λd1=>⟨rfl,by decide,?_,Pu.refl w⟩)⟩) (λd=>⟨?_,Pu.refl w⟩)⟩
  · have d:=btrue d;have d1:=bntrue d1
    rw[show leapN n=true from by unfold leapN;rw[decide_eq_true (show n % 4=0 by omega),decide_eq_true (show n % 100 ≠ 0 by omega)];rfl]
  · have d:=btrue d;have d1:=bnfalse d1
    rw[beq_dec,show leapN n=decide (n % 400=0)from by unfold leapN;rw[decide_eq_false (show ¬n % 100 ≠ 0 by omega),Bool.and_false,Bool.false_or]]
    congr 2;simp only[decide_eq_decide];omega
  · have d:=bfalse d
    rw[show leapN n=false from by unfold leapN;rw[decide_eq_false (show ¬n % 4=0 by omega),decide_eq_false (show ¬n % 400=0 by omega)];rfl]
theorem s184:sizeB Tryz.prog 233=12:=by kernel_rfl
def md12:Array Value:=#[.int .i64 31,.int .i64 28,.int .i64 31,.int .i64 30,.int .i64 31,.int .i64 30,.int .i64 31,.int .i64 31,.int .i64 30,.int .i64 31,.int .i64 30,.int .i64 31]
theorem md_at{m:Nat}(h:1<=m/\m<=12):md12[m - 1]?=some (.int .i64 ((if m=2 then 28 else if m=4∨m=6∨m=9∨m=11 then 30 else 31:Nat):Int)):=by
  rcases(by omega:m=1∨m=2∨m=3∨m=4∨m=5∨m=6∨m=7∨m=8∨m=9∨m=10∨m=11∨m=12)with rfl|rfl|rfl|rfl|rfl|rfl|rfl|rfl|rfl|rfl|rfl|rfl <;> rfl
theorem monthDays_c(y m:Nat)(h:1<=m/\m<=12)(w:World):Calls Tryz.prog 207 #[.int .i64 (y:Int),.int .i64 (m:Int)] w λe w'=>e=.returned (.int .i64 (mdays y m:Nat))/\Pu w w':=by
  refine F207_calls _ _ w _ (boxA rfl s184.symm rfl λw1 hp1 _ hb1=>?_)
  rw[wrap_in (n:=(m:Int) - 1) (by omega) (by omega)]
  have em:((m:Int) - 1).toNat * 1=m - 1:=by omega
  have hc:∀{wz:World},Pu w1 wz->wz.cell? ((⟨w.heap.size,0,none⟩:Addr).add (((m:Int) - 1).toNat * 1))=some (.int .i64 ((if m=2 then 28 else if m=4∨m=6∨m=9∨m=11 then 30 else 31:Nat):Int)):=λ{wz} hz=>by
    rw[em,cl (hz.blk hb1)];exact md_at h
  refine Br.of (λd=>(leap_c y w1).mono ?_) (λd=>⟨by omega,by omega,_,hc (Pu.refl _),?_,hp1⟩)
  · have d:=btrue d
    have d:m=2:=by omega
    rintro e w2 ⟨rfl,hp2⟩
    refine⟨_,rfl,Br.of (λd1=>⟨?_,hp1.trans hp2⟩) (λd1=>⟨by omega,by omega,_,hc hp2,?_,hp1.trans hp2⟩)⟩
    · unfold mdays;rw[if_pos d,if_pos d1];rfl
    · unfold mdays;rw[if_pos d,if_pos d,if_neg (by rw[d1];simp)]
  · have d:=bfalse d
    have d:¬m=2:=by omega
    unfold mdays;rw[if_neg d,if_neg d]
theorem yearsDays_c(y:Nat)(h:1<=y/\y<=10000)(w:World):Calls Tryz.prog 208 #[.int .i64 (y:Int)] w λe w'=>e=.returned (.int .i64 (yfirst y:Nat))/\Pu w w':=by
  obtain⟨p,rfl⟩:∃p,y=p+1:=⟨y - 1,by omega⟩
  have e0:(((p+1:Nat):Int) - 1)=(p:Int):=by omega
  have e4:=tdiv_nat p 4
  have e100:=tdiv_nat p 100
  have e400:=tdiv_nat p 400
  refine F208_calls _ w _ ⟨rfl,by decide,rfl,by decide,rfl,by decide,?_,Pu.refl w⟩
  have e4:(p:Int).tdiv 4=((p / 4:Nat):Int):=e4
  have e100:(p:Int).tdiv 100=((p / 100:Nat):Int):=e100
  have e400:(p:Int).tdiv 400=((p / 400:Nat):Int):=e400
  rw[e0,wrap_in (n:=(p:Int)) (by omega) (by omega),e4,e100,e400,wrap_in (n:=((p / 4:Nat):Int)) (by omega) (by omega),wrap_in (n:=((p / 100:Nat):Int)) (by omega) (by omega),wrap_in (n:=((p / 400:Nat):Int)) (by omega) (by omega),wrap_in (n:=365 * (p:Int)) (by omega) (by omega),wrap_in (n:=365 * (p:Int)+_) (by omega) (by omega),wrap_in (n:=365 * (p:Int)+_ - _) (by omega) (by omega),wrap_in (by omega) (by omega)]
  unfold yfirst
  rw[Nat.add_sub_cancel]
  congr 2
  omega
def daysOut(y m d:Nat):Ending:=.returned (.tuple #[.int .i64 ((if IsDate y m d then dayOf y m d else 0:Nat):Int),.int .i64 (if IsDate y m d then 0 else 1)])
theorem mdays_le(y m:Nat):mdays y m<=31/\28<=mdays y m:=by unfold mdays;split <;> (try split) <;> omega
theorem days_c(y m d:Nat)(w:World):Calls Tryz.prog 205 #[.int .i64 (y:Int),.int .i64 (m:Int),.int .i64 (d:Int)] w λe w'=>e=daysOut y m d/\Pu w w':=by
  have no:¬IsDate y m d->∀{w'},Pu w w'->F205_5 (λe w'=>e=daysOut y m d/\Pu w w') (y:Int) (m:Int) (d:Int) true [] w':=λh w' hp=>Br.t rfl ⟨by unfold daysOut;rw[if_neg h,if_neg h];rfl,hp⟩
  refine F205_calls _ _ _ w _ ?_
  refine Br.of (λd0=>no (λh=>by have:=h.1;have:=dtrue d0;omega) (Pu.refl w)) (λd0=>Br.of (λd1=>no (λh=>by have:=h.2.1;have:=dtrue d1;omega) (Pu.refl w)) (λd1=>Br.of (λd2=>no (λh=>by have:=h.2.2.1;have:=dtrue d2;omega) (Pu.refl w)) (λd2=>Br.of (λd3=>no (λh=>by have:=h.2.2.2.1;have:=dtrue d3;omega) (Pu.refl w)) (λd3=>Br.of (λd4=>no (λh=>by have:=h.2.2.2.2.1;have:=dtrue d4;omega) (Pu.refl w)) (λd4=>?_)))))
  have d0:=dfalse d0
  have d1:=dfalse d1
  have d2:=dfalse d2
  have d3:=dfalse d3
  have d4:=dfalse d4
  refine(monthDays_c y m (by omega) w).mono ?_
  rintro e w1 ⟨rfl,hp1⟩
  refine⟨_,rfl,?_⟩
  by_cases hd:d<=mdays y m
  · have hD:IsDate y m d:=⟨by omega,by omega,by omega,by omega,by omega,hd⟩
    have hml:=mdays_le y m
    rw[decide_eq_false (by omega)]
    refine Br.f rfl ((yearsDays_c y (by omega) w1).mono ?_)
    rintro e w2 ⟨rfl,hp2⟩
    have hyl:=yfirst_le (y:=y) (by omega)
    refine⟨_,rfl,?_⟩
    rw[wrap_in (n:=((yfirst y:Nat):Int)+(d:Int)) (by omega) (by omega),wrap_in (n:=(m:Int) - 1) (by omega) (by omega)]
    refine loopUp (m - 1) (λk t w'=>t.2=(k:Int)/\t.1=((yfirst y+d+mfirst y k:Nat):Int)/\Pu w w') ⟨rfl,by simp[mfirst],hp1.trans hp2⟩ ?_
    rintro k J ⟨t1,t2⟩ w3 hk ⟨h2,h1,hp⟩ hJ
    obtain rfl:t2=(k:Int):=h2
    obtain rfl:t1=((yfirst y+d+mfirst y k:Nat):Int):=h1
    dsimp only
    refine Br.of (λd5=>?_) (λd5=>?_)
    · have hk2:k<m - 1:=by have:=dtrue d5;omega
      rw[wrap_in (n:=(k:Int)+1) (by omega) (by omega)]
      refine(monthDays_c y (k+1) (by omega) w3).mono ?_
      rintro e w4 ⟨rfl,hp4⟩
      have hmf:=mfirst_le y k
      have hmd:=mdays_le y (k+1)
      refine⟨_,rfl,?_⟩
      rw[wrap_in (by omega) (by omega)]
      refine hJ _ _ hk2 ⟨by dsimp only;omega,?_,hp.trans hp4⟩
      dsimp only[mfirst];omega
    · have hk2:k=m - 1:=by have:=dfalse d5;omega
      subst hk2
      refine⟨?_,hp⟩
      unfold daysOut dayOf;rw[if_pos hD,if_pos hD,show yfirst y+d+mfirst y (m - 1)=yfirst y+mfirst y (m - 1)+d by omega]
  · rw[decide_eq_true (by omega)]
    exact no (λh=>hd h.2.2.2.2.2) hp1
theorem rLeap_c(n:Nat)(w:World):Calls Tryz.prog 179 #[.int .i64 (n:Int)] w λe w'=>e=.returned (.bool (leapN n))/\Pu w w':=by
  have e4:(n:Int).tmod 4=((n % 4:Nat):Int):=tmod_nat n 4
  have e100:(n:Int).tmod 100=((n % 100:Nat):Int):=tmod_nat n 100
  have e400:(n:Int).tmod 400=((n % 400:Nat):Int):=tmod_nat n 400
  refine F179_calls _ w _ ⟨rfl,by decide,Br.of (λd=>⟨rfl,by decide,Br.of (λd1=>⟨?_,Pu.refl w⟩) (λd1=>⟨rfl,by decide,?_,Pu.refl w⟩)⟩) (λd=>⟨rfl,by decide,?_,Pu.refl w⟩)⟩
  · have d:=btrue d;have d1:=bntrue d1
    rw[show leapN n=true from by unfold leapN;rw[decide_eq_true (show n % 4=0 by omega),decide_eq_true (show n % 100 ≠ 0 by omega)];rfl]
  · have d:=btrue d;have d1:=bnfalse d1
    rw[beq_dec,show leapN n=decide (n % 400=0)from by unfold leapN;rw[decide_eq_false (show ¬n % 100 ≠ 0 by omega),Bool.and_false,Bool.false_or]]
    congr 2;simp only[decide_eq_decide];omega
  · have d:=bfalse d
    rw[beq_dec,show leapN n=decide (n % 400=0)from by unfold leapN;rw[decide_eq_false (show ¬n % 4=0 by omega),Bool.false_and,Bool.false_or]]
    congr 2;simp only[decide_eq_decide];omega
theorem rLen_c(y m:Nat)(w:World):Calls Tryz.prog 155 #[.int .i64 (y:Int),.int .i64 (m:Int)] w λe w'=>e=.returned (.int .i64 (mdays y m:Nat))/\Pu w w':=by
  refine F155_calls _ _ w _ (Br.of (λd=>(rLeap_c y w).mono ?_) (λd=>?_))
  · rintro e w1 ⟨rfl,hp1⟩
    have d:m=2:=by have:=btrue d;omega
    refine⟨_,rfl,Br.of (λd1=>⟨?_,hp1⟩) (λd1=>⟨?_,hp1⟩)⟩
    · unfold mdays;rw[if_pos d,if_pos d1];rfl
    · unfold mdays;rw[if_pos d,if_neg (by rw[d1];simp)];rfl
  have d:¬m=2:=by have:=bfalse d;omega
  have e30:(m=4∨m=6∨m=9∨m=11)->mdays y m=30:=λh=>by unfold mdays;rw[if_neg d,if_pos h]
  refine Br.of (λd1=>⟨by rw[e30 (by have:=btrue d1;omega)];rfl,Pu.refl w⟩) (λd1=>Br.of (λd2=>⟨by rw[e30 (by have:=btrue d2;omega)];rfl,Pu.refl w⟩) (λd2=>Br.of (λd3=>⟨by rw[e30 (by have:=btrue d3;omega)];rfl,Pu.refl w⟩) (λd3=>Br.of (λd4=>⟨by rw[e30 (by have:=btrue d4;omega)];rfl,Pu.refl w⟩) (λd4=>⟨?_,Pu.refl w⟩))))
  have d1:=bfalse d1;have d2:=bfalse d2;have d3:=bfalse d3;have d4:=bfalse d4
  unfold mdays;rw[if_neg d,if_neg (by omega)];rfl
theorem rDays_c(y m d:Nat)(w:World):Calls Tryz.prog 129 #[.int .i64 (y:Int),.int .i64 (m:Int),.int .i64 (d:Int)] w λe w'=>e=daysOut y m d/\Pu w w':=by
  have no:¬IsDate y m d->∀{w'},Pu w w'->F129_5 (λe w'=>e=daysOut y m d/\Pu w w') (y:Int) (m:Int) (d:Int) true [] w':=λh w' hp=>Br.t rfl ⟨by unfold daysOut;rw[if_neg h,if_neg h];rfl,hp⟩
  refine F129_calls _ _ _ w _ ?_
  refine Br.of (λd0=>no (λh=>by have:=h.1;have:=dtrue d0;omega) (Pu.refl w)) (λd0=>Br.of (λd1=>no (λh=>by have:=h.2.1;have:=dtrue d1;omega) (Pu.refl w)) (λd1=>Br.of (λd2=>no (λh=>by have:=h.2.2.1;have:=dtrue d2;omega) (Pu.refl w)) (λd2=>Br.of (λd3=>no (λh=>by have:=h.2.2.2.1;have:=dtrue d3;omega) (Pu.refl w)) (λd3=>Br.of (λd4=>no (λh=>by have:=h.2.2.2.2.1;have:=dtrue d4;omega) (Pu.refl w)) (λd4=>?_)))))
  have d0:=dfalse d0
  have d1:=dfalse d1
  have d2:=dfalse d2
  have d3:=dfalse d3
  have d4:=dfalse d4
  refine(rLen_c y m w).mono ?_
  rintro e w1 ⟨rfl,hp1⟩
  refine⟨_,rfl,?_⟩
  by_cases hd:d<=mdays y m
  · have hD:IsDate y m d:=⟨by omega,by omega,by omega,by omega,by omega,hd⟩
    have hml:=mdays_le y m
    rw[decide_eq_false (by omega)]
    refine Br.f rfl (loopUp (m - 1) (λk t w'=>t.2=((k+1:Nat):Int)/\t.1=((d+mfirst y k:Nat):Int)/\Pu w w') ⟨rfl,by simp[mfirst],hp1⟩ ?_)
    rintro k J ⟨t1,t2⟩ w3 hk ⟨h2,h1,hp⟩ hJ
    obtain rfl:t2=((k+1:Nat):Int):=h2
    obtain rfl:t1=((d+mfirst y k:Nat):Int):=h1
    have hmf:=mfirst_le y k
    dsimp only
    refine Br.of (λd5=>?_) (λd5=>?_)
    · have hk2:k<m - 1:=by have:=dtrue d5;omega
      refine(rLen_c y (k+1) w3).mono ?_
      rintro e w4 ⟨rfl,hp4⟩
      have hmd:=mdays_le y (k+1)
      refine⟨_,rfl,?_⟩
      rw[wrap_in (n:=((k+1:Nat):Int)+1) (by omega) (by omega),wrap_in (by omega) (by omega)]
      refine hJ _ _ hk2 ⟨by dsimp only;omega,?_,hp.trans hp4⟩
      dsimp only[mfirst];omega
    · have hk2:k=m - 1:=by have:=dfalse d5;omega
      subst hk2
      obtain⟨p,rfl⟩:∃p,y=p+1:=⟨y - 1,by omega⟩
      have e0:(((p+1:Nat):Int) - 1)=(p:Int):=by omega
      have e4:(p:Int).tdiv 4=((p / 4:Nat):Int):=tdiv_nat p 4
      have e100:(p:Int).tdiv 100=((p / 100:Nat):Int):=tdiv_nat p 100
      have e400:(p:Int).tdiv 400=((p / 400:Nat):Int):=tdiv_nat p 400
      refine⟨rfl,by decide,rfl,by decide,rfl,by decide,?_,hp⟩
      rw[e0,wrap_in (n:=(p:Int)) (by omega) (by omega),e4,e100,e400,wrap_in (n:=((p / 4:Nat):Int)) (by omega) (by omega),wrap_in (n:=((p / 100:Nat):Int)) (by omega) (by omega),wrap_in (n:=((p / 400:Nat):Int)) (by omega) (by omega),wrap_in (n:=365 * (p:Int)) (by omega) (by omega),wrap_in (n:=_+365 * (p:Int)) (by omega) (by omega),wrap_in (n:=_+365 * (p:Int)+_) (by omega) (by omega),wrap_in (n:=_+365 * (p:Int)+_ - _) (by omega) (by omega),wrap_in (by omega) (by omega)]
      unfold daysOut dayOf
      rw[if_pos hD,if_pos hD]
      unfold yfirst
      rw[Nat.add_sub_cancel]
      refine congrArg (λz:Int=>Ending.returned (.tuple #[.int .i64 z,.int .i64 0])) ?_
      omega
  · rw[decide_eq_true (by omega)]
    exact no (λh=>hd h.2.2.2.2.2) hp1
theorem valLoop {w0 w:World} (hp:Pu w0 w) (l:List UInt8) {sg X:Int} (hsg:sg=1∨sg=-1) (hl:l.length<=140737488355328) (hX:X=sg * (digN 0 l:Nat)) :
    F206_5 (λe w'=>e=.returned (.int .i64 X)/\Pu w0 w') (bs l) sg [] w:=by
  have hs:=bs_size l
  have fin:∀{a:Nat} {w':World},a<=1000000000000000->a=digN 0 l->Pu w0 w'->F206_1 (λe w'=>e=.returned (.int .i64 X)/\Pu w0 w') sg (a:Int) [] w':=λ{a w'} h1 h2 h3=>by
    refine⟨?_,h3⟩
    rw[hX,←h2]
    rcases hsg with h|h
    · rw[h,wrap_in (by omega) (by omega)]
    · rw[h,wrap_in (by omega) (by omega)]
  refine loopUp l.length (λk t w'=>t.2=(k:Int)/\∃a:Nat,t.1=(a:Int)/\a<=1000000000000000/\digN a (l.drop k)=digN 0 l/\Pu w0 w') ⟨rfl,0,rfl,by omega,rfl,hp⟩ ?_
  rintro k J ⟨t1,t2⟩ w2 hk ⟨h2,a,h1,ha,hd,hp2⟩ hJ
  obtain rfl:t2=(k:Int):=h2
  obtain rfl:t1=(a:Int):=h1
  dsimp only
  refine Br.of (λd=>?_) (λd=>?_)
  · have hk2:k<l.length:=by have:=dtrue d;omega
    obtain⟨b,hb⟩:=at_k hk2
    have hbb:(bs l)[((k:Int)).toNat]?=some b:=byte_list (by rw[bs_list];exact hb)
    rw[drop_at hb]at hd
    refine⟨b,by omega,hbb,Br.of (λd1=>?_) (λd1=>⟨b,by omega,hbb,Br.of (λd2=>?_) (λd2=>⟨b,by omega,hbb,?_⟩)⟩)⟩
    · refine fin ha ?_ hp2
      rw[digN,digB_out (by have:=dtrue d1;omega)]at hd
      simpa using hd
    · refine fin ha ?_ hp2
      rw[digN,digB_out (by have:=dtrue d2;omega)]at hd
      simpa using hd
    · have d1:=dfalse d1
      have d2:=dfalse d2
      have hb2:48<=b.toNat/\b.toNat<=57:=by omega
      rw[dig_expr hb2,wrap_in (n:=(a:Int) * 10) (by omega) (by omega),wrap_in (n:=(a:Int) * 10+_) (by omega) (by omega),wrap_in (n:=(k:Int)+1) (by omega) (by omega)]
      refine⟨_,w2,min_run _ _ _ _ _ _,?_⟩
      have e:digB b=true:=by unfold digB;simp;omega
      rw[digN,e,if_pos rfl]at hd
      exact hJ _ _ hk2 ⟨by dsimp only;omega,min (10 * a+(b.toNat - 48)) 1000000000000000,by dsimp only;omega,Nat.min_le_right _ _,hd,hp2⟩
  · have hk2:k=l.length:=by have:=dfalse d;omega
    subst hk2
    rw[List.drop_length]at hd
    exact fin ha hd hp2
theorem val_c(s:ByteArray)(hs:s.size<=140737488355328)(w:World):Calls Tryz.prog 206 #[.string s] w λe w'=>e=.returned (.int .i64 (valS s.data.toList))/\Pu w w':=by
  refine F206_calls _ w _ ((Any.strings_TrimLeft_one Tryz.lays161 s 32 (by decide) w).mono ?_)
  rintro e w1 ⟨rfl,rfl⟩
  have hT:Lib.trimLeftB s.data.toList 32=s.data.toList.dropWhile (· == 32):=rfl
  rw[hT]
  have hlen:(s.data.toList.dropWhile (· == 32)).length<=s.size:=by
    have:=(List.dropWhile_suffix (· == (32:UInt8)) (l:=s.data.toList)).length_le
    rwa [size_list]at this
  refine⟨_,rfl,?_⟩
  rw[toList_nil]
  unfold valS
  cases hL:s.data.toList.dropWhile (· == 32)with
  | nil=>exact Br.f (by simp[ByteArray.size]) (valLoop (Pu.refl _) [] (.inl rfl) (by simp) rfl)
  | cons b r=>
    rw[hL]at hlen
    simp only[List.length_cons]at hlen
    have h0:(bs (b :: r))[((0:Int)).toNat]?=some b:=byte_list (by rw[bs_list];rfl)
    refine Br.t (by rw[bs_size];simp) ⟨b,by omega,h0,Br.of (λd=>⟨b,by omega,h0,Br.of (λd1=>⟨Nat.le_refl _,by omega,by rw[bs_size];show 1<=_;simp,?_⟩) (λd1=>absurd (btrue d) (bfalse d1))⟩) (λd=>⟨b,by omega,h0,Br.of (λd1=>⟨b,by omega,h0,Br.of (λd2=>absurd (btrue d2) (bfalse d)) (λd2=>⟨Nat.le_refl _,by omega,by rw[bs_size];show 1<=_;simp,?_⟩)⟩) (λd1=>?_)⟩)⟩
    · rw[extract1]
      refine valLoop (Pu.refl _) r (.inr rfl) (by omega) ?_
      rw[signN_cons,if_pos (by have:=btrue d;omega)];omega
    · rw[extract1]
      refine valLoop (Pu.refl _) r (.inl rfl) (by omega) ?_
      rw[signN_cons,if_neg (by have:=bfalse d;omega),if_pos (by have:=btrue d1;omega)];omega
    · refine valLoop (Pu.refl _) (b :: r) (.inl rfl) (by simp;omega) ?_
      rw[signN_cons,if_neg (by have:=bfalse d;omega),if_neg (by have:=bfalse d1;omega)];omega
theorem rValLoop {w0 w:World} (hp:Pu w0 w) (s:ByteArray) (k:Nat) (hk:k<=s.size) (hs:s.size<=140737488355328) (neg:Bool) {X:Int} (hX:X=if neg then -(digN 0 (s.data.toList.drop k):Int)else(digN 0 (s.data.toList.drop k):Nat)) :
    F130_3 (λe w'=>e=.returned (.int .i64 X)/\Pu w0 w') s (k:Int) neg 0 [] w:=by
  have fin:∀{a:Nat} {w':World},a<=1000000000000000->a=digN 0 (s.data.toList.drop k)->Pu w0 w'->F130_1 (λe w'=>e=.returned (.int .i64 X)/\Pu w0 w') neg (a:Int) [] w':=λ{a w'} h1 h2 h3=>by
    refine Br.of (λd=>⟨?_,h3⟩) (λd=>⟨?_,h3⟩)
    · rw[hX,if_pos d,←h2,wrap_in (by omega) (by omega),Int.zero_sub]
    · rw[hX,if_neg (by rw[d];simp),←h2]
  refine loopUp (s.size - k) (λj t w'=>t.1=((k+j:Nat):Int)/\∃a:Nat,t.2=(a:Int)/\a<=1000000000000000/\digN a (s.data.toList.drop (k+j))=digN 0 (s.data.toList.drop k)/\Pu w0 w') ⟨rfl,0,rfl,by omega,rfl,hp⟩ ?_
  rintro j J ⟨t1,t2⟩ w2 hj ⟨h1,a,h2,ha,hd,hp2⟩ hJ
  obtain rfl:t1=((k+j:Nat):Int):=h1
  obtain rfl:t2=(a:Int):=h2
  dsimp only
  refine Br.of (λd=>?_) (λd=>?_)
  · have hk2:k+j<s.size:=by have:=dtrue d;omega
    obtain⟨b,hb1,hb⟩:=at_byte hk2
    have hbb:s[(((k+j:Nat):Int)).toNat]?=some b:=hb1
    rw[drop_at hb]at hd
    refine⟨b,by omega,hbb,(isDigit_c b w2).mono ?_⟩
    rintro e w3 ⟨rfl,hp3⟩
    refine⟨_,rfl,Br.of (λd1=>⟨b,by omega,hbb,?_⟩) (λd1=>?_)⟩
    · have hb2:=digB_in d1
      rw[dig_expr hb2,wrap_in (n:=10 * (a:Int)) (by omega) (by omega),wrap_in (n:=10 * (a:Int)+_) (by omega) (by omega),wrap_in (n:=((k+j:Nat):Int)+1) (by omega) (by omega)]
      refine⟨_,w3,min_run _ _ _ _ _ _,?_⟩
      rw[digN,d1,if_pos rfl]at hd
      exact hJ _ _ (by omega) ⟨by dsimp only;omega,min (10 * a+(b.toNat - 48)) 1000000000000000,by dsimp only;omega,Nat.min_le_right _ _,hd,hp2.trans hp3⟩
    · refine fin ha ?_ (hp2.trans hp3)
      rw[digN,d1]at hd
      simpa using hd
  · have hk2:k+j=s.size:=by have:=dfalse d;omega
    rw[hk2,List.drop_eq_nil_of_le (by rw[size_list];exact Nat.le_refl _)]at hd
    exact fin ha hd hp2
theorem rVal_c(s:ByteArray)(hs:s.size<=140737488355328)(w:World):Calls Tryz.prog 130 #[.string s] w λe w'=>e=.returned (.int .i64 (valS s.data.toList))/\Pu w w':=by
  refine F130_calls _ w _ (loopUp s.size (λk t w'=>t=(k:Int)/\s.data.toList.dropWhile (· == 32)=(s.data.toList.drop k).dropWhile (· == 32)/\Pu w w') ⟨rfl,rfl,Pu.refl w⟩ ?_)
  rintro k J t w2 hk ⟨ht,hd,hp⟩ hJ
  obtain rfl:t=(k:Int):=ht
  have tail:s.data.toList.dropWhile (· == 32)=s.data.toList.drop k->F130_5 (λe w'=>e=.returned (.int .i64 (valS s.data.toList))/\Pu w w') s (k:Int) [] w2:=λhT=>by
    unfold valS
    rw[hT]
    refine Br.of (λd=>?_) (λd=>?_)
    · have hk2:k<s.size:=by have:=dtrue d;omega
      obtain⟨b,hb1,hb⟩:=at_byte hk2
      have hbb:s[((k:Int)).toNat]?=some b:=hb1
      have hdr:=drop_at hb
      refine⟨b,by omega,hbb,Br.of (λd1=>⟨b,by omega,hbb,?_⟩) (λd1=>⟨b,by omega,hbb,Br.of (λd2=>⟨b,by omega,hbb,?_⟩) (λd2=>?_)⟩)⟩
      · rw[wrap_in (by omega) (by omega),show(k:Int)+1=((k+1:Nat):Int)by omega]
        refine rValLoop hp s (k+1) hk2 hs _ ?_
        rw[hdr,d1,if_pos rfl];rw[signN_cons,if_pos (by have:=btrue d1;omega)]
      · rw[wrap_in (by omega) (by omega),show(k:Int)+1=((k+1:Nat):Int)by omega]
        refine rValLoop hp s (k+1) hk2 hs _ ?_
        rw[hdr,d1,if_neg (by simp)];rw[signN_cons,if_neg (by have:=bfalse d1;omega),if_pos (by have:=btrue d2;omega)]
      · refine rValLoop hp s k hk hs false ?_
        rw[if_neg (by simp),hdr];rw[signN_cons,if_neg (by have:=bfalse d1;omega),if_neg (by have:=bfalse d2;omega)]
    · refine rValLoop hp s k hk hs false ?_
      have hk2:k=s.size:=by have:=dfalse d;omega
      rw[if_neg (by simp),List.drop_eq_nil_of_le (by rw[size_list];omega)];rfl
  refine Br.of (λd=>?_) (λd=>?_)
  · have hk2:k<s.size:=by have:=dtrue d;omega
    obtain⟨b,hb1,hb⟩:=at_byte hk2
    have hbb:s[((k:Int)).toNat]?=some b:=hb1
    rw[drop_at hb]at hd
    refine⟨b,by omega,hbb,Br.of (λd1=>?_) (λd1=>tail ?_)⟩
    · have e:b=32:=by apply UInt8.toNat_inj.1;have:=btrue d1;show b.toNat=32;omega
      rw[wrap_in (by omega) (by omega)]
      refine hJ _ _ hk2 ⟨by omega,?_,hp⟩
      rw[hd,e];rfl
    · have e:(b == 32)=false:=by
        have:=bfalse d1
        simp only[beq_eq_false_iff_ne,ne_eq]
        intro h;subst h;exact this rfl
      rw[hd,drop_at hb]
      simp[List.dropWhile_cons,e]
  · have hk2:k=s.size:=by have:=dfalse d;omega
    refine tail ?_
    have hn:s.data.toList.drop k=[]:=List.drop_eq_nil_of_le (by rw[size_list];omega)
    rw[hd,hn];rfl
theorem trimD_c(s:ByteArray)(hs:s.size<=9223372036854775807)(w:World):Calls Tryz.prog 72 #[.string s,.string ⟨#[48,49,50,51,52,53,54,55,56,57]⟩] w
    λe w'=>e=.returned (.string ⟨(Lib.trimS s.data.toList dset).toArray⟩)/\Pu w w':=
  Any.strings_Trim_laid Tryz.lays160 u110 s ⟨#[48,49,50,51,52,53,54,55,56,57]⟩ w hs (by decide) (ascii_of_all (by decide))
theorem unstamp_c(s:ByteArray)(hs:s.size<=140737488355328)(w:World):Calls Tryz.prog 202 #[.string s] w λe w'=>e=.returned (.tuple #[.int .i64 (unstampS s.data.toList).1,.bool (unstampS s.data.toList).2])/\Pu w w':=by
  refine F202_calls _ w _ ?_
  rw[F202_1,blanks8]
  refine Br.of (λd=>⟨by unfold unstampS;rw[if_pos (dtrue d)],Pu.refl w⟩) (λd=>Br.of (λd1=>⟨?_,Pu.refl w⟩) (λd1=>(trimD_c s (by omega) w).mono ?_))
  · unfold unstampS;rw[if_neg (dfalse d),if_pos (by rw[size_list];have:=bntrue d1;omega)]
  have h8:s.size=8:=by have:=bnfalse d1;omega
  rintro e w1 ⟨rfl,hp1⟩
  have e2:((ByteArray.mk (Lib.trimS s.data.toList dset).toArray).toList == (⟨#[]⟩:ByteArray).toList)=s.data.toList.all digB:=by
    rw[toList_nil]
    have h1:((ByteArray.mk (Lib.trimS s.data.toList dset).toArray).size=0) ↔ s.data.toList.all (dset.contains ·)=true:=by
      rw[←trimS_nil];simp[ByteArray.size]
    rw[show digB=(dset.contains ·)from funext λb=>(dset_eq b).symm]
    rw[Bool.eq_iff_iff,decide_eq_true_iff];exact h1
  refine⟨_,rfl,?_⟩
  rw[e2]
  have eU:unstampS s.data.toList=if s.data.toList.all digB then dateS (digN 0 (s.data.toList.take 4)) (digN 0 ((s.data.toList.drop 4).take 2)) (digN 0 (s.data.toList.drop 6))else(0,false):=by
    unfold unstampS;rw[if_neg (dfalse d),if_neg (by rw[size_list];omega)]
  refine Br.of (λd2=>⟨by rw[eU,if_neg (by simpa using d2)],hp1⟩) (λd2=>dwE_intro λw2 hp2 _=>?_)
  have hall:s.data.toList.all digB=true:=by simpa using d2
  obtain⟨x1,x2,x3⟩:=ext3 h8
  refine⟨by omega,by rw[h8];decide,by decide,by omega,by rw[h8];decide,by omega,by decide,Nat.le_refl _,by omega,by rw[h8];decide,(val_c _ (by rw[←size_list,x1,List.length_take];omega) w2).mono ?_⟩
  rintro e w3 ⟨rfl,hp3⟩
  refine⟨_,rfl,(val_c _ (by rw[←size_list,x2,List.length_take];omega) w3).mono ?_⟩
  rintro e w4 ⟨rfl,hp4⟩
  refine⟨_,rfl,(val_c _ (by rw[←size_list,x3,List.length_drop,size_list];omega) w4).mono ?_⟩
  rintro e w5 ⟨rfl,hp5⟩
  rw[x1,x2,x3,valS_digits (all_take_of hall 4),valS_digits (all_take_of (all_drop_of hall 4) 2),valS_digits (all_drop_of hall 6)]
  refine⟨_,rfl,(days_c _ _ _ w5).mono ?_⟩
  rintro e w6 ⟨rfl,hp6⟩
  refine⟨_,_,rfl,?_,(((hp1.trans hp2).trans hp3).trans (hp4.trans hp5)).trans hp6⟩
  rw[eU,if_pos hall]
  unfold dateS
  by_cases hD:IsDate (digN 0 (s.data.toList.take 4)) (digN 0 ((s.data.toList.drop 4).take 2)) (digN 0 (s.data.toList.drop 6))
  · rw[if_pos hD,if_pos hD,decide_eq_true hD];rfl
  · rw[if_neg hD,if_neg hD,decide_eq_false hD];rfl
theorem rUnstamp_c(s:ByteArray)(hs:s.size<=140737488355328)(w:World):Calls Tryz.prog 97 #[.string s] w λe w'=>e=.returned (.tuple #[.int .i64 (unstampS s.data.toList).1,.bool (unstampS s.data.toList).2])/\Pu w w':=by
  refine F97_calls _ w _ ?_
  rw[F97_5,blanks8]
  refine Br.of (λd=>⟨by unfold unstampS;rw[if_pos (dtrue d)],Pu.refl w⟩) (λd=>Br.of (λd1=>⟨?_,Pu.refl w⟩) (λd1=>?_))
  · unfold unstampS;rw[if_neg (dfalse d),if_pos (by rw[size_list];have:=bntrue d1;omega)]
  have h8:s.size=8:=by have:=bnfalse d1;omega
  have eU:unstampS s.data.toList=if s.data.toList.all digB then dateS (digN 0 (s.data.toList.take 4)) (digN 0 ((s.data.toList.drop 4).take 2)) (digN 0 (s.data.toList.drop 6))else(0,false):=by
    unfold unstampS;rw[if_neg (dfalse d),if_neg (by rw[size_list];omega)]
  refine loopUp 8 (λk t w'=>t=(k:Int)/\(s.data.toList.take k).all digB=true/\Pu w w') ⟨rfl,rfl,Pu.refl w⟩ ?_
  rintro k J t w1 hk ⟨ht,hal,hp1⟩ hJ
  obtain rfl:t=(k:Int):=ht
  refine Br.of (λd2=>?_) (λd2=>dwE_intro λw2 hp2 _=>?_)
  · have hk2:k<8:=by have:=dtrue d2;omega
    obtain⟨b,hb1,hb⟩:=at_byte (s:=s) (k:=k) (by omega)
    have hbb:s[((k:Int)).toNat]?=some b:=hb1
    refine⟨b,by omega,hbb,(isDigit_c b w1).mono ?_⟩
    rintro e w2 ⟨rfl,hp2⟩
    refine⟨_,rfl,Br.of (λd3=>⟨?_,hp1.trans hp2⟩) (λd3=>?_)⟩
    · rw[eU,if_neg]
      intro hA
      have:=List.all_eq_true.1 hA b (List.mem_of_getElem? hb)
      rw[this]at d3;cases d3
    · rw[wrap_in (by omega) (by omega)]
      exact hJ _ _ hk2 ⟨by omega,by rw[all_take _ hb,hal];simpa using d3,hp1.trans hp2⟩
  have hk2:k=8:=by have:=dfalse d2;omega
  subst hk2
  have hall:s.data.toList.all digB=true:=by
    rw[List.take_of_length_le (by rw[size_list];omega)]at hal;exact hal
  obtain⟨x1,x2,x3⟩:=ext3 h8
  refine⟨by omega,by rw[h8];decide,by decide,by omega,by rw[h8];decide,by omega,by decide,Nat.le_refl _,by omega,by rw[h8];decide,(rVal_c _ (by rw[←size_list,x1,List.length_take];omega) w2).mono ?_⟩
  rintro e w3 ⟨rfl,hp3⟩
  refine⟨_,rfl,(rVal_c _ (by rw[←size_list,x2,List.length_take];omega) w3).mono ?_⟩
  rintro e w4 ⟨rfl,hp4⟩
  refine⟨_,rfl,(rVal_c _ (by rw[←size_list,x3,List.length_drop,size_list];omega) w4).mono ?_⟩
  rintro e w5 ⟨rfl,hp5⟩
  rw[x1,x2,x3,valS_digits (all_take_of hall 4),valS_digits (all_take_of (all_drop_of hall 4) 2),valS_digits (all_drop_of hall 6)]
  refine⟨_,rfl,(rDays_c _ _ _ w5).mono ?_⟩
  rintro e w6 ⟨rfl,hp6⟩
  refine⟨_,_,rfl,?_,(((hp1.trans hp2).trans hp3).trans (hp4.trans hp5)).trans hp6⟩
  rw[eU,if_pos hall]
  unfold dateS
  by_cases hD:IsDate (digN 0 (s.data.toList.take 4)) (digN 0 ((s.data.toList.drop 4).take 2)) (digN 0 (s.data.toList.drop 6))
  · rw[if_pos hD,if_pos hD,decide_eq_true hD];rfl
  · rw[if_neg hD,if_neg hD,decide_eq_false hD];rfl
end Go.Proofs.YtjbfehippchniaaGreatDoor

/- Lex: ends of lines, texts in quotes, dates and signs, as the scanner takes them. No condition but those stated. -/
set_option maxRecDepth 100000
set_option linter.unusedVariables false
set_option linter.unusedSimpArgs false
namespace Go.Proofs.YtjbfehippchniaaGreatDoor
open Go.Sh Go.Sh.Lx Go.RowKit
variable {w0 w w' : World} {b p : Nat} {d : List UInt8} {l g : Bool} {bad : Int}
theorem s49:sizeB Tryz.prog 30=3:=by kernel_rfl
def zeroT:Tok:=⟨0,0,⟨#[]⟩⟩
def retE(t:Tok)(k:Bool):Ending:=.returned (.tuple #[.agg (tokV t).toArray,.bool k])
abbrev TokB(w:World)(r:Nat)(t:Tok):Prop:=w.heap[r]?=some (.cells (tokV t).toArray 30)
theorem outT {r:Nat} {t0 t:Tok} {k:Bool} {R:Rt} (hb:TokB w r t0) (hR:∀w',Fr (·=r) w w'->R (retE t k) w') :
    stA Tryz.prog 30 (⟨r,0,none⟩:Addr) #[.int .i64 t.kind,.int .i64 t.at_,.string t.text] w λw'=>∃n0:Int,w'.cell? ((⟨r,0,none⟩:Addr).add 0)=some (.int .i64 n0)/\∃n1:Int,w'.cell? ((⟨r,0,none⟩:Addr).add 1)=some (.int .i64 n1)/\
      ∃s2:ByteArray,w'.cell? ((⟨r,0,none⟩:Addr).add 2)=some (.string s2)/\R (.returned (.tuple #[.agg #[.int .i64 n0,.int .i64 n1,.string s2],.bool k])) w':=
  stA_fill hb s49.symm rfl rfl λw' hb' hf _=>⟨_,cl hb' 0,_,cl hb' 1,_,cl hb' 2,hR w' hf⟩
theorem calls_by {f:FuncId} {args:Array Value} {w:World} {post:Rt} {F:Rt->Prop} (hc:∀R,F R->Calls Tryz.prog f args w R) (H:∀R:Rt,(∀e w',post e w'->R e w')->F R):Calls Tryz.prog f args w post:=hc _ (H _ λ_ _ h=>h)
theorem end_c(h:Sc w0 w b d p l g bad):Calls Tryz.prog 167 #[.pointer (some ⟨b,0,none⟩)] w λe w'=>Fr (·=b) w w'/\
    if p=d.length then e=retE (if l then endT p else zeroT) true/\Sc w0 w' b d p false false bad else e=retE (if l then endT p else zeroT) l/\Sc w0 w' b d (p+1) false false bad:=by
  have hlim:=h.lim
  have hbl:=blk_lt h.blk
  have hle:=h.le
  refine calls_by (F167_calls _ w) λR hR=>alB λw1 hp1 hb1=>?_
  have hlt1:=hp1.size
  refine⟨_,(h.pu hp1).at_,alB λw2 hp2 hb2=>?_⟩
  have hlt2:=blk_lt hb1
  have hlt3:=hp2.size
  have hb1:=hp2.blk hb1
  refine stA_fill hb2 s49.symm rfl rfl λw3 hb3 hf3 hz3=>dwE_intro λw4 hp4 hh4=>?_
  have h3:=(h.pu (hp1.trans hp2)).fr hf3 (by omega) (λi hi=>by rw[show i=_ from hi];have:=h.since.size;omega)
  have h4:=h3.pu hp4
  have hb1:=hp4.blk (hf3.blk hb1 (by omega))
  have hb3:=hp4.blk hb3
  have fr4:Fr (·=b) w w4:=(Fr.pu (Pu.andNew (hp1.trans hp2) hf3 (λi hi=>by rw[show i=_ from hi];omega) |>.trans hp4):Fr (·=b) w w4)
  refine⟨_,h4.ln,_,h4.at_,_,h4.s,?_⟩
  refine h4.st_ln λw5 h5 hf5=>?_
  refine h5.st_bg λw6 h6 hf6=>?_
  have fr6:=frb (frb fr4 hf5) hf6
  have hb1:=hf6.blk (hf5.blk hb1 (by omega)) (by omega)
  have hb3:=hf6.blk (hf5.blk hb3 (by omega)) (by omega)
  -- what is handed back
  have fin:∀{w7:World} {p':Nat} (k:Bool),Sc w0 w7 b d p' false false bad->Fr (·=b) w6 w7->∀{t:Tok},(∀w',Sc w0 w' b d p' false false bad->Fr (·=b) w w'->R (retE t k) w')->
      stA Tryz.prog 30 (⟨w.heap.size,0,none⟩:Addr) #[.int .i64 t.kind,.int .i64 t.at_,.string t.text] w7 λw'=>∃n0:Int,w'.cell? ((⟨w.heap.size,0,none⟩:Addr).add 0)=some (.int .i64 n0)/\∃n1:Int,w'.cell? ((⟨w.heap.size,0,none⟩:Addr).add 1)=some (.int .i64 n1)/\
      ∃s2:ByteArray,w'.cell? ((⟨w.heap.size,0,none⟩:Addr).add 2)=some (.string s2)/\R (.returned (.tuple #[.agg #[.int .i64 n0,.int .i64 n1,.string s2],.bool k])) w':=λ{w7 p'} k h7 hf7 {t} hR=>by
    refine outT (t0:=zeroT) (hf7.blk hb1 (by omega)) λw8 hf8=>hR w8 (h7.fr hf8 (by omega) (λi hi=>by rw[show i=_ from hi];have:=h.since.size;omega)) ?_
    exact(frb fr6 hf7).trans hf8 (λi hi hlt=>by rw[show i=_ from hi]at hlt;omega)
  refine Br.of (λq=>?_) (λq=>?_)
  · have q:((p:Int) == (((bs d).size:Nat):Int))=false:=by simpa using q
    have q:=bfalse q
    rw[bs_size_i]at q
    refine⟨_,h6.at_,h6.st_at (p':=p+1) (by omega) (by rw[wrap_in (by omega) (by omega)];omega) λw7 h7 hf7=>?_⟩
    refine Br.of (λql=>?_) (λql=>?_)
    · subst ql
      have hb3:=hf7.blk hb3 (by omega)
      exact⟨_,cl hb3 0,_,cl hb3 1,_,cl hb3 2,fin true h7 hf7 (t:=endT p) λw8 h8 hf8=>hR _ _ ⟨hf8,by rw[if_neg (by omega)];exact⟨rfl,h8⟩⟩⟩
    · subst ql
      have e:((p:Int) == (((bs d).size:Nat):Int))=false:=by rw[beq_eq_false_iff_ne,bs_size_i];omega
      rw[e]
      exact fin false h7 hf7 (t:=zeroT) λw8 h8 hf8=>hR _ _ ⟨hf8,by rw[if_neg (by omega)];exact⟨rfl,h8⟩⟩
  · have q:((p:Int) == (((bs d).size:Nat):Int))=true:=by simpa using q
    have q2:=btrue q
    rw[bs_size_i]at q2
    rw[q]
    refine Br.of (λql=>?_) (λql=>?_)
    · subst ql
      exact⟨_,cl hb3 0,_,cl hb3 1,_,cl hb3 2,fin true h6 (Fr.refl _ _) (t:=endT p) λw8 h8 hf8=>hR _ _ ⟨hf8,by rw[if_pos (by omega)];exact⟨rfl,h8⟩⟩⟩
    · subst ql
      exact fin true h6 (Fr.refl _ _) (t:=zeroT) λw8 h8 hf8=>hR _ _ ⟨hf8,by rw[if_pos (by omega)];exact⟨rfl,h8⟩⟩
end Go.Proofs.YtjbfehippchniaaGreatDoor

/- Lex: texts in quotes, dates and signs, as the scanner takes them. The signs: what the library's tables of letters and of bytes lay. -/
set_option maxRecDepth 100000
set_option linter.unusedVariables false
set_option linter.unusedSimpArgs false
namespace Go.Proofs.YtjbfehippchniaaGreatDoor
open Go.Sh Go.Sh.Lx Go.RowKit
variable {w0 w w' : World} {b p : Nat} {d : List UInt8} {l g : Bool} {bad : Int}
theorem short_c(h:Sc w0 w b d p l g bad)(t:Tok)(m:Nat):Calls Tryz.prog 189 #[.pointer (some ⟨b,0,none⟩),.agg (tokV t).toArray,.int .i64 (m:Int)] w λe w'=>Fr (·=b) w w'/\
    if m<t.text.size then e=.returned (.bool false)/\Sc w0 w' b d p l g t.at_ else e=.returned (.bool true)/\Sc w0 w' b d p l g bad:=by
  refine calls_by (F189_calls _ _ _ _ _ w) λR hR=>alB λw1 hp1 hb1=>?_
  have h1:=h.pu hp1
  refine⟨_,cl hb1 2,Br.of (λq=>?_) (λq=>?_)⟩
  · have q:=dtrue q
    refine⟨_,cl hb1 1,h1.st_bd λw2 h2 hf2=>hR _ _ ⟨pfr hp1 hf2,?_⟩⟩
    rw[if_pos (by omega)];exact⟨rfl,h2⟩
  · have q:=dfalse q
    refine hR _ _ ⟨Fr.pu hp1,?_⟩
    rw[if_neg (by omega)];exact⟨rfl,h1⟩
theorem quote_tw(q:UInt8):∀r:List UInt8,((lineOf r).takeWhile λb=>!decide (b=q))=r.takeWhile λb=>!nlB b && !decide (b=q)
  | []=>rfl
  | x :: r=>by
    have ih:=quote_tw q r
    unfold lineOf at ih ⊢
    by_cases h:nlB x=true
    · simp[List.takeWhile_cons,h]
    · have h:nlB x=false:=by simpa using h
      simp only[List.takeWhile_cons,h,Bool.not_false,if_true,Bool.true_and]
      by_cases e:x=q
      · simp[e]
      · simp only[e,decide_false,Bool.not_false,if_true]
        congr 1
theorem quote_at{q:UInt8}(hq:nlB q=false):∀r:List UInt8,(r.takeWhile λb=>!nlB b && !decide (b=q)).length<(lineOf r).length ↔ r[(r.takeWhile λb=>!nlB b && !decide (b=q)).length]?=some q
  | []=>by simp[lineOf]
  | x :: r=>by
    have ih:=quote_at hq r
    unfold lineOf at ih ⊢
    by_cases h:nlB x=true
    · simp only[List.takeWhile_cons,h,Bool.not_true,if_false,Bool.false_and,List.length_nil,Bool.false_eq_true]
      constructor
      · intro h9;omega
      · intro h9;simp at h9;subst h9;rw[hq]at h;cases h
    · have h:nlB x=false:=by simpa using h
      simp only[List.takeWhile_cons,h,Bool.not_false,if_true,Bool.true_and]
      by_cases e:x=q
      · simp[e]
      · simp only[e,decide_false,Bool.not_false,if_true,List.length_cons,List.getElem?_cons_succ,Nat.add_lt_add_iff_right]
        exact ih
theorem text_c{q:UInt8}{r:List UInt8}(h:Sc w0 w b d p l g bad)(hd:d.drop p=q :: r)(hq:nlB q=false)(t0:Tok):Calls Tryz.prog 190 #[.pointer (some ⟨b,0,none⟩),.agg (tokV t0).toArray] w λe w'=>Fr (·=b) w w'/\match quoteS q r with
    | .tok k t m=>e=retE ⟨k,t0.at_,bs t⟩ true/\Sc w0 w' b d (p+1+m) l g bad
    | .bad i=>(∃t,e=retE t false)/\Sc w0 w' b d p l g ((p+i:Nat):Int)
    | _=>False:=by
  have hlim:=h.lim
  have hbl:=blk_lt h.blk
  have hnew:=h.new
  have hdl:(d.drop p).length=r.length+1:=by rw[hd];rfl
  rw[List.length_drop]at hdl
  have hr:d.drop (p+1)=r:=by rw[←List.drop_drop,hd];rfl
  have hgq:d[p]?=some q:=by have:=congrArg (·[0]?) hd;simpa[get_drop] using this
  have hln:lnN (d.drop p)=lnN r+1:=by rw[hd];unfold lnN lineOf;rw[List.takeWhile_cons,hq];rfl
  have hlr:=lnN_le r
  obtain⟨t,ht⟩:∃t,t=r.takeWhile λb=>!nlB b && !decide (b=q):=⟨_,rfl⟩
  have htl:t.length<=r.length:=by rw[ht];exact tw_le _ r
  have htt:r.take t.length=t:=by rw[ht];exact tw_take _ r
  have hqs:quoteS q r=if r[t.length]?=some q then(match badAt t with
    | some i=>.bad (i+1)
    | none=>.tok 2 t (t.length+1))else .bad 0:=by rw[ht];rfl
  rw[hqs]
  refine calls_by (F190_calls _ _ _ _ w) λR hR=>alB λw1 hp1 hb1=>alB λw2 hp2 hb2=>?_
  have hr1:=blk_lt hb1
  have hs1:=hp1.size
  have hs2:=hp2.size
  have hb1:=hp2.blk hb1
  have h2:=h.pu (hp1.trans hp2)
  refine⟨_,h2.at_,(lineEnd_c h2 h2.le).mono ?_⟩
  rintro e w3 ⟨rfl,rfl⟩
  refine⟨_,rfl,dwE_intro λw4 hp4 _=>?_⟩
  have h4:=h2.pu hp4
  have hb1:=hp4.blk hb1
  have hb2:=hp4.blk hb2
  have hs4:=hp4.size
  have e1:((p:Int)+1).toNat=p+1:=by omega
  have hP4:Pu w w4:=(hp1.trans hp2).trans hp4
  -- a token handed back out of the second block
  have out:∀{w5 w6:World} {t5 t6:Tok} {k:Bool} {p':Nat} {bad':Int},Sc w0 w5 b d p' l g bad'->Fr (·=b) w w5->TokB w5 w1.heap.size t6->(∀w',Sc w0 w' b d p' l g bad'->Fr (·=b) w w'->R (retE t5 k) w')->
      stA Tryz.prog 30 (⟨w1.heap.size,0,none⟩:Addr) #[.int .i64 t5.kind,.int .i64 t5.at_,.string t5.text] w5 λw'=>∃n0:Int,w'.cell? ((⟨w1.heap.size,0,none⟩:Addr).add 0)=some (.int .i64 n0)/\∃n1:Int,w'.cell? ((⟨w1.heap.size,0,none⟩:Addr).add 1)=some (.int .i64 n1)/\
      ∃s2:ByteArray,w'.cell? ((⟨w1.heap.size,0,none⟩:Addr).add 2)=some (.string s2)/\R (.returned (.tuple #[.agg #[.int .i64 n0,.int .i64 n1,.string s2],.bool k])) w':=λ{w5 w6 t5 t6 k p' bad'} h5 hf5 hb5 hk=>
    outT hb5 λw8 hf8=>hk w8 (h5.fr hf8 (by omega) (λi hi=>by rw[show i=_ from hi];have:=h.since.size;omega)) (hf5.trans hf8 λi hi hlt=>by rw[show i=_ from hi]at hlt;omega)
  refine⟨_,h4.s,_,h4.at_,?_⟩
  rw[wrap_in (n:=(p:Int)+1) (by omega) (by omega),hln]
  refine⟨by omega,by rw[bs_size,toNat_i];omega,by omega,by rw[toNat_i];omega,_,h4.s,_,h4.at_,q,by omega,by rw[toNat_i];exact bs_get hgq,?_⟩
  have hsub:(bs d).extract ((p:Int)+1).toNat (((p+(lnN r+1):Nat):Int)).toNat=bs (lineOf r):=by
    rw[e1,toNat_i,extract_take]
    congr 1
    rw[show p+(lnN r+1)=(p+1)+lnN r by omega,List.take_add,List.drop_append,List.drop_eq_nil_of_le (by rw[List.length_take];omega),List.nil_append,List.length_take,Nat.min_eq_left (by omega),Nat.sub_self,List.drop_zero,hr]
    exact tw_take _ r
  rw[hsub]
  refine(indexByte_c (lineOf r) _ w4).mono ?_
  rintro e w5 ⟨rfl,rfl⟩
  have hq8:(((q.toNat:Nat):Int)).toNat.toUInt8=q:=by rw[toNat_i];simp[Nat.toUInt8]
  rw[hq8,indexByte_tw,quote_tw,←ht]
  have hiff:t.length<(lineOf r).length ↔ r[t.length]?=some q:=by rw[ht];exact quote_at hq r
  refine⟨_,rfl,?_⟩
  by_cases hin:r[t.length]?=some q
  · have hlt:=hiff.2 hin
    rw[if_pos hlt,if_pos hin]at *
    have htr:t.length<r.length:=(List.getElem?_eq_some_iff.1 hin).1
    refine Br.f (decide_eq_false (by omega)) (dwE_intro λw6 hp6 _=>?_)
    have h6:=h4.pu hp6
    have hb1:=hp6.blk hb1
    have hb2:=hp6.blk hb2
    have hs6:=hp6.size
    have hP6:=hP4.trans hp6
    refine⟨λw'=>Sc w0 w' b d p l g bad,h6,_,λw' h'=>h'.s,_,λw' h'=>h'.at_,_,λw' h'=>h'.at_,?_⟩
    rw[wrap_in (n:=(p:Int)+1) (by omega) (by omega),wrap_in (n:=(p:Int)+1+(t.length:Int)) (by omega) (by omega)]
    have e2:((p:Int)+1+(t.length:Int)).toNat=p+1+t.length:=by omega
    rw[e1,e2]
    refine⟨by omega,by rw[bs_size];omega,by omega,by omega,?_⟩
    have hsub2:(bs d).extract (p+1) (p+1+t.length)=bs t:=by
      rw[extract_take]
      congr 1
      rw[List.take_add,List.drop_append,List.drop_eq_nil_of_le (by rw[List.length_take];omega),List.nil_append,List.length_take,Nat.min_eq_left (by omega),Nat.sub_self,List.drop_zero,hr]
      exact htt
    rw[hsub2]
    refine st1_intro hb1 (by simp) λw7 hw7 hb7=>?_
    have hf7:Fr (·=w.heap.size) w6 w7:=by rw[hw7];exact Fr.setCell w6 ⟨w.heap.size,0,none⟩ _
    have h7:=h6.fr hf7 (by omega) (λi hi=>by rw[show i=_ from hi];have:=h.since.size;omega)
    refine⟨h7,?_⟩
    rw[add_def]
    refine st1_intro hb7 (by simp) λw8 hw8 hb8=>?_
    have hf8:Fr (·=w.heap.size) w7 w8:=by rw[hw8];exact Fr.setCell w7 ⟨w.heap.size,0+2,none⟩ _
    have h8:=h7.fr hf8 (by omega) (λi hi=>by rw[show i=_ from hi];have:=h.since.size;omega)
    have hb8:TokB w8 w.heap.size ⟨2,t0.at_,bs t⟩:=hb8
    have hb2:=hf8.blk (hf7.blk hb2 (by omega)) (by omega)
    have hP8:Pu w w8:=Pu.andNew (Pu.andNew hP6 hf7 (λi hi=>by rw[show i=_ from hi];omega)) hf8 (λi hi=>by rw[show i=_ from hi];omega)
    have hz8:w6.heap.size<=w8.heap.size:=Nat.le_trans hf7.size hf8.size
    refine⟨_,cl hb8 2,?_⟩
    refine loopUp t.length (λk s w'=>s=(k:Int)/\Sc w0 w' b d p l g bad/\TokB w' w.heap.size ⟨2,t0.at_,bs t⟩/\TokB w' w1.heap.size zeroT/\Pu w w'/\∀j,j<k->∀y,t[j]?=some y->isB y=true) ⟨rfl,h8,hb8,hb2,hP8,λj hj=>by omega⟩ ?_
    rintro k J s w9 hk ⟨rfl,h9,hb9,hc9,hP9,hall⟩ hJ
    refine Br.of (λq1=>?_) (λq1=>?_)
    · have q1:=dtrue q1
      rw[bs_size_i]at q1
      have hk2:k<t.length:=by omega
      obtain⟨y,hy⟩:=at_k hk2
      refine dwE_intro λw10 hp10 _=>?_
      have h10:=h9.pu hp10
      have hb10:=hp10.blk hb9
      have hc10:=hp10.blk hc9
      have hylt:=y.toNat_lt
      refine⟨_,cl hb10 2,y,by omega,by rw[toNat_i];exact bs_get hy,by omega,by omega,_,h10.cls y,?_⟩
      have e4:(((clsN y.toNat:Nat):Int) == 4)=!isB y:=by rw[beq_dec,←(cls_b y).2.2.2];exact dec_eq (by omega)
      rw[e4]
      refine Br.of (λq2=>?_) (λq2=>?_)
      · have hy2:isB y=false:=by simpa using q2
        rw[badAt_of hy hy2 hall]at hR
        refine⟨_,h10.at_,?_⟩
        rw[wrap_in (n:=(p:Int)+1) (by omega) (by omega),wrap_in (by omega) (by omega)]
        refine h10.st_bd λw11 h11 hf11=>?_
        have hb11:=hf11.blk hb10 (by omega)
        have hc11:=hf11.blk hc10 (by omega)
        refine⟨_,cl hb11 0,_,cl hb11 1,_,cl hb11 2,?_⟩
        exact out (w6:=w11) (t5:=⟨2,t0.at_,bs t⟩) h11 (pfr (hP9.trans hp10) hf11) hc11 λw12 h12 hf12=>hR _ _ ⟨hf12,⟨_,rfl⟩,by rw[show((p+(k+1):Nat):Int)=(p:Int)+1+(k:Int)by omega];exact h12⟩
      · have hy2:isB y=true:=by simpa using q2
        rw[wrap_in (by omega) (by omega)]
        refine hJ _ _ hk2 ⟨by omega,h10,hb10,hc10,hP9.trans hp10,λj hj z hz=>?_⟩
        by_cases e:j=k
        · subst e;rw[hy]at hz;cases hz;exact hy2
        · exact hall j (by omega) z hz
    · have q1:=dfalse q1
      rw[bs_size_i]at q1
      obtain rfl:k=t.length:=by omega
      rw[badAt_none λj y hy=>hall j (List.getElem?_eq_some_iff.1 hy).1 y hy]at hR
      refine⟨_,h9.at_,?_⟩
      rw[wrap_in (n:=(t.length:Int)+2) (by omega) (by omega),wrap_in (by omega) (by omega)]
      refine h9.st_at (p':=p+1+(t.length+1)) (by omega) (by omega) λw10 h10 hf10=>?_
      have hb10:=hf10.blk hb9 (by omega)
      have hc10:=hf10.blk hc9 (by omega)
      refine⟨_,cl hb10 0,_,cl hb10 1,_,cl hb10 2,?_⟩
      exact out (w6:=w10) (t5:=⟨2,t0.at_,bs t⟩) h10 (pfr hP9 hf10) hc10 λw12 h12 hf12=>hR _ _ ⟨hf12,rfl,h12⟩
  · have hlt:¬t.length<(lineOf r).length:=λh9=>hin (hiff.1 h9)
    rw[if_neg hlt,if_neg hin]at *
    refine Br.t (decide_eq_true (by omega)) ⟨_,h4.at_,h4.st_bd λw6 h6 hf6=>?_⟩
    have hb1:=hf6.blk hb1 (by omega)
    have hb2:=hf6.blk hb2 (by omega)
    refine⟨_,cl hb1 0,_,cl hb1 1,_,cl hb1 2,?_⟩
    exact out (w6:=w6) (t5:=t0) h6 (pfr hP4 hf6) (show TokB w6 w1.heap.size zeroT from hb2) λw12 h12 hf12=>hR _ _ ⟨hf12,⟨_,rfl⟩,by rw[Nat.add_zero];exact h12⟩
end Go.Proofs.YtjbfehippchniaaGreatDoor

/- Lex: dates and signs, as the scanner takes them. The signs: what the library's tables of letters and of bytes lay. -/
set_option maxRecDepth 100000
set_option linter.unusedVariables false
set_option linter.unusedSimpArgs false
namespace Go.Proofs.YtjbfehippchniaaGreatDoor
open Go.Sh Go.Sh.Lx Go.RowKit
variable {w0 w w' : World} {b p : Nat} {d : List UInt8} {l g : Bool} {bad : Int}
theorem datesD_ext(l:List UInt8)(h:13<=l.length):((((bs l).extract ((2:Int).toNat) ((6:Int).toNat)) ++ ((bs l).extract ((7:Int).toNat) ((9:Int).toNat))) ++ ((bs l).extract ((10:Int).toNat) ((12:Int).toNat)))=bs (datesD l)/\(datesD l).length=8:=by
  have e1:(2:Int).toNat=2:=rfl
  have e2:(6:Int).toNat=6:=rfl
  have e3:(7:Int).toNat=7:=rfl
  have e4:(9:Int).toNat=9:=rfl
  have e5:(10:Int).toNat=10:=rfl
  have e6:(12:Int).toNat=12:=rfl
  rw[e1,e2,e3,e4,e5,e6,extract_take,extract_take,extract_take,bs_append,bs_append]
  unfold datesD
  rw[List.drop_take,List.drop_take,List.drop_take]
  refine⟨rfl,?_⟩
  simp only[List.length_append,List.length_take,List.length_drop]
  omega
theorem take2_ext(l:List UInt8):((bs l).extract 0 ((2:Int).toNat))=bs (l.take 2):=by
  have e1:(2:Int).toNat=2:=rfl
  rw[e1,extract_take,List.drop_zero]
theorem byte45(x:UInt8)(n:Nat)(hn:n<256):((((x.toNat:Nat):Int)) != (n:Int))=!decide (x=UInt8.ofNat n):=by
  have:(((x.toNat:Nat):Int) == (n:Int))=decide (x=UInt8.ofNat n):=by
    rw[beq_dec]
    apply dec_eq
    constructor
    · intro h
      apply UInt8.toNat_inj.1
      simp;omega
    · intro h;rw[h];simp;omega
  unfold bne;rw[this]
theorem date_c(h:Sc w0 w b d p l g bad):Calls Tryz.prog 191 #[.pointer (some ⟨b,0,none⟩)] w λe w'=>Pu w w'/\∃s n k,e=.returned (.tuple #[.string s,.int .i64 n,.bool k])/\match dateL (d.drop p)with
    | some (x,m)=>s=bs x/\n=(m:Int)/\k=true
    | none=>k=false:=by
  have hlim:=h.lim
  have hle:=h.le
  obtain⟨L,hL⟩:∃L,L=d.drop p:=⟨_,rfl⟩
  have hLl:L.length<=4000:=by rw[hL,List.length_drop];omega
  rw[←hL]
  refine calls_by (F191_calls _ w) λR hR=>dwE_intro λw1 hp1 _=>?_
  have h1:=h.pu hp1
  refine⟨_,h1.s,_,h1.at_,Nat.le_refl _,by omega,by rw[bs_size,toNat_i];exact hle,?_⟩
  rw[toNat_i,extract_drop,←hL]
  refine(hasPrefix_c L [123,125] w1).mono ?_
  rintro e w2 ⟨rfl,rfl⟩
  refine⟨_,rfl,Br.of (λq=>?_) (λq=>?_)⟩
  · have q:L.take 2=[123,125]:=dtrue q
    refine hR _ _ ⟨hp1,_,_,_,rfl,?_⟩
    unfold dateL;rw[if_pos q];exact⟨rfl,rfl,rfl⟩
  · have q:¬L.take 2=[123,125]:=dfalse q
    have no:∀{w3:World},Pu w w3->(L.length<13∨L.take 2 ≠ [123,94]∨L[6]? ≠ some 45∨L[9]? ≠ some 45∨L[12]? ≠ some 125)->F191_1 R (bs L) true [] w3:=λ{w3} hp3 hn=>by
      refine hR _ _ ⟨hp3,_,_,_,rfl,?_⟩
      unfold dateL;rw[if_neg q,if_pos hn]
    refine Br.of (λq1=>?_) (λq1=>?_)
    · exact no hp1 (.inl (by have:=dtrue q1;rw[bs_size_i]at this;omega))
    · have q1:13<=L.length:=by have:=dfalse q1;rw[bs_size_i]at this;omega
      refine⟨by omega,by rw[bs_size];show 2<=_;omega,by omega,?_⟩
      have e123:(⟨#[123,94]⟩:ByteArray)=bs [123,94]:=rfl
      rw[take2_ext,e123,bs_beq]
      refine Br.of (λq2=>?_) (λq2=>?_)
      · exact no hp1 (.inr (.inl (by simpa using q2)))
      · have q2:L.take 2=[123,94]:=by simpa using q2
        obtain⟨x6,hx6⟩:=at_k (l:=L) (k:=6) (by omega)
        obtain⟨x9,hx9⟩:=at_k (l:=L) (k:=9) (by omega)
        obtain⟨x12,hx12⟩:=at_k (l:=L) (k:=12) (by omega)
        have b6:=byte45 x6 45 (by omega)
        have b9:=byte45 x9 45 (by omega)
        have b12:=byte45 x12 125 (by omega)
        refine⟨x6,by omega,bs_get hx6,?_⟩
        rw[show(((x6.toNat:Nat):Int) != 45)=_ from b6]
        refine Br.of (λq3=>?_) (λq3=>?_)
        · exact no hp1 (.inr (.inr (.inl (by rw[hx6];simpa using q3))))
        · have q3:x6=45:=by simpa using q3
          subst q3
          refine⟨x9,by omega,bs_get hx9,?_⟩
          rw[show(((x9.toNat:Nat):Int) != 45)=_ from b9]
          refine Br.of (λq4=>?_) (λq4=>?_)
          · exact no hp1 (.inr (.inr (.inr (.inl (by rw[hx9];simpa using q4)))))
          · have q4:x9=45:=by simpa using q4
            subst q4
            refine⟨x12,by omega,bs_get hx12,?_⟩
            rw[show(((x12.toNat:Nat):Int) != 125)=_ from b12]
            by_cases q5:x12=125
            · subst q5
              show F191_1 R (bs L) (!decide ((125:UInt8)=125)) [] w2
              rw[decide_eq_true rfl]
              have hdl:dateL L=if (unstampS (datesD L)).2=true/\datesD L ≠ List.replicate 8 32 then some (datesD L,13)else none:=by
                unfold dateL;rw[if_neg q,if_neg]
                rw[hx6,hx9,hx12,q2]
                simp;omega
              obtain⟨hx,hlen8⟩:=datesD_ext L q1
              refine Br.f rfl (dwE_intro λw3 hp3 _=>?_)
              have e6:(6:Int).toNat=6:=rfl
              have e9:(9:Int).toNat=9:=rfl
              have e12:(12:Int).toNat=12:=rfl
              have hsz:=bs_size L
              have hcat:(((bs L).extract ((2:Int).toNat) ((6:Int).toNat)).size+((bs L).extract ((7:Int).toNat) ((9:Int).toNat)).size:Nat)<=9223372036854775807:=by
                rw[ByteArray.size_extract,ByteArray.size_extract];omega
              refine⟨by omega,by omega,by omega,by decide,by omega,by omega,by omega,by decide,by omega,by omega,by omega,by omega,by decide,?_,?_⟩
              · have:((bs L).extract ((2:Int).toNat) ((6:Int).toNat) ++ (bs L).extract ((7:Int).toNat) ((9:Int).toNat)).size=((bs L).extract ((2:Int).toNat) ((6:Int).toNat)).size+((bs L).extract ((7:Int).toNat) ((9:Int).toNat)).size:=ByteArray.size_append
                rw[this,ByteArray.size_extract,ByteArray.size_extract,ByteArray.size_extract];omega
              · rw[hx]
                refine(unstamp_c (bs (datesD L)) (by rw[bs_size];omega) w3).mono ?_
                rintro e w4 ⟨rfl,hp4⟩
                rw[bs_list]
                have hP4:=(hp1.trans hp3).trans hp4
                refine⟨_,_,rfl,Br.of (λq6=>?_) (λq6=>?_)⟩
                · have e8:(⟨#[32,32,32,32,32,32,32,32]⟩:ByteArray)=bs (List.replicate 8 32):=rfl
                  rw[e8,bs_beq]
                  refine hR _ _ ⟨hP4,_,_,_,rfl,?_⟩
                  rw[hdl]
                  by_cases q7:datesD L=List.replicate 8 32
                  · rw[if_neg (by simp[q7]),decide_eq_true q7];rfl
                  · rw[if_pos ⟨q6,q7⟩,decide_eq_false q7];exact⟨rfl,rfl,rfl⟩
                · refine hR _ _ ⟨hP4,_,_,_,rfl,?_⟩
                  rw[hdl,if_neg (by rw[q6];simp)]
            · show F191_1 R (bs L) (!decide (x12=125)) [] w2
              rw[decide_eq_false q5]
              exact no hp1 (.inr (.inr (.inr (.inr (by rw[hx12];simpa using q5)))))
structure Laid(w:World):Prop where
  case:Lib.CaseVar 1 Lib.caseA w
  tabs:Lib.Utf8Tabs 2 3 w
theorem Laid.pu(h:Laid w)(hp:Pu w w'):Laid w':=⟨Lib.CaseVar_below h.case hp,λc hc=>hp.cell (h.tabs.1 c hc),λi hi=>⟨hp.cell (h.tabs.2 i hi).1,hp.cell (h.tabs.2 i hi).2⟩⟩
theorem upper_c(hL:Laid w)(l:List UInt8)(hl:l.length<=4000):Calls Tryz.prog 80 #[.string (bs l)] w λe w'=>e=.returned (.string (bs (Lib.toUpperD l)))/\Pu w w':=by
  refine(Any.strings_ToUpper_any Tryz.lays158 Tryz.Builder_Extra_158 (bs l) w (by rw[bs_size];omega) hL.case hL.tabs).mono ?_
  rintro e w' ⟨rfl,hp⟩
  rw[bs_list]
  exact⟨rfl,hp⟩
theorem signs_low:∀x ∈ signsS,∀y ∈ x,y.toNat<128:=by decide
theorem signs_len:∀x ∈ signsS,1<=x.length/\x.length<=6:=by decide
theorem rd_strs {r:Nat} {e:TypeId} {l:List ByteArray} (hb:w.heap[r]?=some (.cells (l.map Value.string).toArray e)) (hl:l.length<=140737488355328):RdSl w ⟨some ⟨r,0,none⟩,l.length,l.length⟩ l:=
  ⟨rfl,Nat.le_refl _,hl,λi x hx=>⟨_,rfl,[.string x],rfl,λj v hv=>by
    have hj:j=0:=by cases j with
      | zero=>rfl
      | succ j=>simp at hv
    subst hj
    simp at hv
    subst hv
    rw[add_def,add_def,cell_blk hb]
    show((l.map Value.string).toArray)[0+i * 1+0]?=_
    rw[show 0+i * 1+0=i by omega]
    simp[hx]⟩⟩
theorem signs_c(w:World):Calls Tryz.prog 203 #[] w λe w'=>Pu w w'/\∃s:SV,e=.returned (.slice s.a s.len s.cap)/\RdSl w' s (signsS.map bs):=by
  refine calls_by (F203_calls w) λR hR=>alB λw1 hp1 hb1=>hR _ _ ⟨hp1,⟨some ⟨w.heap.size,0,none⟩,38,38⟩,rfl,?_⟩
  exact rd_strs (l:=signsS.map bs) hb1 (by decide)
theorem sign_c(hL:Laid w0)(h:Sc w0 w b d p l g bad)(t0:Tok):Calls Tryz.prog 192 #[.pointer (some ⟨b,0,none⟩),.agg (tokV t0).toArray] w λe w'=>Fr (·=b) w w'/\match signS (d.drop p)with
    | some x=>e=retE ⟨4,t0.at_,bs x⟩ true/\Sc w0 w' b d (p+x.length) l g bad/\p+x.length<=d.length
    | none=>(∃t,e=retE t false)/\Sc w0 w' b d p l g (p:Int):=by
  have hlim:=h.lim
  have hle:=h.le
  have hbl:=blk_lt h.blk
  have hnew:=h.new
  have hsi:=h.since.size
  refine calls_by (F192_calls _ _ _ _ w) λR hR=>alB λw1 hp1 hb1=>alB λw2 hp2 hb2=>?_
  have hr1:=blk_lt hb1
  have hs1:=hp1.size
  have hs2:=hp2.size
  have hb1:=hp2.blk hb1
  refine st1_intro hb1 (by simp) λw3 hw3 hb3=>?_
  have hf3:Fr (·=w.heap.size) w2 w3:=by rw[hw3];exact Fr.setCell w2 ⟨w.heap.size,0,none⟩ _
  have hb3:TokB w3 w.heap.size ⟨4,t0.at_,t0.text⟩:=hb3
  have hb2:=hf3.blk hb2 (by omega)
  have hP3:Pu w w3:=Pu.andNew (hp1.trans hp2) hf3 (λi hi=>by rw[show i=_ from hi];omega)
  refine(signs_c w3).mono ?_
  rintro e w4 ⟨hp4,s,rfl,hs⟩
  have hb3:=hp4.blk hb3
  have hb2:=hp4.blk hb2
  have h4:=h.pu (hP3.trans hp4)
  refine⟨s,rfl,?_⟩
  have hsl:s.len=38:=by rw[hs.len];rfl
  -- a token handed back out of the second block
  have out:∀{w5:World} {t5 t6:Tok} {k:Bool} {p':Nat} {bad':Int},Sc w0 w5 b d p' l g bad'->Fr (·=b) w w5->TokB w5 w1.heap.size t6->(∀w',Sc w0 w' b d p' l g bad'->Fr (·=b) w w'->R (retE t5 k) w')->
      stA Tryz.prog 30 (⟨w1.heap.size,0,none⟩:Addr) #[.int .i64 t5.kind,.int .i64 t5.at_,.string t5.text] w5 λw'=>∃n0:Int,w'.cell? ((⟨w1.heap.size,0,none⟩:Addr).add 0)=some (.int .i64 n0)/\∃n1:Int,w'.cell? ((⟨w1.heap.size,0,none⟩:Addr).add 1)=some (.int .i64 n1)/\
      ∃s2:ByteArray,w'.cell? ((⟨w1.heap.size,0,none⟩:Addr).add 2)=some (.string s2)/\R (.returned (.tuple #[.agg #[.int .i64 n0,.int .i64 n1,.string s2],.bool k])) w':=λ{w5 t5 t6 k p' bad'} h5 hf5 hb5 hk=>
    outT hb5 λw8 hf8=>hk w8 (h5.fr hf8 (by omega) (λi hi=>by rw[show i=_ from hi];omega)) (hf5.trans hf8 λi hi hlt=>by rw[show i=_ from hi]at hlt;omega)
  rw[hsl]
  refine loopUp 38 (λk t w'=>t=(k:Int)/\Pu w w'/\RdSl w' s (signsS.map bs)/\TokB w' w.heap.size ⟨4,t0.at_,t0.text⟩/\TokB w' w1.heap.size zeroT/\signS (d.drop p)=(signsS.drop k).find? λx=>decide (((d.drop p).take x.length).map capU=x)) ⟨rfl,hP3.trans hp4,hs,hb3,hb2,rfl⟩ ?_
  rintro k J t w5 hk ⟨rfl,hP5,hs5,hb5,hc5,hfind⟩ hJ
  have h5:=h.pu hP5
  refine Br.of (λq=>?_) (λq=>?_)
  · have hk2:k<38:=by have:=dtrue q;omega
    obtain⟨x,hx⟩:=at_k (l:=signsS) (k:=k) hk2
    have hxm:=List.mem_of_getElem? hx
    have hxl:=signs_len x hxm
    obtain⟨a,ha,_,hc⟩:=hs5.str (i:=k) (x:=bs x) (by rw[List.getElem?_map,hx];rfl)
    rw[drop_at hx,List.find?_cons]at hfind
    refine⟨a,ha,by omega,by omega,_,by rw[toNat_i];exact hc,_,h5.at_,?_⟩
    rw[bs_size_i,wrap_in (n:=(p:Int)+(x.length:Int)) (by omega) (by omega),wrap_in (n:=(k:Int)+1) (by omega) (by omega)]
    refine dwE_intro λw6 hp6 _=>?_
    have h6:=h5.pu hp6
    have e1:((p:Int)+(x.length:Int)).toNat=p+x.length:=by omega
    refine⟨_,h6.s,Br.of (λq1=>?_) (λq1=>?_)⟩
    · have q1:=dtrue q1
      rw[bs_size_i]at q1
      refine⟨_,h6.s,_,h6.at_,by omega,by rw[e1,bs_size];omega,by omega,by rw[e1,toNat_i];omega,?_⟩
      rw[e1,toNat_i,extract_take]
      have hsub:(d.take (p+x.length)).drop p=(d.drop p).take x.length:=by
        rw[List.take_add,List.drop_append,List.drop_eq_nil_of_le (by rw[List.length_take];omega),List.nil_append,List.length_take,Nat.min_eq_left (by omega),Nat.sub_self,List.drop_zero]
      rw[hsub]
      have hlen:((d.drop p).take x.length).length=x.length:=by rw[List.length_take,List.length_drop];omega
      refine(upper_c (hL.pu h6.since) _ (by omega)).mono ?_
      rintro e w7 ⟨rfl,hp7⟩
      have h7:=h6.pu hp7
      have hb7:=(hp6.trans hp7).blk hb5
      have hc7:=(hp6.trans hp7).blk hc5
      refine⟨_,rfl,?_⟩
      rw[bs_beq,show decide (Lib.toUpperD ((d.drop p).take x.length)=x)=decide (((d.drop p).take x.length).map capU=x)from dec_eq (upD_eq (signs_low x hxm) hlen)]
      refine Br.of (λq2=>?_) (λq2=>?_)
      · rw[q2]at hfind
        rw[ptrE_some,add_def]
        refine st1_intro hb7 (by simp) λw8 hw8 hb8=>?_
        have hf8:Fr (·=w.heap.size) w7 w8:=by rw[hw8];exact Fr.setCell w7 ⟨w.heap.size,0+2,none⟩ _
        have hb8:TokB w8 w.heap.size ⟨4,t0.at_,bs x⟩:=hb8
        have hc8:=hf8.blk hc7 (by omega)
        have h8:=h7.fr hf8 (by omega) (λi hi=>by rw[show i=_ from hi];omega)
        have hP8:Pu w w8:=Pu.andNew ((hP5.trans hp6).trans hp7) hf8 (λi hi=>by rw[show i=_ from hi];omega)
        refine h8.st_at (p':=p+x.length) (by omega) (by omega) λw9 h9 hf9=>?_
        have hb9:=hf9.blk hb8 (by omega)
        have hc9:=hf9.blk hc8 (by omega)
        refine⟨_,cl hb9 0,_,cl hb9 1,_,cl hb9 2,?_⟩
        refine out (t5:=⟨4,t0.at_,bs x⟩) h9 (pfr hP8 hf9) (show TokB w9 w1.heap.size zeroT from hc9) λw10 h10 hf10=>hR _ _ ⟨hf10,?_⟩
        rw[hfind]
        exact⟨rfl,h10,by omega⟩
      · rw[q2]at hfind
        exact hJ _ _ hk2 ⟨by omega,(hP5.trans hp6).trans hp7,hs5.pu (hp6.trans hp7),hb7,hc7,hfind⟩
    · have q1:=dfalse q1
      rw[bs_size_i]at q1
      have hne:decide (((d.drop p).take x.length).map capU=x)=false:=decide_eq_false λe=>by
        have:=congrArg List.length e
        rw[List.length_map,List.length_take,List.length_drop]at this;omega
      rw[hne]at hfind
      exact hJ _ _ hk2 ⟨by omega,hP5.trans hp6,hs5.pu hp6,hp6.blk hb5,hp6.blk hc5,hfind⟩
  · have hk2:k=38:=by have:=dfalse q;omega
    subst hk2
    have hfind:signS (d.drop p)=none:=hfind
    rw[hfind]at hR
    refine⟨_,h5.at_,h5.st_bd λw6 h6 hf6=>?_⟩
    have hb6:=hf6.blk hb5 (by omega)
    have hc6:=hf6.blk hc5 (by omega)
    refine⟨_,cl hb6 0,_,cl hb6 1,_,cl hb6 2,?_⟩
    exact out (t5:=⟨4,t0.at_,t0.text⟩) h6 (pfr hP5 hf6) (show TokB w6 w1.heap.size zeroT from hc6) λw10 h10 hf10=>hR _ _ ⟨hf10,⟨_,rfl⟩,h10⟩
end Go.Proofs.YtjbfehippchniaaGreatDoor

/- Lex: the reference's bytes, capitals and signs. No condition but those stated. -/
set_option maxRecDepth 100000
set_option linter.unusedVariables false
set_option linter.unusedSimpArgs false
namespace Go.Proofs.YtjbfehippchniaaGreatDoor
open Go.Sh Go.Sh.Lx Go.RowKit
variable {w0 w w' : World}
theorem isBlank_c(x:UInt8)(w:World):Calls Tryz.prog 29 #[.int .u8 ((x.toNat:Nat):Int)] w λe w'=>e=.returned (.bool (blkB x))/\w'=w:=by
  refine calls_by (F29_calls _ w) λR hR=>Br.of (λq=>hR _ _ ⟨?_,rfl⟩) (λq=>hR _ _ ⟨?_,rfl⟩)
  · unfold Lx.blkB;rw[decide_eq_true (by have:=btrue q;omega)];rfl
  · unfold Lx.blkB
    congr 2
    rw[decide_eq_false (by have:=bfalse q;omega),Bool.false_or,beq_dec];exact dec_eq (by omega)
theorem isByte_c(x:UInt8)(w:World):Calls Tryz.prog 59 #[.int .u8 ((x.toNat:Nat):Int)] w λe w'=>e=.returned (.bool (isB x))/\w'=w:=by
  refine calls_by (F59_calls _ w) λR hR=>Br.of (λq=>hR _ _ ⟨?_,rfl⟩) (λq=>Br.of (λq2=>hR _ _ ⟨?_,rfl⟩) (λq2=>Br.of (λq3=>hR _ _ ⟨?_,rfl⟩) (λq3=>hR _ _ ⟨?_,rfl⟩)))
  all_goals unfold isB;congr 2
  · have:=btrue q;symm;simp;omega
  · have:=btrue q2;symm;simp;omega
  · have h1:=bfalse q;have h2:=bfalse q2;have h3:=dtrue q3
    rw[decide_eq_false (show ¬x.toNat=9 by omega),decide_eq_false (show ¬x.toNat=10 by omega),decide_eq_true (show 32<=x.toNat by omega)]
    simp only[Bool.false_or,Bool.true_and];exact dec_eq (by omega)
  · have h1:=bfalse q;have h2:=bfalse q2;have h3:=dfalse q3
    symm;simp;omega
theorem isLetter_c(x:UInt8)(w:World):Calls Tryz.prog 27 #[.int .u8 ((x.toNat:Nat):Int)] w λe w'=>e=.returned (.bool (letB x))/\w'=w:=by
  refine calls_by (F27_calls _ w) λR hR=>Br.of (λq=>hR _ _ ⟨?_,rfl⟩) (λq=>Br.of (λq2=>Br.of (λq3=>hR _ _ ⟨?_,rfl⟩) (λq3=>Br.of (λq4=>hR _ _ ⟨?_,rfl⟩) (λq4=>hR _ _ ⟨?_,rfl⟩))) (λq2=>Br.of (λq4=>hR _ _ ⟨?_,rfl⟩) (λq4=>hR _ _ ⟨?_,rfl⟩)))
  all_goals unfold letB;congr 2
  · have:=btrue q;symm;simp;omega
  · have:=dtrue q2;have:=dtrue q3;symm;simp;omega
  · have h1:=bfalse q;have h2:=dtrue q2;have h3:=dfalse q3;have h4:=dtrue q4
    rw[decide_eq_false (show ¬x.toNat=95 by omega),decide_eq_false (show ¬x.toNat<=122 by omega),decide_eq_true (show 65<=x.toNat by omega)]
    simp only[Bool.false_or,Bool.true_and,Bool.and_false];exact dec_eq (by omega)
  · have h1:=bfalse q;have h2:=dtrue q2;have h3:=dfalse q3;have h4:=dfalse q4
    symm;simp;omega
  · have h1:=bfalse q;have h2:=dfalse q2;have h4:=dtrue q4
    rw[decide_eq_false (show ¬x.toNat=95 by omega),decide_eq_false (show ¬97<=x.toNat by omega),decide_eq_true (show 65<=x.toNat by omega)]
    simp only[Bool.false_or,Bool.true_and,Bool.false_and];exact dec_eq (by omega)
  · have h1:=bfalse q;have h2:=dfalse q2;have h4:=dfalse q4
    symm;simp;omega
theorem capital_c(x:UInt8)(w:World):Calls Tryz.prog 96 #[.int .u8 ((x.toNat:Nat):Int)] w λe w'=>e=.returned (.int .u8 (((capU x).toNat:Nat):Int))/\w'=w:=by
  refine calls_by (F96_calls _ w) λR hR=>Br.of (λq=>Br.of (λq2=>hR _ _ ⟨?_,rfl⟩) (λq2=>hR _ _ ⟨?_,rfl⟩)) (λq=>hR _ _ ⟨?_,rfl⟩)
  · have h1:=dtrue q;have h2:=dtrue q2
    have e:(capU x).toNat=x.toNat - 32:=by
      have:∀n:Nat,n<256->97<=n->n<=122->(capU (UInt8.ofNat n)).toNat=n - 32:=by decide +kernel
      have h3:=this x.toNat x.toNat_lt (by omega) (by omega)
      rwa [UInt8.ofNat_toNat]at h3
    rw[e,IntKind.wrap_u8]
    congr 2;omega
  · have h2:=dfalse q2;unfold capU;rw[if_neg (by omega)]
  · have h2:=dfalse q;unfold capU;rw[if_neg (by omega)]
theorem u9s:Tryz.prog.underlying 9=some .string:=by kernel_rfl
theorem u70s:Tryz.prog.underlying 57=some (.slice 5):=by kernel_rfl
theorem u5s:Tryz.prog.underlying 5=some (.int .u8):=by kernel_rfl
theorem capitals_c(s:List UInt8)(hs:s.length<=140737488355328)(w:World):Calls Tryz.prog 63 #[.string (bs s)] w λe w'=>e=.returned (.string (bs (s.map capU)))/\Pu w w':=by
  refine calls_by (F63_calls _ w) λR hR=>?_
  obtain⟨l,w1,hrun,hp1,hm⟩:=conv_mark (P:=Tryz.prog) u9s u70s u5s (bs s) (by rw[bs_size];exact hs) w
  rw[bs_list]at hm
  refine⟨l,w1,hrun,?_⟩
  have hl0:=hm.len
  refine loopUp s.length (λk t w'=>t=(k:Int)/\Pu w w'/\MRow 5 w w' l ((s.take k).map capU ++ s.drop k)) ⟨rfl,hp1,hm⟩ ?_
  rintro k J t w2 hk ⟨rfl,hp2,hm2⟩ hJ
  have hl:=hm2.len
  have hlen:((s.take k).map capU ++ s.drop k).length=s.length:=by simp;omega
  refine Br.of (λq=>?_) (λq=>?_)
  · have q:=dtrue q
    have hk2:k<s.length:=by omega
    obtain⟨x,hx⟩:=at_k hk2
    have hgx:((s.take k).map capU ++ s.drop k)[k]?=some x:=by
      rw[List.getElem?_append_right (by simp;omega)]
      simp only[List.length_map,List.length_take,Nat.min_eq_left (Nat.le_of_lt hk2),Nat.sub_self]
      rw[get_drop];simpa using hx
    obtain⟨a,ha,hc⟩:=hm2.cell hgx
    refine⟨a,ha,by omega,by omega,_,by rw[toNat_i];exact hc,(capital_c x w2).mono ?_⟩
    rintro e w3 ⟨rfl,rfl⟩
    obtain⟨a2,ha2,hst⟩:=hm2.st1 hp2 (j:=k) (by omega) (capU x) (K:=λw6=>J (IntKind.i64.wrap ((k:Int)+1)) w6) λw6 hm6 hp6=>by
      rw[wrap_in (by omega) (by omega)]
      refine hJ _ _ hk2 ⟨by omega,hp6,?_⟩
      have e:(((s.take k).map capU ++ s.drop k)).set k (capU x)=(s.take (k+1)).map capU ++ s.drop (k+1):=by
        rw[List.set_append_right _ _ (by simp;omega)]
        simp only[List.length_map,List.length_take,Nat.min_eq_left (Nat.le_of_lt hk2),Nat.sub_self]
        rw[drop_at hx,List.set_cons_zero,take_at hx,List.map_append,List.append_assoc];rfl
      rw[e]at hm6;exact hm6
    exact⟨_,rfl,a2,ha2,by omega,by omega,by rw[toNat_i];exact hst⟩
  · have q:=dfalse q
    obtain rfl:k=s.length:=by omega
    have e:(s.take s.length).map capU ++ s.drop s.length=s.map capU:=by rw[List.take_length,List.drop_length,List.append_nil]
    rw[e]at hm2
    exact⟨_,w2,conv_text (P:=Tryz.prog) u9s u70s u5s hm2,hR _ _ ⟨rfl,hp2⟩⟩
theorem rsigns_c(w:World):Calls Tryz.prog 98 #[] w λe w'=>Pu w w'/\∃s:SV,e=.returned (.slice s.a s.len s.cap)/\RdSl w' s (signsS.map bs):=by
  refine calls_by (F98_calls w) λR hR=>alB λw1 hp1 hb1=>hR _ _ ⟨hp1,⟨some ⟨w.heap.size,0,none⟩,38,38⟩,rfl,?_⟩
  exact rd_strs (l:=signsS.map bs) hb1 (by decide)
theorem sub_ext{d:List UInt8}{p n:Nat}(h:p+n<=d.length):(bs d).extract p (p+n)=bs ((d.drop p).take n):=by
  rw[extract_take,List.take_add,List.drop_append,List.drop_eq_nil_of_le (by rw[List.length_take];omega),List.nil_append,List.length_take,Nat.min_eq_left (by omega),Nat.sub_self,List.drop_zero]
theorem signAt_c{d:List UInt8}(hd:d.length<=4000){p:Nat}(hp:p<=d.length)(w:World):Calls Tryz.prog 66 #[.string (bs d),.int .i64 (p:Int)] w λe w'=>Pu w w'/\e=.returned (.string (bs ((signS (d.drop p)).getD []))):=by
  refine calls_by (F66_calls _ _ w) λR hR=>(rsigns_c w).mono ?_
  rintro e w1 ⟨hp1,s,rfl,hs⟩
  refine⟨s,rfl,?_⟩
  have hsl:s.len=38:=by rw[hs.len];rfl
  refine loopUp 38 (λk t w'=>t=(k:Int)/\Pu w w'/\RdSl w' s (signsS.map bs)/\signS (d.drop p)=(signsS.drop k).find? λx=>decide (((d.drop p).take x.length).map capU=x)) ⟨rfl,hp1,hs,rfl⟩ ?_
  rintro k J t w5 hk ⟨rfl,hP5,hs5,hfind⟩ hJ
  refine Br.of (λq=>?_) (λq=>?_)
  · have hk2:k<38:=by have:=dtrue q;omega
    obtain⟨x,hx⟩:=at_k (l:=signsS) (k:=k) hk2
    have hxm:=List.mem_of_getElem? hx
    have hxl:=signs_len x hxm
    have hget:∀{w6:World},Pu w5 w6->∃a,s.a=some a/\w6.cell? (a.add (((k:Int)).toNat * 1))=some (.string (bs x)):=λ{w6} hp6=>by
      obtain⟨a,ha,_,hc⟩:=(hs5.pu hp6).str (i:=k) (x:=bs x) (by rw[List.getElem?_map,hx];rfl)
      exact⟨a,ha,by rw[toNat_i];exact hc⟩
    obtain⟨a,ha,hc⟩:=hget (Pu.refl w5)
    rw[drop_at hx,List.find?_cons]at hfind
    refine⟨a,ha,by omega,by omega,_,hc,dwE_intro λw6 hp6 _=>?_⟩
    rw[bs_size_i,bs_size_i,wrap_in (n:=(p:Int)+(x.length:Int)) (by omega) (by omega),wrap_in (n:=(k:Int)+1) (by omega) (by omega)]
    have e1:((p:Int)+(x.length:Int)).toNat=p+x.length:=by omega
    refine⟨λw'=>Pu w5 w',hp6,Br.of (λq1=>?_) (λq1=>?_)⟩
    · have q1:=dtrue q1
      refine⟨by omega,by rw[e1,bs_size];omega,by omega,by rw[e1,toNat_i];omega,a,ha,by omega,by omega,bs x,λw' hw'=>?_,?_⟩
      · obtain⟨a',ha',hc'⟩:=hget hw'
        rw[ha]at ha';cases ha';exact hc'
      rw[e1,toNat_i,sub_ext (by omega)]
      refine(capitals_c _ (by rw[List.length_take,List.length_drop];omega) w6).mono ?_
      rintro e w7 ⟨rfl,hp7⟩
      refine⟨_,rfl,hp6.trans hp7,?_⟩
      rw[bs_beq]
      refine Br.of (λq2=>?_) (λq2=>?_)
      · rw[q2]at hfind
        obtain⟨a',ha',hc'⟩:=hget (hp6.trans hp7)
        rw[toNat_i]at hc'
        refine⟨a',ha',by omega,by omega,_,hc',hR _ _ ⟨(hP5.trans hp6).trans hp7,?_⟩⟩
        rw[hfind];rfl
      · rw[q2]at hfind
        exact hJ _ _ hk2 ⟨by omega,(hP5.trans hp6).trans hp7,hs5.pu (hp6.trans hp7),hfind⟩
    · have q1:=dfalse q1
      have hne:decide (((d.drop p).take x.length).map capU=x)=false:=decide_eq_false λe=>by
        have:=congrArg List.length e
        rw[List.length_map,List.length_take,List.length_drop]at this;omega
      rw[hne]at hfind
      exact hJ _ _ hk2 ⟨by omega,hP5.trans hp6,hs5.pu hp6,hfind⟩
  · have hk2:k=38:=by have:=dfalse q;omega
    subst hk2
    have hfind:signS (d.drop p)=none:=hfind
    refine hR _ _ ⟨hP5,?_⟩
    rw[hfind];rfl
end Go.Proofs.YtjbfehippchniaaGreatDoor
