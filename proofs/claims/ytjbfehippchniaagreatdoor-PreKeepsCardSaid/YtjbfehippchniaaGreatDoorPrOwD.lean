import Derived.Test.YtjbfehippchniaaGreatDoorPrOwC
import Derived.Test.YtjbfehippchniaaGreatDoorPrPrA
import Derived.Lib.OthersKept
import Derived.Test.YtjbfehippchniaaGreatDoorProg
import Derived.Test.YtjbfehippchniaaGreatDoorShTwentyEight
import Derived.Test.YtjbfehippchniaaGreatDoorPrOwB
import Derived.Test.YtjbfehippchniaaGreatDoorShSeventeen
/- Lex: the reference's reader: dates, texts in quotes, tokens. No condition but those stated. -/
set_option maxRecDepth 100000
set_option linter.unusedVariables false
set_option linter.unusedSimpArgs false
namespace Go.Proofs.YtjbfehippchniaaGreatDoor
open Go.Sh Go.Sh.Lx Go.RowKit
variable {w0 w w' : World} {b p : Nat} {d : List UInt8} {l : Bool} {bad : Int} {s : SV} {ts : List Tok}
theorem digits_ext{d:List UInt8}{p:Nat}(h:p+13<=d.length):((((bs d).extract (p+2) (p+6)) ++ ((bs d).extract (p+7) (p+9))) ++ ((bs d).extract (p+10) (p+12)))=bs (datesD (d.drop p))/\(datesD (d.drop p)).length=8:=by
  have e1:(bs d).extract (p+2) (p+6)=bs ((d.drop (p+2)).take 4):=sub_ext (p:=p+2) (n:=4) (by omega)
  have e2:(bs d).extract (p+7) (p+9)=bs ((d.drop (p+7)).take 2):=sub_ext (p:=p+7) (n:=2) (by omega)
  have e3:(bs d).extract (p+10) (p+12)=bs ((d.drop (p+10)).take 2):=sub_ext (p:=p+10) (n:=2) (by omega)
  rw[e1,e2,e3,bs_append,bs_append]
  unfold datesD
  rw[List.drop_drop,List.drop_drop,List.drop_drop]
  refine⟨rfl,?_⟩
  simp only[List.length_append,List.length_take,List.length_drop]
  omega
theorem two_le{s:ByteArray}(h:s.size<=4000)(a b c e:Nat):(((s.extract a b).size+(s.extract c e).size:Nat):Int)<=9223372036854775807:=by
  rw[ByteArray.size_extract,ByteArray.size_extract];omega
theorem three_le{s:ByteArray}(h:s.size<=4000)(a b c e f g:Nat):(((s.extract a b ++ s.extract c e).size+(s.extract f g).size:Nat):Int)<=9223372036854775807:=by
  rw[ByteArray.size_append,ByteArray.size_extract,ByteArray.size_extract,ByteArray.size_extract];omega
theorem unstamp_blank {l:List UInt8} (h:(unstampS l).2=true) (h8:l.length=8):(l[0]?=some 32 ↔ l=List.replicate 8 32):=by
  constructor
  · intro h0
    apply Classical.byContradiction
    intro hn
    unfold unstampS at h
    rw[if_neg hn,if_neg (by omega)]at h
    by_cases ha:l.all digB=true
    · have:=List.all_eq_true.1 ha 32 (List.mem_of_getElem? h0)
      revert this;decide
    · rw[if_neg ha]at h;cases h
  · intro h;rw[h];rfl
def dateR(l:List UInt8):List UInt8 × Nat:=(dateL l).getD ([],0)
theorem dateAt_c(hd:d.length<=4000)(hp:p<=d.length)(w:World):Calls Tryz.prog 65 #[.string (bs d),.int .i64 (p:Int)] w λe w'=>Pu w w'/\e=.returned (.tuple #[.string (bs (dateR (d.drop p)).1),.int .i64 (((dateR (d.drop p)).2:Nat):Int)]):=by
  obtain⟨L,hL⟩:∃L,L=d.drop p:=⟨_,rfl⟩
  have hLl:L.length=d.length - p:=by rw[hL,List.length_drop]
  have hgL:∀k:Nat,L[k]?=d[p+k]?:=λk=>by rw[hL,get_drop]
  rw[←hL]
  refine calls_by (F65_calls _ _ w) λR hR=>?_
  have wr:∀n:Nat,n<=20->IntKind.i64.wrap ((p:Int)+(n:Int))=((p+n:Nat):Int):=λn hn=>by rw[wrap_in (by omega) (by omega)];omega
  have w1':IntKind.i64.wrap ((p:Int)+1)=((p+1:Nat):Int):=wr 1 (by omega)
  have w2':IntKind.i64.wrap ((p:Int)+2)=((p+2:Nat):Int):=wr 2 (by omega)
  have w6':IntKind.i64.wrap ((p:Int)+6)=((p+6:Nat):Int):=wr 6 (by omega)
  have w7':IntKind.i64.wrap ((p:Int)+7)=((p+7:Nat):Int):=wr 7 (by omega)
  have w9':IntKind.i64.wrap ((p:Int)+9)=((p+9:Nat):Int):=wr 9 (by omega)
  have w10':IntKind.i64.wrap ((p:Int)+10)=((p+10:Nat):Int):=wr 10 (by omega)
  have w12':IntKind.i64.wrap ((p:Int)+12)=((p+12:Nat):Int):=wr 12 (by omega)
  have w13':IntKind.i64.wrap ((p:Int)+13)=((p+13:Nat):Int):=wr 13 (by omega)
  have no:∀{w3:World},Pu w w3->¬L.take 2=[123,125]->(L.length<13∨L.take 2 ≠ [123,94]∨L[6]? ≠ some 45∨L[9]? ≠ some 45∨L[12]? ≠ some 125)->F65_1 R (bs d) (p:Int) true [] w3:=λ{w3} hp3 q hn=>by
    refine hR _ _ ⟨hp3,?_⟩
    unfold dateR dateL;rw[if_neg q,if_pos hn];rfl
  have two:¬L.take 2=[123,125]->F65_2 R (bs d) (p:Int) [] w:=λq=>by
    unfold F65_2
    rw[w13',w2',w6',w9',w12',bs_size_i]
    refine Br.of (λq1=>no (Pu.refl w) q (.inl (by have:=dtrue q1;omega))) (λq1=>?_)
    have q1:p+13<=d.length:=by have:=dfalse q1;omega
    refine⟨by omega,by rw[toNat_i,bs_size];omega,by omega,by rw[toNat_i,toNat_i];omega,?_⟩
    rw[toNat_i,toNat_i,sub_ext (n:=2) (by omega),←hL,show(⟨#[123,94]⟩:ByteArray)=bs [123,94]from rfl,bs_beq]
    refine Br.of (λq2=>no (Pu.refl w) q (.inr (.inl (by simpa using q2)))) (λq2=>?_)
    have q2:L.take 2=[123,94]:=by simpa using q2
    obtain⟨x6,hx6⟩:=at_k (l:=d) (k:=p+6) (by omega)
    obtain⟨x9,hx9⟩:=at_k (l:=d) (k:=p+9) (by omega)
    obtain⟨x12,hx12⟩:=at_k (l:=d) (k:=p+12) (by omega)
    have b6:=byte45 x6 45 (by omega)
    have b9:=byte45 x9 45 (by omega)
    have b12:=byte45 x12 125 (by omega)
    refine⟨x6,by omega,by rw[toNat_i];exact bs_get hx6,?_⟩
    rw[show(((x6.toNat:Nat):Int) != 45)=_ from b6]
    refine Br.of (λq3=>no (Pu.refl w) q (.inr (.inr (.inl (by rw[hgL,hx6];simpa using q3))))) (λq3=>?_)
    have q3:x6=45:=by simpa using q3
    subst q3
    refine⟨x9,by omega,by rw[toNat_i];exact bs_get hx9,?_⟩
    rw[show(((x9.toNat:Nat):Int) != 45)=_ from b9]
    refine Br.of (λq4=>no (Pu.refl w) q (.inr (.inr (.inr (.inl (by rw[hgL,hx9];simpa using q4)))))) (λq4=>?_)
    have q4:x9=45:=by simpa using q4
    subst q4
    refine⟨x12,by omega,by rw[toNat_i];exact bs_get hx12,?_⟩
    rw[show(((x12.toNat:Nat):Int) != 125)=_ from b12]
    by_cases q5:x12=125
    · subst q5
      show F65_1 R (bs d) (p:Int) (!decide ((125:UInt8)=125)) [] w
      rw[decide_eq_true (rfl:(125:UInt8)=125)]
      have hdl:dateL L=if (unstampS (datesD L)).2=true/\datesD L ≠ List.replicate 8 32 then some (datesD L,13)else none:=by
        unfold dateL;rw[if_neg q,if_neg]
        rw[hgL,hgL,hgL,hx6,hx9,hx12,q2]
        simp;omega
      obtain⟨hx,hlen8⟩:=digits_ext q1
      rw[←hL]at hx hlen8
      show F65_1 R (bs d) (p:Int) false [] w
      unfold F65_1
      rw[w2',w6',w7',w9',w10',w12']
      refine Br.f rfl (dwE_intro λw3 hp3 _=>?_)
      simp only[toNat_i]
      have hsz:=bs_size d
      refine⟨by omega,by omega,by omega,by omega,by omega,by omega,by omega,by omega,two_le (by rw[hsz];exact hd) _ _ _ _,by omega,by omega,by omega,by omega,?_,?_⟩
      · exact three_le (by rw[hsz];exact hd) _ _ _ _ _ _
      · rw[hx]
        refine(rUnstamp_c (bs (datesD L)) (by rw[bs_size];omega) w3).mono ?_
        rintro e w4 ⟨rfl,hp4⟩
        rw[bs_list]
        have hP4:=hp3.trans hp4
        refine⟨_,_,rfl,Br.of (λq6=>?_) (λq6=>?_)⟩
        · have q6:(unstampS (datesD L)).2=false:=by simpa using q6
          refine hR _ _ ⟨hP4,?_⟩
          unfold dateR;rw[hdl,if_neg (by rw[q6];simp)];rfl
        · have q6:(unstampS (datesD L)).2=true:=by simpa using q6
          obtain⟨y,hy⟩:=at_k (l:=datesD L) (k:=0) (by omega)
          have hbl:=unstamp_blank q6 hlen8
          have e32:(((y.toNat:Nat):Int) == 32)=decide (y=32):=by
            rw[beq_dec]
            exact dec_eq ⟨λh=>UInt8.toNat_inj.1 (by show y.toNat=32;omega),λh=>by rw[h];rfl⟩
          refine⟨y,by omega,bs_get hy,?_⟩
          rw[e32]
          refine Br.of (λq7=>hR _ _ ⟨hP4,?_⟩) (λq7=>hR _ _ ⟨hP4,?_⟩)
          · have q7:=dtrue q7
            unfold dateR;rw[hdl,if_neg (λh=>h.2 (hbl.1 (by rw[hy,q7])))];rfl
          · have q7:=dfalse q7
            unfold dateR;rw[hdl,if_pos ⟨q6,λh=>q7 (by have:=hbl.2 h;rw[hy]at this;exact Option.some.inj this)⟩];rfl
    · show F65_1 R (bs d) (p:Int) (!decide (x12=125)) [] w
      rw[decide_eq_false q5]
      exact no (Pu.refl w) q (.inr (.inr (.inr (.inr (by rw[hgL,hx12];simpa using q5)))))
  unfold F65_3
  rw[w1',w2',bs_size_i]
  refine Br.of (λq=>?_) (λq=>two ?_)
  · have q:=dtrue q
    refine⟨by omega,by rw[toNat_i,bs_size];omega,by omega,by rw[toNat_i,toNat_i];omega,?_⟩
    rw[toNat_i,toNat_i,sub_ext (n:=2) (by omega),←hL,show(⟨#[123,125]⟩:ByteArray)=bs [123,125]from rfl,bs_beq]
    refine Br.of (λq1=>hR _ _ ⟨Pu.refl w,?_⟩) (λq1=>two (dfalse q1))
    unfold dateR dateL;rw[if_pos (dtrue q1)];rfl
  · have q:=dfalse q
    intro h
    have:=congrArg List.length h
    rw[List.length_take]at this;simp at this;omega
theorem badP_some{p:Nat}{c:List UInt8}{i:Nat}(h:badAt c=some i):badP p c=((p+i:Nat):Int):=by unfold badP;rw[h];rfl
theorem badP_none{p:Nat}{c:List UInt8}(h:badAt c=none):badP p c=-1:=by unfold badP;rw[h];rfl
theorem isB_quote{x:UInt8}(h:x.toNat=34∨x.toNat=39):isB x=true:=by
  unfold isB;simp;omega
theorem quoted_c {q:UInt8} {r:List UInt8} (h:Rd w0 w b d p l (-1) s ts) (hc:ts.length<=100000) (hd:d.drop p=q :: r) (hq:q.toNat=34∨q.toNat=39):Calls Tryz.prog 64 #[.pointer (some ⟨b,0,none⟩)] w λe w'=>e=unitE/\match quoteS q r with
    | .tok k t m=>∃s',Rd w0 w' b d (p+1+m) true (-1) s' (ts ++ [⟨k,(p:Int),bs t⟩])
    | .bad i=>∃p' l' s' ts',Rd w0 w' b d p' l' ((p+i:Nat):Int) s' ts'
    | _=>False:=by
  have hlim:=h.lim
  have hdl:(d.drop p).length=r.length+1:=by rw[hd];rfl
  rw[List.length_drop]at hdl
  have hr:d.drop (p+1)=r:=by rw[←List.drop_drop,hd];rfl
  have hgq:d[p]?=some q:=by have:=congrArg (·[0]?) hd;simpa[get_drop] using this
  obtain⟨f,hf⟩:∃f:UInt8->Bool,f=λb=>!nlB b && !decide (b=q):=⟨_,rfl⟩
  obtain⟨t,ht⟩:∃t,t=r.takeWhile f:=⟨_,rfl⟩
  have htl:t.length<=r.length:=by rw[ht];exact tw_le _ r
  have htt:r.take t.length=t:=by rw[ht];exact tw_take _ r
  have hqs:quoteS q r=if r[t.length]?=some q then(match badAt t with
    | some i=>.bad (i+1)
    | none=>.tok 2 t (t.length+1))else .bad 0:=by rw[ht,hf];rfl
  rw[hqs]
  refine calls_by (F64_calls _ w) λR hR=>dwE_intro λw1 hp1 _=>?_
  have h1:=h.pu hp1
  refine⟨_,h1.s_,_,h1.at_,q,by omega,by rw[toNat_i];exact bs_get hgq,_,h1.at_,?_⟩
  rw[wrap_in (n:=(p:Int)+1) (by omega) (by omega)]
  refine loopUp t.length (λk n w'=>n=((p+1+k:Nat):Int)/\w'=w1) ⟨by omega,rfl⟩ ?_
  rintro k J n w2 hk ⟨rfl,rfl⟩ hJ
  have htest:=head_test (f:=f) (d:=d) (p:=p+1) (k:=k) (by rw[hr,←ht];exact hk)
  rw[hr,←ht]at htest
  -- behind the text
  have fin:k=t.length->F64_5 R (some ⟨b,0,none⟩) ((p+1+k:Nat):Int) [] w2:=λhkt=>by
    subst hkt
    have nothing:¬r[t.length]?=some q->∃n67:Int,w2.cell? ((⟨b,0,none⟩:Addr).add 1)=some (.int .i64 n67)/\Calls Tryz.prog 60 #[.pointer (some ⟨b,0,none⟩),.int .i64 n67] w2 λe w12=>e=.returned (.tuple #[])/\R (.returned (.tuple #[])) w12:=λhn=>by
      rw[if_neg hn]at hR
      refine⟨_,h1.at_,(fails_c h1 _).mono ?_⟩
      rintro e w3 ⟨rfl,h3⟩
      exact⟨rfl,hR _ _ ⟨rfl,_,_,_,_,h3⟩⟩
    refine⟨_,h1.s_,Br.of (λq1=>nothing ?_) (λq1=>?_)⟩
    · have q1:=dtrue q1
      rw[bs_size_i]at q1
      rw[List.getElem?_eq_none (by omega)];simp
    · have q1:=dfalse q1
      rw[bs_size_i]at q1
      obtain⟨x,hx⟩:=at_k (l:=d) (k:=p+1+t.length) (by omega)
      have hxr:r[t.length]?=some x:=by rw[←hr,get_drop];exact hx
      have e10:(((x.toNat:Nat):Int) == 10)=nlB x:=by rw[beq_dec];unfold nlB;exact dec_eq (by omega)
      refine⟨_,h1.s_,x,by omega,by rw[toNat_i];exact bs_get hx,?_⟩
      rw[e10]
      refine Br.of (λq2=>nothing ?_) (λq2=>?_)
      · rw[hxr];intro e;cases e;rw[quote_nl hq]at q2;cases q2
      · have hfx:f x=false:=by
          rw[hx]at htest
          have htest:f x=decide (t.length<t.length):=htest
          rw[htest,decide_eq_false (Nat.lt_irrefl _)]
        have hxq:x=q:=by
          rw[hf]at hfx
          simp[q2]at hfx;exact hfx
        subst hxq
        rw[if_pos hxr]at hR
        -- the bytes of the text
        refine⟨_,h1.at_,?_⟩
        have hall:(d.drop p).take (t.length+1)=x :: t:=by rw[hd,List.take_succ_cons,htt]
        refine loopUp (t.length+1) (λj n w'=>n=((p+j:Nat):Int)/\Rd w0 w' b d p l (badP p ((d.drop p).take j)) s ts) ⟨by omega,by rw[List.take_zero];exact h1⟩ ?_
        rintro j J2 n w3 hj ⟨rfl,h3⟩ hJ2
        refine Br.of (λq3=>?_) (λq3=>?_)
        · have q3:=dtrue q3
          have hj2:j<t.length+1:=by omega
          obtain⟨y,hy⟩:=at_k (l:=d) (k:=p+j) (by omega)
          have hsn:=badP_snoc p ((d.drop p).take j) y
          have hlk:((d.drop p).take j).length=j:=by rw[List.length_take,List.length_drop];omega
          rw[←take_drop_succ hy,hlk]at hsn
          refine⟨_,h3.s_,y,by omega,by rw[toNat_i];exact bs_get hy,(isByte_c y w3).mono ?_⟩
          rintro e w4 ⟨rfl,rfl⟩
          rw[wrap_in (by omega) (by omega)]
          refine⟨_,rfl,Br.of (λq4=>(fails_c h3 _).mono ?_) (λq4=>hJ2 _ _ hj2 ⟨by omega,?_⟩)⟩
          · have q4:isB y=false:=by simpa using q4
            rw[q4,if_neg (by simp)]at hsn
            rintro e w5 ⟨rfl,h5⟩
            exact⟨rfl,hJ2 _ _ hj2 ⟨by omega,by rw[hsn];exact h5⟩⟩
          · have q4:isB y=true:=by simpa using q4
            rw[q4,if_pos rfl]at hsn
            rw[hsn];exact h3
        · have q3:=dfalse q3
          obtain rfl:j=t.length+1:=by omega
          rw[hall]at h3
          have hbc:=badAt_cons_ok (l:=t) (isB_quote hq)
          refine dwE_intro λw4 hp4 _=>?_
          have h4:=h3.pu hp4
          refine⟨_,h4.s_,_,h4.at_,?_⟩
          rw[wrap_in (n:=(p:Int)+1) (by omega) (by omega)]
          have e1:((p:Int)+1).toNat=p+1:=by omega
          refine⟨by omega,by rw[toNat_i,bs_size];omega,by omega,by rw[e1,toNat_i];omega,_,h4.at_,?_⟩
          rw[e1,toNat_i,sub_ext (by omega),hr,htt]
          have e2:IntKind.i64.wrap (IntKind.i64.wrap (((p+1+t.length:Nat):Int)+1) - (p:Int))=((t.length+2:Nat):Int):=by
            rw[wrap_in (n:=((p+1+t.length:Nat):Int)+1) (by omega) (by omega),wrap_in (by omega) (by omega)];omega
          have htlt:=(List.getElem?_eq_some_iff.1 hxr).1
          rw[e2]
          refine(put_c h4 hc 2 (bs t) (n:=t.length+2) (by omega)).mono ?_
          rintro e w5 ⟨rfl,s',h5⟩
          refine⟨rfl,?_⟩
          cases hb:badAt t with
          | some i=>
            rw[hb]at hbc hR
            rw[badP_some (i:=i+1) (by rw[hbc];rfl)]at h5
            exact hR _ _ ⟨rfl,_,_,_,_,h5⟩
          | none=>
            rw[hb]at hbc hR
            rw[badP_none (by rw[hbc];rfl)]at h5
            exact hR _ _ ⟨rfl,s',by rw[show p+1+(t.length+1)=p+(t.length+2)by omega];exact h5⟩
  refine⟨_,h1.s_,Br.of (λq1=>?_) (λq1=>fin ?_)⟩
  · have q1:=dtrue q1
    rw[bs_size_i]at q1
    obtain⟨x,hx⟩:=at_k (l:=d) (k:=p+1+k) (by omega)
    rw[hx]at htest
    have htest:f x=decide (k<t.length):=htest
    have e10:(((x.toNat:Nat):Int) != 10)=!nlB x:=by unfold bne;rw[beq_dec];unfold nlB;congr 1;exact dec_eq (by omega)
    have eq':(((x.toNat:Nat):Int) != ((q.toNat:Nat):Int))=!decide (x=q):=by
      unfold bne;rw[beq_dec];congr 1
      exact dec_eq ⟨λh=>UInt8.toNat_inj.1 (by omega),λh=>by rw[h]⟩
    have nofin:f x=false->k=t.length:=λh9=>by rw[htest]at h9;have:=dfalse h9;omega
    refine⟨_,h1.s_,x,by omega,by rw[toNat_i];exact bs_get hx,?_⟩
    rw[e10]
    refine Br.of (λq2=>⟨_,h1.s_,x,by omega,by rw[toNat_i];exact bs_get hx,?_⟩) (λq2=>fin (nofin ?_))
    · rw[eq']
      refine Br.of (λq3=>?_) (λq3=>fin (nofin ?_))
      · have hfx:f x=true:=by rw[hf];show(!nlB x && !decide (x=q))=true;rw[q2,q3];rfl
        rw[htest]at hfx
        rw[wrap_in (by omega) (by omega)]
        exact hJ _ _ (dtrue hfx) ⟨by omega,rfl⟩
      · rw[hf];show(!nlB x && !decide (x=q))=false;rw[q3,Bool.and_false]
    · rw[hf];show(!nlB x && !decide (x=q))=false;rw[q2];rfl
  · have q1:=dfalse q1
    rw[bs_size_i]at q1
    omega
end Go.Proofs.YtjbfehippchniaaGreatDoor

/- Lex: the reference's Lex gives the tokens that the source has. No condition. -/
set_option maxRecDepth 100000
set_option linter.unusedVariables false
set_option linter.unusedSimpArgs false
namespace Go.Proofs.YtjbfehippchniaaGreatDoor
open Go.Sh Go.Sh.Lx Go.RowKit
variable {w0 w w' : World} {b p : Nat} {d : List UInt8} {l : Bool} {bad : Int} {s : SV} {ts : List Tok}
def TokR(w0:World)(b:Nat)(d:List UInt8)(p:Nat)(ts:List Tok)(w':World):Stp->Prop
  | .tok k t m=>∃s',Rd w0 w' b d (p+1+m) true (-1) s' (ts ++ [⟨k,(p:Int),bs t⟩])
  | .bad i=>∃p' l' s' ts',Rd w0 w' b d p' l' ((p+i:Nat):Int) s' ts'
  | _=>False
theorem rtoken_c {x:UInt8} {r:List UInt8} (h:Rd w0 w b d p l (-1) s ts) (hc:ts.length<=100000) (hd:d.drop p=x :: r):Calls Tryz.prog 35 #[.pointer (some ⟨b,0,none⟩)] w λe w'=>e=unitE/\TokR w0 b d p ts w' (tokS x r):=by
  have hlim:=h.lim
  have hle:=h.le
  have hdl:(d.drop p).length=r.length+1:=by rw[hd];rfl
  rw[List.length_drop]at hdl
  have hgx:d[p]?=some x:=by have:=congrArg (·[0]?) hd;simpa[get_drop] using this
  refine calls_by (F35_calls _ w) λR hR=>dwE_intro λw1 hp1 _=>?_
  have h1:=h.pu hp1
  refine⟨_,h1.s_,_,h1.at_,x,by omega,by rw[toNat_i];exact bs_get hgx,(isLetter_c x w1).mono ?_⟩
  rintro e w2 ⟨rfl,rfl⟩
  refine⟨_,rfl,Br.of (λql=>?_) (λql=>?_)⟩
  · -- a word
    have hts:tokS x r=(let t:=(x :: r).takeWhile λc=>letB c || digB c;if 24<t.length then .bad 0 else .tok 0 (t.map capU) (t.length - 1)):=by unfold tokS;rw[if_pos ql]
    obtain⟨f,hf⟩:∃f:UInt8->Bool,f=λc=>letB c || digB c:=⟨_,rfl⟩
    obtain⟨t,ht⟩:∃t,t=(d.drop p).takeWhile f:=⟨_,rfl⟩
    have htl:1<=t.length:=by rw[ht,hd];exact tw_pos (by rw[hf];simp[ql])
    have htle:p+t.length<=d.length:=by rw[ht];exact tw_drop_le f d p hle
    rw[hts,←hd,←hf,←ht]at hR
    dsimp only at hR
    refine(run_c h1 true).mono ?_
    have ef:(λc=>digB c || (true && letB c))=f:=by rw[hf];funext c;rw[Bool.true_and,Bool.or_comm]
    rw[ef,←ht]
    rintro e w3 ⟨rfl,hp3⟩
    have h3:=h1.pu hp3
    refine⟨_,rfl,Br.of (λq=>?_) (λq=>?_)⟩
    · have q:=dtrue q
      rw[if_pos (by omega)]at hR
      refine⟨_,h3.at_,(fails_c h3 _).mono ?_⟩
      rintro e w4 ⟨rfl,h4⟩
      exact⟨rfl,hR _ _ ⟨rfl,_,_,_,_,h4⟩⟩
    · have q:=dfalse q
      rw[if_neg (by omega)]at hR
      refine dwE_intro λw4 hp4 _=>?_
      have h4:=h3.pu hp4
      refine⟨_,h4.s_,_,h4.at_,_,h4.at_,?_⟩
      rw[wrap_in (n:=(p:Int)+(t.length:Int)) (by omega) (by omega),show((p:Int)+(t.length:Int)).toNat=p+t.length by omega]
      refine⟨by omega,by rw[bs_size];omega,by omega,by rw[toNat_i];omega,?_⟩
      rw[toNat_i,ht,ext_tw f d p hle,←ht]
      refine(capitals_c t (by omega) w4).mono ?_
      rintro e w5 ⟨rfl,hp5⟩
      have h5:=h4.pu hp5
      refine⟨_,rfl,(put_c h5 hc 0 (bs (t.map capU)) htle).mono ?_⟩
      rintro e w6 ⟨rfl,s',h6⟩
      exact⟨rfl,hR _ _ ⟨rfl,s',by rw[show p+1+(t.length - 1)=p+t.length by omega];exact h6⟩⟩
  refine(isDigit_c x w2).mono ?_
  rintro e w3 ⟨rfl,hp3⟩
  have h3:=h1.pu hp3
  refine⟨_,rfl,Br.of (λqd=>?_) (λqd=>?_)⟩
  · -- a number
    have hts:tokS x r=(let t:=(x :: r).takeWhile digB;if 15<t.length then .bad 0 else .tok 1 t (t.length - 1)):=by unfold tokS;rw[if_neg (by rw[ql];simp),if_pos qd]
    obtain⟨t,ht⟩:∃t,t=(d.drop p).takeWhile digB:=⟨_,rfl⟩
    have htl:1<=t.length:=by rw[ht,hd];exact tw_pos qd
    have htle:p+t.length<=d.length:=by rw[ht];exact tw_drop_le digB d p hle
    rw[hts,←hd,←ht]at hR
    dsimp only at hR
    refine(run_c h3 false).mono ?_
    have ef:(λc=>digB c || (false && letB c))=digB:=by funext c;rw[Bool.false_and,Bool.or_false]
    rw[ef,←ht]
    rintro e w4 ⟨rfl,hp4⟩
    have h4:=h3.pu hp4
    refine⟨_,rfl,Br.of (λq=>?_) (λq=>?_)⟩
    · have q:=dtrue q
      rw[if_pos (by omega)]at hR
      refine⟨_,h4.at_,(fails_c h4 _).mono ?_⟩
      rintro e w5 ⟨rfl,h5⟩
      exact⟨rfl,hR _ _ ⟨rfl,_,_,_,_,h5⟩⟩
    · have q:=dfalse q
      rw[if_neg (by omega)]at hR
      refine dwE_intro λw5 hp5 _=>?_
      have h5:=h4.pu hp5
      refine⟨_,h5.s_,_,h5.at_,_,h5.at_,?_⟩
      rw[wrap_in (n:=(p:Int)+(t.length:Int)) (by omega) (by omega),show((p:Int)+(t.length:Int)).toNat=p+t.length by omega]
      refine⟨by omega,by rw[bs_size];omega,by omega,by rw[toNat_i];omega,?_⟩
      rw[toNat_i,ht,ext_tw digB d p hle,←ht]
      refine(put_c h5 hc 1 (bs t) htle).mono ?_
      rintro e w6 ⟨rfl,s',h6⟩
      exact⟨rfl,hR _ _ ⟨rfl,s',by rw[show p+1+(t.length - 1)=p+t.length by omega];exact h6⟩⟩
  · -- a text, a date, a sign
    have hnl:¬letB x=true:=by rw[ql];simp
    have hnd:¬digB x=true:=by rw[qd];simp
    have quoted:x.toNat=34∨x.toNat=39->Calls Tryz.prog 64 #[.pointer (some ⟨b,0,none⟩)] w3 λe w27=>e=.returned (.tuple #[])/\R (.returned (.tuple #[])) w27:=λhq=>(quoted_c h3 hc hd hq).mono λe w4 ⟨he,hres⟩=>by
      have hts:tokS x r=quoteS x r:=by unfold tokS;rw[if_neg hnl,if_neg hnd,if_pos hq]
      rw[hts]at hR
      refine⟨he,hR _ _ ⟨rfl,?_⟩⟩
      cases hqs:quoteS x r with
      | go m=>rw[hqs]at hres;exact hres.elim
      | eol=>rw[hqs]at hres;exact hres.elim
      | tok k t m=>rw[hqs]at hres;exact hres
      | bad i=>rw[hqs]at hres;exact hres
    refine Br.of (λq1=>quoted (.inl (by have:=btrue q1;omega))) (λq1=>Br.of (λq2=>quoted (.inr (by have:=btrue q2;omega))) (λq2=>dwE_intro λw4 hp4 _=>?_))
    have hnq:¬(x.toNat=34∨x.toNat=39):=by have:=bfalse q1;have:=bfalse q2;omega
    have hts:tokS x r=match dateL (d.drop p)with
        | some (dd,n)=>.tok 3 dd (n - 1)
        | none=>match signS (d.drop p)with
          | some w=>.tok 4 w (w.length - 1)
          | none=>.bad 0:=by
      rw[hd];unfold tokS;rw[if_neg hnl,if_neg hnd,if_neg hnq]
      cases dateL (x :: r)with
      | none=>cases signS (x :: r) <;> rfl
      | some y=>obtain⟨_,_⟩:=y;rfl
    rw[hts]at hR
    have h4:=h3.pu hp4
    refine⟨_,h4.s_,_,h4.at_,(dateAt_c hlim hle w4).mono ?_⟩
    rintro e w5 ⟨hp5,rfl⟩
    have h5:=h4.pu hp5
    unfold dateR
    refine⟨_,_,rfl,?_⟩
    cases hdl2:dateL (d.drop p)with
    | some pr=>
      obtain⟨y,m⟩:=pr
      rw[hdl2]at hR
      have hm:1<=m/\p+m<=d.length:=by
        unfold dateL at hdl2
        split at hdl2
        · rename_i h2
          have hlen:=congrArg List.length h2
          rw[List.length_take,List.length_drop]at hlen
          have:m=2:=by simp at hdl2;omega
          simp at hlen;omega
        · split at hdl2
          · cases hdl2
          · rename_i h2
            split at hdl2
            · have:m=13:=by simp at hdl2;omega
              rw[List.length_drop]at h2;omega
            · cases hdl2
      show Br (decide ((m:Int) > 0)) _ _
      refine Br.t (decide_eq_true (by omega)) ((put_c h5 hc 3 (bs y) hm.2).mono ?_)
      rintro e w6 ⟨rfl,s',h6⟩
      exact⟨rfl,hR _ _ ⟨rfl,s',by rw[show p+1+(m - 1)=p+m by omega];exact h6⟩⟩
    | none=>
      rw[hdl2]at hR
      refine Br.f (decide_eq_false (by show ¬((0:Nat):Int) > 0;omega)) (dwE_intro λw6 hp6 _=>?_)
      have h6:=h5.pu hp6
      refine⟨_,h6.s_,_,h6.at_,(signAt_c hlim hle w6).mono ?_⟩
      rintro e w7 ⟨hp7,rfl⟩
      have h7:=h6.pu hp7
      refine⟨_,rfl,?_⟩
      rw[toList_nil,bs_size]
      cases hsg:signS (d.drop p)with
      | some y=>
        rw[hsg]at hR
        have hsg2:=hsg
        unfold signS at hsg2
        have hyl2:=(signs_len y (List.mem_of_find?_eq_some hsg2)).1
        have hyl:p+y.length<=d.length:=by
          have h9:=List.find?_some hsg2
          have h8:=congrArg List.length (of_decide_eq_true h9)
          rw[List.length_map,List.length_take,List.length_drop]at h8;omega
        refine Br.f (decide_eq_false (by show ¬y.length=0;omega)) ?_
        show Calls Tryz.prog 62 #[.pointer (some ⟨b,0,none⟩),.int .i64 4,.string (bs y),.int .i64 ((y.length:Nat):Int)] w7 _
        refine(put_c h7 hc 4 (bs y) hyl).mono ?_
        rintro e w8 ⟨rfl,s',h8⟩
        exact⟨rfl,hR _ _ ⟨rfl,s',by rw[show p+1+(y.length - 1)=p+y.length by omega];exact h8⟩⟩
      | none=>
        rw[hsg]at hR
        refine Br.t (decide_eq_true rfl) ⟨_,h7.at_,(fails_c h7 _).mono ?_⟩
        rintro e w8 ⟨rfl,h8⟩
        exact⟨rfl,hR _ _ ⟨rfl,_,_,_,_,h8⟩⟩
def Fst(d:List UInt8)(p:Nat)(l:Bool):Prop:=l=false->(frontR d p=true∨(∃x,d[p]?=some x/\nlB x=true)∨p=d.length)
theorem front_succ {d:List UInt8} {p:Nat} {x:UInt8} (hx:d[p]?=some x):frontR d (p+1)=if blkB x then frontR d p else nlB x:=by
  unfold frontR
  rw[take_at hx,List.reverse_append,List.reverse_singleton,List.singleton_append,List.dropWhile_cons]
  by_cases hb:blkB x=true
  · rw[if_pos hb,if_pos hb]
  · rw[if_neg hb,if_neg hb]
theorem front_nl {d:List UInt8} {p:Nat} {x:UInt8} (hx:d[p]?=some x) (hn:nlB x=true):frontR d (p+1)=true:=by
  rw[front_succ hx]
  have:blkB x=false:=by
    cases hb:blkB x with
    | false=>rfl
    | true=>have:=(blk_isB hb).2;rw[hn]at this;cases this
  rw[this,if_neg (by simp)];exact hn
theorem lnN_end(d:List UInt8)(p:Nat)(hp:p<=d.length):(∃x,d[p+lnN (d.drop p)]?=some x/\nlB x=true)∨p+lnN (d.drop p)=d.length:=by
  have hle:=lnN_le (d.drop p)
  rw[List.length_drop]at hle
  by_cases h:p+lnN (d.drop p)<d.length
  · left
    obtain⟨x,hx⟩:=at_k h
    refine⟨x,hx,?_⟩
    have:=tw_end (f:=λb=>!nlB b) (l:=d.drop p) (x:=x) (by rw[get_drop];exact hx)
    simpa using this
  · right;omega
def StpR(w0:World)(b:Nat)(d:List UInt8)(p:Nat)(l:Bool)(s:SV)(ts:List Tok)(w':World):Stp->Prop
  | .go m=>Rd w0 w' b d (p+1+m) l (-1) s ts
  | .eol=>∃s',Rd w0 w' b d (p+1) false (-1) s' (ts ++ if l then [endT p]else [])
  | .tok k t m=>∃s',Rd w0 w' b d (p+1+m) true (-1) s' (ts ++ [⟨k,(p:Int),bs t⟩])
  | .bad i=>∃p' l' s' ts',Rd w0 w' b d p' l' ((p+i:Nat):Int) s' ts'
theorem lnN_line(d:List UInt8)(p:Nat):(d.drop p).take (lnN (d.drop p))=lineOf (d.drop p):=tw_take _ _
theorem com_r {x:UInt8} {r:List UInt8} (h:Rd w0 w b d p l (-1) s ts) (hd:d.drop p=x :: r) (h1:nlB x=false) (h2:blkB x=false) (h3:(ampB (x :: r) || (decide (x.toNat=42) && !l))=true) {R:Rt} (hR:∀e w',(e=unitE/\StpR w0 b d p l s ts w' (stepS x r l))->R e w') :
    ∃n58:Int,w.cell? ((⟨b,0,none⟩:Addr).add 1)=some (.int .i64 n58)/\Calls Tryz.prog 33 #[.pointer (some ⟨b,0,none⟩),.int .i64 n58] w λe w13=>∃n59:Int,e=.returned (.int .i64 n59)/\
      Calls Tryz.prog 32 #[.pointer (some ⟨b,0,none⟩),.int .i64 n59] w13 λe w14=>e=.returned (.tuple #[])/\R (.returned (.tuple #[])) w14:=by
  have hln:=lnN_le (d.drop p)
  rw[List.length_drop]at hln
  have hle:=h.le
  have hpos:1<=lnN (d.drop p):=by rw[hd];unfold lnN lineOf;rw[List.takeWhile_cons,h1];simp
  refine⟨_,h.at_,(rend_c h hle).mono ?_⟩
  rintro e w2 ⟨rfl,rfl⟩
  refine⟨_,rfl,(skips_c h (n:=lnN (d.drop p)) (by omega)).mono ?_⟩
  rintro e w3 ⟨rfl,h3'⟩
  rw[lnN_line]at h3'
  refine⟨rfl,hR _ _ ⟨rfl,?_⟩⟩
  rw[step_com h1 h2 h3,←hd]
  cases hb:badAt (lineOf (d.drop p))with
  | some i=>rw[badP_some hb]at h3';exact⟨_,_,_,_,h3'⟩
  | none=>
    rw[badP_none hb]at h3'
    show Rd w0 w3 b d (p+1+(lnN (d.drop p) - 1)) l (-1) s ts
    rw[show p+1+(lnN (d.drop p) - 1)=p+lnN (d.drop p)by omega];exact h3'
def rsRest(R:Rt)(p0:Option Addr)(n2:Int)(w:World):Prop:=
  Br (n2 == 59) (
  Calls Tryz.prog 34 #[.pointer p0] w λe w16=>
  ∃b66:Bool,e=.returned (.bool b66)/\
  Br b66 (
  ptrE p0 λa17=>
  ∃n71:Int,w16.cell? (a17.add 1)=some (.int .i64 n71)/\
  ptrE p0 λa18=>
  st1 (a18.add 1) (.int .i64 (IntKind.i64.wrap (n71+1))) w16 λw19=>
  ptrE p0 λa20=>
  ∃n79:Int,w19.cell? (a20.add 1)=some (.int .i64 n79)/\
  Calls Tryz.prog 33 #[.pointer p0,.int .i64 n79] w19 λe w21=>
  ∃n80:Int,e=.returned (.int .i64 n80)/\
  Calls Tryz.prog 32 #[.pointer p0,.int .i64 n80] w21 λe w22=>
  e=.returned (.tuple #[])/\
  dwE w22 λw23=>
  ptrE p0 λa24=>
  ∃n87:Int,w23.cell? (a24.add 1)=some (.int .i64 n87)/\
  ptrE p0 λa25=>
  ∃s91:ByteArray,w23.cell? a25=some (.string s91)/\
  Br (decide (n87<((s91.size:Nat):Int))) (
  ptrE p0 λa26=>
  ∃n97:Int,w23.cell? (a26.add 1)=some (.int .i64 n97)/\
  ptrE p0 λa27=>
  st1 (a27.add 1) (.int .i64 (IntKind.i64.wrap (n97+1))) w23 λw28=>
  runD Tryz.prog [] w28 λw29=>
  R (.returned (.tuple #[])) w29) (
  runD Tryz.prog [] w23 λw30=>
  R (.returned (.tuple #[])) w30)) (
  Calls Tryz.prog 35 #[.pointer p0] w16 λe w31=>
  e=.returned (.tuple #[])/\
  runD Tryz.prog [] w31 λw32=>
  R (.returned (.tuple #[])) w32)) (
  Calls Tryz.prog 35 #[.pointer p0] w λe w33=>
  e=.returned (.tuple #[])/\
  runD Tryz.prog [] w33 λw34=>
  R (.returned (.tuple #[])) w34)
theorem rest_r {x:UInt8} {r:List UInt8} (h:Rd w0 w b d p l (-1) s ts) (hc:ts.length<=100000) (hd:d.drop p=x :: r) (h1:nlB x=false) (h2:blkB x=false) (h3:(ampB (x :: r) || (decide (x.toNat=42) && !l))=false) {R:Rt} (hR:∀e w',(e=unitE/\StpR w0 b d p l s ts w' (stepS x r l))->R e w') :
    rsRest R (some ⟨b,0,none⟩) ((x.toNat:Nat):Int) w:=by
  have hlim:=h.lim
  have hle:=h.le
  have hdl:(d.drop p).length=r.length+1:=by rw[hd];rfl
  rw[List.length_drop]at hdl
  have hr:d.drop (p+1)=r:=by rw[←List.drop_drop,hd];rfl
  have hln:=lnN_le r
  have tok:(decide (x.toNat=59) && goesB r)=false->Calls Tryz.prog 35 #[.pointer (some ⟨b,0,none⟩)] w λe w31=>e=.returned (.tuple #[])/\R (.returned (.tuple #[])) w31:=λh4=>(rtoken_c h hc hd).mono λe w2 ⟨he,hres⟩=>⟨he,hR _ _ ⟨rfl,by
    rw[step_tok h1 h2 h3 h4]
    cases ht:tokS x r with
    | go m=>rw[ht]at hres;exact hres.elim
    | eol=>rw[ht]at hres;exact hres.elim
    | tok k t m=>rw[ht]at hres;exact hres
    | bad i=>rw[ht]at hres;exact hres⟩⟩
  refine Br.of (λq=>(goesOn_c h hd).mono ?_) (λq=>tok (by rw[decide_eq_false (show ¬x.toNat=59 by have:=bfalse q;omega)];rfl))
  have hx:x.toNat=59:=by have:=btrue q;omega
  rintro e w2 ⟨rfl,rfl⟩
  refine⟨_,rfl,Br.of (λqg=>?_) (λqg=>tok (by rw[qg,Bool.and_false]))⟩
  refine⟨_,h.at_,h.st_at (p':=p+1) (by omega) (by rw[wrap_in (by omega) (by omega)];omega) λw3 h3'=>⟨_,h3'.at_,(rend_c h3' h3'.le).mono ?_⟩⟩
  rintro e w4 ⟨rfl,rfl⟩
  rw[hr]
  refine⟨_,rfl,(skips_c h3' (n:=lnN r) (by omega)).mono ?_⟩
  rintro e w5 ⟨rfl,h5⟩
  rw[hr,show r.take (lnN r)=lineOf r from tw_take _ r]at h5
  refine⟨rfl,dwE_intro λw6 hp6 _=>?_⟩
  have h6:=h5.pu hp6
  have hst:=step_semi (line:=l) h1 h2 h3 (by rw[qg,decide_eq_true hx];rfl)
  rw[hst]at hR
  -- how it ends
  have fin:∀{w7:World},Rd w0 w7 b d (p+1+goN r) l (badP (p+1) (lineOf r)) s ts->R (.returned (.tuple #[])) w7:=λ{w7} h7=>hR _ _ ⟨rfl,by
    cases hb:badAt (lineOf r)with
    | some i=>rw[badP_some hb]at h7;exact⟨_,_,_,_,by rw[show p+(i+1)=p+1+i by omega];exact h7⟩
    | none=>rw[badP_none hb]at h7;exact h7⟩
  refine⟨_,h6.at_,_,h6.s_,Br.of (λq2=>?_) (λq2=>fin ?_)⟩
  · have q2:=dtrue q2
    rw[bs_size_i]at q2
    refine⟨_,h6.at_,h6.st_at (p':=p+1+goN r) (by have:=goN_le r;omega) ?_ λw7 h7=>fin h7⟩
    rw[wrap_in (by omega) (by omega)]
    unfold goN;rw[if_pos (by omega)];omega
  · have q2:=dfalse q2
    rw[bs_size_i]at q2
    have:goN r=lnN r:=by unfold goN;rw[if_neg (by omega)]
    rw[this];exact h6
theorem step_c {x:UInt8} {r:List UInt8} (h:Rd w0 w b d p l (-1) s ts) (hc:ts.length<=100000) (hf:Fst d p l) (hd:d.drop p=x :: r):Calls Tryz.prog 15 #[.pointer (some ⟨b,0,none⟩)] w λe w'=>e=unitE/\StpR w0 b d p l s ts w' (stepS x r l):=by
  have hlim:=h.lim
  have hdl:(d.drop p).length=r.length+1:=by rw[hd];rfl
  rw[List.length_drop]at hdl
  have hgx:d[p]?=some x:=by have:=congrArg (·[0]?) hd;simpa[get_drop] using this
  refine calls_by (F15_calls _ w) λR hR=>dwE_intro λw1 hp1 _=>?_
  have h1:=h.pu hp1
  refine⟨_,h1.s_,_,h1.at_,x,by omega,by rw[toNat_i];exact bs_get hgx,?_⟩
  refine Br.of (λq=>?_) (λq=>(isBlank_c x w1).mono ?_)
  · have hnl:nlB x=true:=by unfold nlB;exact decide_eq_true (by have:=btrue q;omega)
    rw[step_eol hnl]at hR
    refine(ends_c h1 hc).mono ?_
    rintro e w2 ⟨rfl,s',h2⟩
    exact⟨rfl,_,h2.at_,h2.st_at (p':=p+1) (by omega) (by rw[wrap_in (by omega) (by omega)];omega) λw3 h3=>hR _ _ ⟨rfl,s',h3⟩⟩
  have hnl:nlB x=false:=by unfold nlB;exact decide_eq_false (by have:=bfalse q;omega)
  rintro e w2 ⟨rfl,rfl⟩
  refine⟨_,rfl,Br.of (λqb=>?_) (λqb=>(isComment_c h1 hd).mono ?_)⟩
  · rw[step_blk qb]at hR
    exact⟨_,h1.at_,h1.st_at (p':=p+1) (by omega) (by rw[wrap_in (by omega) (by omega)];omega) λw3 h3=>hR _ _ ⟨rfl,h3⟩⟩
  rintro e w3 ⟨rfl,h3⟩
  refine⟨_,rfl,Br.of (λqa=>Br.t qa (com_r h3 hd hnl qb (by rw[qa];rfl) hR)) (λqa=>Br.of (λq42=>?_) (λq42=>rest_r h3 hc hd hnl qb ?_ hR))⟩
  · have hx:x.toNat=42:=by have:=btrue q42;omega
    refine⟨_,h3.ln,Br.of (λql=>(first_c h3).mono ?_) (λql=>rest_r h3 hc hd hnl qb ?_ hR)⟩
    · have ql:l=false:=by simpa using ql
      have hfr:frontR d p=true:=by
        rcases hf ql with h9|⟨y,hy,hn⟩|h9
        · exact h9
        · rw[hgx]at hy;cases hy;rw[hnl]at hn;cases hn
        · omega
      rintro e w4 ⟨rfl,rfl⟩
      exact⟨_,rfl,Br.t hfr (com_r h3 hd hnl qb (by rw[qa,ql,decide_eq_true hx];rfl) hR)⟩
    · have ql:l=true:=by simpa using ql
      rw[qa,ql];simp
  · rw[qa,decide_eq_false (show ¬x.toNat=42 by have:=bfalse q42;omega)];rfl
theorem Fst.go{x:UInt8}{r:List UInt8}{m:Nat}(hf:Fst d p l)(hp:p<=d.length)(hd:d.drop p=x :: r)(hs:stepS x r l=.go m):Fst d (p+1+m) l:=λhl=>by
  have hgx:d[p]?=some x:=by have:=congrArg (·[0]?) hd;simpa[get_drop] using this
  have hdl:(d.drop p).length=r.length+1:=by rw[hd];rfl
  rw[List.length_drop]at hdl
  have hr:d.drop (p+1)=r:=by rw[←List.drop_drop,hd];rfl
  unfold stepS at hs
  split at hs
  · cases hs
  · rename_i hnl
    split at hs
    · rename_i hb
      have:m=0:=by cases hs;rfl
      subst this
      rw[Nat.add_zero,front_succ hgx,if_pos hb]
      rcases hf hl with h9|⟨y,hy,hn⟩|h9
      · exact .inl h9
      · rw[hgx]at hy;cases hy;exact absurd hn hnl
      · omega
    · split at hs
      · rw[←hd]at hs
        split at hs
        · cases hs
        · have hm:(lineOf (d.drop p)).length - 1=m:=by cases hs;rfl
          have hpos:1<=(lineOf (d.drop p)).length:=by
            rw[hd];unfold lineOf;rw[List.takeWhile_cons]
            have:nlB x=false:=by simpa using hnl
            rw[this];simp
          have e:p+1+m=p+lnN (d.drop p):=by unfold lnN;omega
          rw[e]
          rcases lnN_end d p hp with h9|h9
          · exact .inr (.inl h9)
          · exact .inr (.inr h9)
      · split at hs
        · split at hs
          · cases hs
          · have hm:goN r=m:=by cases hs;rfl
            rw[←hm]
            have hE:=lnN_end d (p+1) (by omega)
            rw[hr]at hE
            unfold goN
            split
            · rename_i hlt
              rcases hE with⟨y,hy,hn⟩|h9
              · rw[←Nat.add_assoc];exact .inl (front_nl hy hn)
              · omega
            · rename_i hlt
              have:=lnN_le r
              exact .inr (.inr (by omega))
        · have:=tokS_in (x:=x) (r:=r)
          rw[hs]at this;exact this.elim
theorem rlex_c{w0:World}(d:List UInt8)(hd:d.length<=9223372036854775807):Calls Tryz.prog 8 #[.string (bs d)] w0 λe w'=>Pu w0 w'/\∃s:SV,e=.returned (.tuple #[.slice s.a s.len s.cap,.int .i64 (lexF d).2.1,.int .i64 (lexF d).2.2])/\RdSl w' s (lexF d).1:=by
  refine calls_by (F8_calls _ w0) λR hR=>Br.of (λq=>?_) (λq=>?_)
  · have q:=dtrue q
    rw[bs_size_i]at q
    refine hR _ _ ⟨Pu.refl _,⟨none,0,0⟩,?_,?_⟩
    · unfold lexF;rw[if_pos (by omega)]
    · unfold lexF;rw[if_pos (by omega)];exact RdSl.nil _ _ _
  have q:=dfalse q
  rw[bs_size_i]at q
  have hdl:d.length<=4000:=by omega
  obtain⟨hbT,hbN,hbI⟩:=lexS_bounds d.length d 0 false (Nat.le_refl _)
  have hlF:lexF d=match (lexS d 0 false).2 with
      | some i=>([],(i:Int),2)
      | none=>if 1200<(lexS d 0 false).1.length then([],0,3)else((lexS d 0 false).1,((lexS d 0 false).1.length:Int),0):=by unfold lexF;rw[if_neg (by omega)];cases (lexS d 0 false).2 <;> rfl
  refine alB λw1 hp1 hb1=>?_
  obtain⟨b,hb⟩:∃b,b=w0.heap.size:=⟨_,rfl⟩
  rw[←hb]at hb1 ⊢
  have h1:Rd w0 w1 b d 0 false (-1) ⟨none,0,0⟩ []:=⟨hp1,by omega,hb1,RowAt.nil _ _ _,λk hk=>by simp[blkOf]at hk,Nat.zero_le _,hdl⟩
  -- what is wrong
  have wrong:∀{w2:World} {p':Nat} {l':Bool} {i:Nat} {s':SV} {ts':List Tok},Rd w0 w2 b d p' l' (i:Int) s' ts'->(lexS d 0 false).2=some i->F8_1 R (some ⟨b,0,none⟩) [] w2:=λ{w2 p' l' i s' ts'} h2 hi=>by
    refine⟨_,h2.bd,Br.t (decide_eq_true (by omega)) (dwE_intro λw3 hp3 _=>⟨_,(h2.pu hp3).bd,hR _ _ ⟨(h2.pu hp3).since,⟨none,0,0⟩,?_,?_⟩⟩)⟩
    · rw[hlF,hi]
    · rw[hlF,hi];exact RdSl.nil _ _ _
  refine loopDown (d.length+1) (λn _ w'=>(∃p l s ts,n+p=d.length+1/\Rd w0 w' b d p l (-1) s ts/\Fst d p l/\ts.length<=p/\(lexS d 0 false).1=ts ++ (lexS (d.drop p) p l).1/\(lexS d 0 false).2=(lexS (d.drop p) p l).2) ∨
      (n=0/\∃p' l' i s' ts',Rd w0 w' b d p' l' ((i:Nat):Int) s' ts'/\(lexS d 0 false).2=some i)) (.inl ⟨0,false,_,_,by omega,h1,λ_=>.inl rfl,Nat.le_refl _,rfl,rfl⟩) ?_
  rintro n J _ w2 hI hJ
  rcases hI with⟨p,l,s,ts,hn,h2,hf,hc,hl1,hl2⟩|⟨_,p',l',i,s',ts',h2,hi⟩
  · have hle:=h2.le
    refine⟨_,h2.at_,Br.of (λq1=>?_) (λq1=>?_)⟩
    · have q1:=dtrue q1
      rw[bs_size_i]at q1
      obtain⟨x,hx⟩:=at_k (l:=d) (k:=p) (by omega)
      have hdx:d.drop p=x :: d.drop (p+1):=drop_at hx
      refine⟨_,h2.bd,Br.t (by decide) ((step_c h2 (by omega) hf hdx).mono ?_)⟩
      rintro e w3 ⟨rfl,hres⟩
      refine⟨rfl,?_⟩
      have hlen:=List.length_drop (i:=p+1) (l:=d)
      cases hs:stepS x (d.drop (p+1)) l with
      | go m=>
        rw[hs]at hres
        have hm:=stepS_go hs
        rw[hlen]at hm
        have hL:=lexS_go hs p
        refine hJ (n - 1 - m) _ _ (by omega) (.inl ⟨_,_,_,_,by omega,hres,hf.go hle hdx hs,by omega,?_,?_⟩)
        · rw[hl1,hdx,hL,List.drop_drop]
        · rw[hl2,hdx,hL,List.drop_drop]
      | eol=>
        rw[hs]at hres
        obtain⟨s',h3⟩:=hres
        have hL:=lexS_eol hs p
        have hnl:nlB x=true:=by
          unfold stepS at hs
          split at hs
          · assumption
          · split at hs
            · cases hs
            · split at hs
              · split at hs <;> cases hs
              · split at hs
                · split at hs <;> cases hs
                · have:=tokS_in (x:=x) (r:=d.drop (p+1))
                  rw[hs]at this;exact this.elim
        refine hJ (n - 1) _ _ (by omega) (.inl ⟨_,_,_,_,by omega,h3,λ_=>.inl (front_nl hx hnl),?_,?_,?_⟩)
        · rw[List.length_append];cases l <;> simp <;> omega
        · rw[hl1,hdx,hL,List.append_assoc]
        · rw[hl2,hdx,hL]
      | tok k t m=>
        rw[hs]at hres
        obtain⟨s',h3⟩:=hres
        have hm:=(stepS_tok hs).1
        rw[hlen]at hm
        have hL:=lexS_tok hs p
        refine hJ (n - 1 - m) _ _ (by omega) (.inl ⟨_,_,_,_,by omega,h3,λh9=>(by cases h9),?_,?_,?_⟩)
        · rw[List.length_append];simp;omega
        · rw[hl1,hdx,hL,List.drop_drop,List.append_assoc];rfl
        · rw[hl2,hdx,hL,List.drop_drop]
      | bad i=>
        rw[hs]at hres
        obtain⟨p',l',s',ts',h3⟩:=hres
        have hL:=lexS_bad hs p
        exact hJ 0 _ _ (by omega) (.inr ⟨rfl,_,_,_,_,_,h3,by rw[hl2,hdx,hL]⟩)
    · have q1:=dfalse q1
      rw[bs_size_i]at q1
      have hnil:d.drop p=[]:=List.drop_eq_nil_of_le (by omega)
      rw[hnil,lexS_nil]at hl1 hl2
      refine⟨_,h2.bd,Br.f (by decide) ((ends_c h2 (by omega)).mono ?_)⟩
      rintro e w3 ⟨rfl,s',h3⟩
      have hl2:(lexS d 0 false).2=none:=hl2
      rw[hl2]at hlF
      rw[←hl1]at h3
      have hrd:=rd_toks h3.row (λt ht=>by
        obtain⟨a,b',c,e⟩:=hbT t ht
        exact⟨⟨by omega,by omega⟩,by omega,by omega⟩) (by omega)
      refine⟨rfl,_,h3.out,Br.of (λq2=>?_) (λq2=>dwE_intro λw4 hp4 _=>?_)⟩
      · have q2:=dtrue q2
        rw[hrd.len]at q2
        refine hR _ _ ⟨h3.since,⟨none,0,0⟩,?_,?_⟩
        · rw[hlF];dsimp only;rw[if_pos (by omega)]
        · rw[hlF];dsimp only;rw[if_pos (by omega)];exact RdSl.nil _ _ _
      · have q2:=dfalse q2
        rw[hrd.len]at q2
        have h4:=h3.pu hp4
        refine⟨_,h4.out,_,h4.out,hR _ _ ⟨h4.since,s',?_,?_⟩⟩
        · rw[hlF];dsimp only;rw[if_neg (by omega),hrd.len]
        · rw[hlF];dsimp only;rw[if_neg (by omega)];exact hrd.pu hp4
  · refine⟨_,h2.at_,Br.of (λq1=>⟨_,h2.bd,Br.f (decide_eq_false (by omega)) (wrong h2 hi)⟩) (λq1=>wrong h2 hi)⟩
end Go.Proofs.YtjbfehippchniaaGreatDoor

/- Lex: tokens that are the same, and their text, as both packages tell. No condition but those stated. -/
set_option maxRecDepth 100000
set_option linter.unusedVariables false
set_option linter.unusedSimpArgs false
namespace Go.Proofs.YtjbfehippchniaaGreatDoor
open Go.Sh Go.Sh.Lx Go.RowKit
variable {w0 w w' : World}
theorem fnE_mk(f:FuncId)(a b:Array Value)(K:FuncId->Array Value->Array Value->Prop):fnE (.func (.func f) a b) K=K f a b:=rfl
theorem RdSl.tok {s:SV} {l:List Tok} (h:RdSl w s l) {i:Nat} {t:Tok} (hx:l[i]?=some t):∃a,s.a=some a/\(0:Int)<=(i:Int)/\(i:Int)<((s.len:Nat):Int)/\
    w.cell? (a.add (((i:Int)).toNat * 3))=some (.int .i64 t.kind)/\w.cell? ((a.add (((i:Int)).toNat * 3)).add 0)=some (.int .i64 t.kind)/\w.cell? ((a.add (((i:Int)).toNat * 3)).add 1)=some (.int .i64 t.at_)/\w.cell? ((a.add (((i:Int)).toNat * 3)).add 2)=some (.string t.text):=by
  obtain⟨a,ha,hi,_,_,h0,h1,h2⟩:=tokAt h hx
  rw[toNat_i]
  exact⟨a,ha,by omega,by omega,by rw[←add0 (a.add _)];exact h0,h0,h1,h2⟩
end Go.Proofs.YtjbfehippchniaaGreatDoor

/- Lex: the text of tokens, as both packages make it. No condition but those stated. -/
set_option maxRecDepth 100000
set_option linter.unusedVariables false
set_option linter.unusedSimpArgs false
namespace Go.Proofs.YtjbfehippchniaaGreatDoor
open Go.Sh Go.Sh.Lx Go.RowKit
variable {w0 w w' : World}
def writL(k:Int)(x:List UInt8):List UInt8:=
  if k=2 then(if x.contains 34 then 39 :: (x ++ [39])else 34 :: (x ++ [34]))
  else if k=3 then(if x.length ≠ 8 then 123 :: (x ++ [125])else [123,94] ++ x.take 4 ++ [45] ++ (x.drop 4).take 2 ++ [45] ++ x.drop 6 ++ [125])
  else x
def writS(t:Tok):List UInt8:=writL t.kind t.text.data.toList
theorem writS_bs(k a:Int)(x:List UInt8):writS ⟨k,a,bs x⟩=writL k x:=by unfold writS;rw[bs_list]
def joinS:Bool->List Tok->List UInt8
  | _,[]=>[]
  | g,t :: l=>if t.kind=5 then 10 :: joinS false l else(if g then [32]else []) ++ writS t ++ joinS true l
theorem writS_len(t:Tok):(writS t).length<=t.text.size+5:=by
  have hs:t.text.data.toList.length=t.text.size:=size_list t.text
  unfold writS writL
  split
  · split <;> (simp only[List.length_cons,List.length_append,List.length_nil];omega)
  · split
    · split
      · simp only[List.length_cons,List.length_append,List.length_nil];omega
      · rename_i h8
        have h8:t.text.data.toList.length=8:=by simpa using h8
        simp only[List.length_append,List.length_cons,List.length_nil,List.length_take,List.length_drop];omega
    · omega
def sizeT(l:List Tok):Nat:=(l.map λt=>t.text.size+6).sum
theorem joinS_len:∀(g:Bool) (l:List Tok),(joinS g l).length<=sizeT l
  | _,[]=>by simp[joinS,sizeT]
  | g,t :: l=>by
    have h1:=joinS_len false l
    have h2:=joinS_len true l
    have h3:=writS_len t
    unfold joinS
    have hs:sizeT (t :: l)=t.text.size+6+sizeT l:=by unfold sizeT;simp
    rw[hs]
    split
    · simp;omega
    · rw[List.length_append,List.length_append]
      cases g <;> simp <;> omega
theorem text_bs(s:ByteArray):∃l,s=bs l/\s.data.toList=l:=⟨s.data.toList,(list_bs s).symm,rfl⟩
theorem contains_index(l:List UInt8)(c:UInt8):decide (0<=Lib.indexByte l c)=l.contains c:=by
  rw[indexByte_tw]
  by_cases h:(l.takeWhile λb=>!decide (b=c)).length<l.length
  · rw[if_pos h,decide_eq_true (by omega)]
    obtain⟨x,hx⟩:=at_k h
    have h2:=tw_end (f:=λb=>!decide (b=c)) hx
    have h3:x=c:=by simpa using h2
    have:c ∈ l:=by rw[←h3];exact List.mem_of_getElem? hx
    exact(by simpa using this)
  · rw[if_neg h,decide_eq_false (by omega)]
    symm
    have hle:=tw_le (λb=>!decide (b=c)) l
    have hall:∀x ∈ l,x ≠ c:=λx hx e=>by
      obtain⟨j,hj⟩:=List.mem_iff_getElem?.1 hx
      have hjl:=(List.getElem?_eq_some_iff.1 hj).1
      obtain⟨y,hy,hf⟩:=tw_lt (f:=λb=>!decide (b=c)) (l:=l) (k:=j) (by omega)
      rw[hj]at hy;cases hy
      rw[e]at hf;simp at hf
    simp only[List.contains_eq_mem,decide_eq_false_iff_not]
    intro hm;exact hall c hm rfl
theorem quote_c(l:List UInt8)(w:World):Calls Tryz.prog 36 #[.string (bs l),.string (⟨#[34]⟩:ByteArray)] w λe w'=>e=.returned (.bool (l.contains 34))/\w'=w:=by
  refine(Any.strings_Contains_one Tryz.lays144 (bs l) 34 w).mono ?_
  rintro e w' ⟨rfl,rfl⟩
  rw[bs_list,contains_index];exact⟨rfl,rfl⟩
theorem has_c(l:List UInt8)(hl:l.length<=140737488355328)(w:World):Calls Tryz.prog 58 #[.string (bs l),.int .u8 34] w λe w'=>e=.returned (.bool (l.contains 34))/\w'=w:=by
  refine calls_by (F58_calls _ _ w) λR hR=>loopUp l.length (λk n w'=>n=(k:Int)/\w'=w/\l.contains 34=(l.drop k).contains 34) ⟨rfl,rfl,rfl⟩ ?_
  rintro k J n w1 hk ⟨rfl,rfl,hc⟩ hJ
  refine Br.of (λq=>?_) (λq=>hR _ _ ⟨?_,rfl⟩)
  · have q:=dtrue q
    rw[bs_size_i]at q
    have hk2:k<l.length:=by omega
    obtain⟨x,hx⟩:=at_k hk2
    rw[drop_at hx,List.contains_cons]at hc
    have e34:(((x.toNat:Nat):Int) == 34)=(34 == x):=by
      rw[beq_dec]
      by_cases e:x=34
      · subst e;rfl
      · have h1:(34 == x)=false:=by simp;exact λh=>e h.symm
        rw[h1];exact decide_eq_false λh=>e (UInt8.toNat_inj.1 (by show x.toNat=34;omega))
    refine⟨x,by omega,by rw[toNat_i];exact bs_get hx,?_⟩
    rw[e34]
    refine Br.of (λq2=>hR _ _ ⟨by rw[hc,q2];rfl,rfl⟩) (λq2=>?_)
    rw[q2,Bool.false_or]at hc
    rw[wrap_in (by omega) (by omega)]
    exact hJ _ _ hk2 ⟨by omega,rfl,hc⟩
  · have q:=dfalse q
    rw[bs_size_i]at q
    rw[hc,List.drop_eq_nil_of_le (by omega)];rfl
theorem cat_bs(a b:List UInt8):((bs a).size+(bs b).size:Nat)=a.length+b.length:=by rw[bs_size,bs_size]
theorem date_text{x:List UInt8}(h8:x.length=8):(((((((⟨#[123,94]⟩:ByteArray) ++ ((bs x).extract 0 ((4:Int).toNat))) ++ (⟨#[45]⟩:ByteArray)) ++ ((bs x).extract ((4:Int).toNat) ((6:Int).toNat))) ++ (⟨#[45]⟩:ByteArray)) ++ ((bs x).extract ((6:Int).toNat) (bs x).size)) ++ (⟨#[125]⟩:ByteArray)) =
    bs ([123,94] ++ x.take 4 ++ [45] ++ (x.drop 4).take 2 ++ [45] ++ x.drop 6 ++ [125]):=by
  have e1:(⟨#[123,94]⟩:ByteArray)=bs [123,94]:=rfl
  have e2:(⟨#[45]⟩:ByteArray)=bs [45]:=rfl
  have e3:(⟨#[125]⟩:ByteArray)=bs [125]:=rfl
  have i4:(4:Int).toNat=4:=rfl
  have i6:(6:Int).toNat=6:=rfl
  rw[e1,e2,e3,i4,i6,extract_take,extract_take,extract_drop,List.drop_zero,List.drop_take,bs_append,bs_append,bs_append,bs_append,bs_append,bs_append]
theorem date_sizes{x:List UInt8}(h8:x.length=8) :
    (((⟨#[123,94]⟩:ByteArray).size+((bs x).extract 0 ((4:Int).toNat)).size:Nat):Int)<=9223372036854775807/\
    ((((⟨#[123,94]⟩:ByteArray) ++ ((bs x).extract 0 ((4:Int).toNat))).size+(⟨#[45]⟩:ByteArray).size:Nat):Int)<=9223372036854775807/\
    (((((⟨#[123,94]⟩:ByteArray) ++ ((bs x).extract 0 ((4:Int).toNat))) ++ (⟨#[45]⟩:ByteArray)).size+((bs x).extract ((4:Int).toNat) ((6:Int).toNat)).size:Nat):Int)<=9223372036854775807/\
    ((((((⟨#[123,94]⟩:ByteArray) ++ ((bs x).extract 0 ((4:Int).toNat))) ++ (⟨#[45]⟩:ByteArray)) ++ ((bs x).extract ((4:Int).toNat) ((6:Int).toNat))).size+(⟨#[45]⟩:ByteArray).size:Nat):Int)<=9223372036854775807/\
    (((((((⟨#[123,94]⟩:ByteArray) ++ ((bs x).extract 0 ((4:Int).toNat))) ++ (⟨#[45]⟩:ByteArray)) ++ ((bs x).extract ((4:Int).toNat) ((6:Int).toNat))) ++ (⟨#[45]⟩:ByteArray)).size+((bs x).extract ((6:Int).toNat) (bs x).size).size:Nat):Int)<=9223372036854775807/\
    ((((((((⟨#[123,94]⟩:ByteArray) ++ ((bs x).extract 0 ((4:Int).toNat))) ++ (⟨#[45]⟩:ByteArray)) ++ ((bs x).extract ((4:Int).toNat) ((6:Int).toNat))) ++ (⟨#[45]⟩:ByteArray)) ++ ((bs x).extract ((6:Int).toNat) (bs x).size)).size+(⟨#[125]⟩:ByteArray).size:Nat):Int)<=9223372036854775807:=by
  have e1:(⟨#[123,94]⟩:ByteArray)=bs [123,94]:=rfl
  have e2:(⟨#[45]⟩:ByteArray)=bs [45]:=rfl
  have e3:(⟨#[125]⟩:ByteArray)=bs [125]:=rfl
  have i4:(4:Int).toNat=4:=rfl
  have i6:(6:Int).toNat=6:=rfl
  rw[e1,e2,e3,i4,i6,extract_take,extract_take,extract_drop,List.drop_zero,List.drop_take,bs_append,bs_append,bs_append,bs_append,bs_append]
  simp only[cat_bs,List.length_append,List.length_take,List.length_drop,List.length_cons,List.length_nil,h8]
  omega
theorem quoted_cat(q:UInt8)(x:List UInt8):((⟨#[q]⟩:ByteArray) ++ bs x) ++ (⟨#[q]⟩:ByteArray)=bs (q :: (x ++ [q])):=by
  have e:(⟨#[q]⟩:ByteArray)=bs [q]:=rfl
  rw[e,bs_append,bs_append];rfl
theorem brace_cat(x:List UInt8):((⟨#[123]⟩:ByteArray) ++ bs x) ++ (⟨#[125]⟩:ByteArray)=bs (123 :: (x ++ [125])):=by
  have e:(⟨#[123]⟩:ByteArray)=bs [123]:=rfl
  have e2:(⟨#[125]⟩:ByteArray)=bs [125]:=rfl
  rw[e,e2,bs_append,bs_append];rfl
theorem cat1_le(a c:UInt8)(x:List UInt8)(hx:x.length<=140737488355328):(((⟨#[a]⟩:ByteArray).size+(bs x).size:Nat):Int)<=9223372036854775807/\((((⟨#[a]⟩:ByteArray) ++ bs x).size+(⟨#[c]⟩:ByteArray).size:Nat):Int)<=9223372036854775807:=by
  have e:(⟨#[a]⟩:ByteArray)=bs [a]:=rfl
  have e2:(⟨#[c]⟩:ByteArray)=bs [c]:=rfl
  rw[e,e2,bs_append,cat_bs,cat_bs]
  simp only[List.length_append,List.length_cons,List.length_nil]
  omega
theorem rwritten_c(t:Tok)(ht:t.text.size<=140737488355328)(w:World):Calls Tryz.prog 26 #[.agg (tokV t).toArray] w λe w'=>e=.returned (.string (bs (if t.kind=5 then [10]else writS t)))/\Pu w w':=by
  obtain⟨k,a,s⟩:=t
  obtain⟨x,rfl,hx⟩:=text_bs s
  have hxl:x.length<=140737488355328:=by have h:=ht;rw[bs_size]at h;exact h
  rw[writS_bs]
  unfold writL
  dsimp only
  refine calls_by (F26_calls _ _ _ w) λR hR=>alB λw1 hp1 hb1=>⟨_,cl0 hb1,?_⟩
  refine Br.of (λq=>⟨_,cl hb1 2,(has_c x hxl w1).mono ?_⟩) (λq=>?_)
  · have q:k=2:=btrue q
    rw[if_neg (by omega),if_pos q]at hR
    rintro e w2 ⟨rfl,rfl⟩
    refine⟨_,rfl,Br.of (λq2=>?_) (λq2=>?_)⟩
    · rw[if_pos q2]at hR
      obtain⟨z1,z2⟩:=cat1_le 39 39 x hxl
      exact⟨_,cl hb1 2,z1,z2,hR _ _ ⟨by rw[quoted_cat],hp1⟩⟩
    · rw[if_neg (by rw[q2];simp)]at hR
      obtain⟨z1,z2⟩:=cat1_le 34 34 x hxl
      exact⟨_,cl hb1 2,z1,z2,hR _ _ ⟨by rw[quoted_cat],hp1⟩⟩
  · have q:¬k=2:=bfalse q
    refine Br.of (λq2=>⟨_,cl hb1 2,Br.of (λq3=>?_) (λq3=>?_)⟩) (λq2=>Br.of (λq3=>hR _ _ ⟨?_,hp1⟩) (λq3=>⟨_,cl hb1 2,hR _ _ ⟨?_,hp1⟩⟩))
    · have q2:k=3:=btrue q2
      have q3:=bntrue q3
      rw[bs_size_i]at q3
      rw[if_neg (by omega),if_neg q,if_pos q2,if_pos (by omega)]at hR
      obtain⟨z1,z2⟩:=cat1_le 123 125 x hxl
      exact⟨_,cl hb1 2,z1,z2,hR _ _ ⟨by rw[brace_cat],hp1⟩⟩
    · have q2:k=3:=btrue q2
      have q3:=bnfalse q3
      rw[bs_size_i]at q3
      have h8:x.length=8:=by omega
      rw[if_neg (by omega),if_neg q,if_pos q2,if_neg (by omega)]at hR
      refine dwE_intro λw2 hp2 _=>?_
      have hb2:=hp2.blk hb1
      have hsz:(bs x).size=8:=by rw[bs_size];exact h8
      obtain⟨z1,z2,z3,z4,z5,z6⟩:=date_sizes h8
      refine⟨_,cl hb2 2,by omega,by rw[hsz];decide,by omega,z1,z2,_,cl hb2 2,by omega,by rw[hsz];decide,by omega,by decide,z3,z4,_,cl hb2 2,Nat.le_refl _,by omega,by rw[hsz];decide,z5,z6,hR _ _ ⟨?_,hp1.trans hp2⟩⟩
      rw[date_text h8]
    · rw[if_pos (btrue q3)]
    · have q2:¬k=3:=bfalse q2
      have q3:¬k=5:=bfalse q3
      rw[if_neg q3,if_neg q,if_neg q2]
end Go.Proofs.YtjbfehippchniaaGreatDoor

/- Lex: the text of tokens, and the source that is made of them, as both packages make it. The signs: what the library's tables of letters and of bytes lay. -/
set_option maxRecDepth 100000
set_option linter.unusedVariables false
set_option linter.unusedSimpArgs false
namespace Go.Proofs.YtjbfehippchniaaGreatDoor
open Go.Sh Go.Sh.Lx Go.RowKit
variable {w0 w w' : World}
abbrev Bld(b:Nat)(acc:List UInt8)(w:World):Prop:=Lib.IsBuilderF 59 5 b b (Lib.byteCells acc) w
theorem Bld.pu{b:Nat}{acc:List UInt8}(h:Bld b acc w)(hp:Pu w w'):Bld b acc w':=by
  have one:∀{p},Lib.BuilderAtF 59 5 b b p (Lib.byteCells acc) w->Lib.BuilderAtF 59 5 b b p (Lib.byteCells acc) w':=by
    rintro p ⟨hB,v,hb,⟨hl,ho⟩,hne⟩
    refine⟨hB,v,hp.blk hb,⟨hl,?_⟩,hne⟩
    rcases ho with ho|⟨g,cap,cur,fz,h1,h2,h3,h4⟩
    · exact .inl ho
    · exact .inr ⟨g,cap,cur,fz,h1,h2,hp.blk h3,h4⟩
  exact h.elim (λh=>.inl (one h)) (λh=>.inr (one h))
theorem Bld.new {b:Nat} (hb:w.heap[b]?=some (.cells #[.pointer none,.slice none 0 0] 59)):Bld b [] w:=
  .inl ⟨Nat.le_refl _,.slice none 0 0,hb,⟨rfl,.inl ⟨rfl,rfl⟩⟩,by simp[Value.ownBlock]⟩
theorem Pu.low{b:Nat}(h:Pu w0 w)(hb:w0.heap.size<=b)(k:Below b w w'):Pu w0 w':=Below.trans h (k.mono hb)
def texts(l:List Tok):Prop:=∀t ∈ l,t.text.size<=140737488355328
theorem joinS_drop {g:Bool} {l:List Tok} {k:Nat} {t:Tok} (h:l[k]?=some t):joinS g (l.drop k)=if t.kind=5 then 10 :: joinS false (l.drop (k+1))else(if g then [32]else []) ++ writS t ++ joinS true (l.drop (k+1)):=by
  rw[drop_at h];rfl
def midB(l:List Tok)(k:Nat):Bool:=match k with
  | 0=>false
  | k+1=>match l[k]? with
    | some t=>decide (t.kind ≠ 5)
    | none=>false
theorem midB_succ {l:List Tok} {k:Nat} {t:Tok} (h:l[k]?=some t):midB l (k+1)=decide (t.kind ≠ 5):=by
  show(match l[k]? with|some t=>decide (t.kind ≠ 5)|none=>false)=_
  rw[h]
theorem rjoined_c{s:SV}{l:List Tok}(hs:RdSl w0 s l)(ht:texts l)(hz:sizeT l<=140737488355328):Calls Tryz.prog 12 #[.slice s.a s.len s.cap] w0 λe w'=>e=.returned (.string (bs (joinS false l)))/\Pu w0 w':=by
  have hsl:=hs.len
  have hlim:=hs.lim
  have hjl:=joinS_len false l
  refine calls_by (F12_calls _ w0) λR hR=>?_
  have e0:(⟨#[]⟩:ByteArray)=bs []:=rfl
  refine loopUp l.length (λk t w'=>∃acc,t=(bs acc,(k:Int))/\Pu w0 w'/\acc ++ joinS (midB l k) (l.drop k)=joinS false l) ⟨[],rfl,Pu.refl _,rfl⟩ ?_
  rintro k J t w2 hk ⟨acc,rfl,hp2,hacc⟩ hJ
  dsimp only
  refine Br.of (λq=>?_) (λq=>?_)
  · have q:=dtrue q
    have hk2:k<l.length:=by omega
    obtain⟨t,htk⟩:=at_k hk2
    have htt:=ht t (List.mem_of_getElem? htk)
    obtain⟨a,ha,h1,h2,ck,c0,c1,c2⟩:=RdSl.tok (hs.pu hp2) htk
    rw[joinS_drop htk]at hacc
    have hmid:midB l (k+1)=decide (t.kind ≠ 5):=midB_succ htk
    -- a token is put behind what there is
    have fin:∀{g:Bool} {w3:World},(t.kind ≠ 5->g=midB l k)->(t.kind=5->g=false)->Pu w0 w3->Calls Tryz.prog 26 #[.agg (tokV t).toArray] w3 λe w5=>∃s37:ByteArray,e=.returned (.string s37)/\((((bs (acc ++ if g then [32]else [])).size+s37.size:Nat):Int)<=9223372036854775807/\F12_2 R J s (bs (acc ++ if g then [32]else []) ++ s37) (k:Int) [] w5):=λ{g w3} hg hg5 hp3=>by
      refine(rwritten_c t htt w3).mono ?_
      rintro e w4 ⟨rfl,hp4⟩
      have e1:(acc ++ if g then [32]else []) ++ (if t.kind=5 then [10]else writS t) ++ joinS (midB l (k+1)) (l.drop (k+1))=joinS false l:=by
        rw[←hacc,hmid]
        by_cases h5:t.kind=5
        · rw[if_pos h5,if_pos h5,hg5 h5,decide_eq_false (by simp[h5])];simp
        · rw[if_neg h5,if_neg h5,hg h5,decide_eq_true h5];simp
      have hlen:=congrArg List.length e1
      rw[List.length_append,List.length_append]at hlen
      refine⟨_,rfl,by rw[cat_bs];omega,?_⟩
      rw[bs_append]
      unfold F12_2
      rw[wrap_in (by omega) (by omega)]
      exact hJ _ _ hk2 ⟨_,by rw[show(k:Int)+1=((k+1:Nat):Int)by omega],hp3.trans hp4,e1⟩
    have plain:(t.kind ≠ 5->midB l k=false)->∃a10:Addr,s.a=some a10/\(0:Int)<=(k:Int)/\(k:Int)<((s.len:Nat):Int)/\
        ∃n36_0:Int,w2.cell? ((a10.add (((k:Int)).toNat * 3)).add 0)=some (.int .i64 n36_0)/\∃n36_1:Int,w2.cell? ((a10.add (((k:Int)).toNat * 3)).add 1)=some (.int .i64 n36_1)/\∃s36_2:ByteArray,w2.cell? ((a10.add (((k:Int)).toNat * 3)).add 2)=some (.string s36_2)/\
        Calls Tryz.prog 26 #[.agg #[.int .i64 n36_0,.int .i64 n36_1,.string s36_2]] w2 λe w11=>∃s37:ByteArray,e=.returned (.string s37)/\(((bs acc).size+s37.size:Nat):Int)<=9223372036854775807/\F12_2 R J s (bs acc ++ s37) (k:Int) [] w11:=λhm=>by
      refine⟨a,ha,h1,h2,_,c0,_,c1,_,c2,?_⟩
      have:=fin (g:=false) (λh=>(hm h).symm) (λ_=>rfl) hp2
      simp only[Bool.false_eq_true,if_false,List.append_nil]at this
      exact this
    refine Br.of (λq1=>⟨a,ha,h1,h2,_,ck,Br.of (λq2=>?_) (λq2=>plain λh=>absurd (bnfalse q2) h)⟩) (λq1=>plain λ_=>?_)
    · have q1:=dtrue q1
      have q2:t.kind ≠ 5:=bntrue q2
      obtain⟨j,rfl⟩:∃j,k=j+1:=⟨k - 1,by omega⟩
      obtain⟨t',htj⟩:=at_k (l:=l) (k:=j) (by omega)
      have hm:midB l (j+1)=decide (t'.kind ≠ 5):=midB_succ htj
      obtain⟨a',ha',g1,g2,gk,_,_,_⟩:=RdSl.tok (hs.pu hp2) htj
      rw[wrap_in (n:=((j+1:Nat):Int) - 1) (by omega) (by omega),show((j+1:Nat):Int) - 1=(j:Int)by omega]
      refine⟨a',ha',g1,g2,_,gk,Br.of (λq3=>?_) (λq3=>plain λ_=>by rw[hm];exact decide_eq_false (by have:=bnfalse q3;simp[this]))⟩
      have q3:t'.kind ≠ 5:=bntrue q3
      have e32:(⟨#[32]⟩:ByteArray)=bs [32]:=rfl
      rw[e32,bs_append]
      have hlen:=congrArg List.length hacc
      rw[List.length_append]at hlen
      refine⟨by rw[cat_bs,List.length_singleton];omega,a,ha,h1,h2,_,c0,_,c1,_,c2,?_⟩
      have:=fin (g:=true) (λ_=>by rw[hm];exact(decide_eq_true q3).symm) (λh=>absurd h q2) hp2
      simp only[if_true]at this
      exact this
    · have q1:=dfalse q1
      obtain rfl:k=0:=by omega
      rfl
  · have q:=dfalse q
    rw[List.drop_eq_nil_of_le (by omega)]at hacc
    have hacc:acc=joinS false l:=by rw[←hacc];simp[joinS]
    exact hR _ _ ⟨by rw[hacc],hp2⟩
end Go.Proofs.YtjbfehippchniaaGreatDoor

/- Lex: the source that the statements look at first: its tokens, and the source of these. The signs: the library's tables of letters and of bytes. -/
set_option maxRecDepth 100000
set_option linter.unusedVariables false
set_option linter.unusedSimpArgs false
namespace Go.Proofs.YtjbfehippchniaaGreatDoor
open Go.Sh Go.Sh.Lx Go.RowKit
variable {w0 w w' : World}
def lexN:Nat->List UInt8->Nat->Bool->Option LexOut
  | 0,_,_,_=>none
  | _+1,[],p,line=>some (if line then [endT p]else [],none)
  | n+1,b :: r,p,line=>match stepS b r line with
    | .go m=>lexN n (r.drop m) (p+1+m) line
    | .eol=>(lexN n r (p+1) false).map λo=>((if line then [endT p]else []) ++ o.1,o.2)
    | .tok k t m=>(lexN n (r.drop m) (p+1+m) true).map λo=>(⟨k,(p:Int),bs t⟩ :: o.1,o.2)
    | .bad i=>some ([],some (p+i))
end Go.Proofs.YtjbfehippchniaaGreatDoor

/- Shallow texts of functions, printed by program, each checked by the kernel against the loaded code. No condition. -/
set_option maxRecDepth 100000
set_option linter.unusedVariables false
namespace Go.Proofs.YtjbfehippchniaaGreatDoor
open Go.Sh
def F42_1(R:Rt)(s0:ByteArray)(l1:SV)(ds:Ds)(w:World):Prop:=
 alE (.cells #[.string s0] 9) w λr2 w1=>
 ∃s7:ByteArray,w1.cell? (⟨r2,0,none⟩:Addr)=some (.string s7)/\
 Calls Tryz.prog 75 #[.string s7] w1 λe w2=>
 ∃s8:ByteArray,e=.returned (.string s8)/\
 st1 (⟨r2,0,none⟩:Addr) (.string s8) w2 λw3=>
 ∃s10:ByteArray,w3.cell? (⟨r2,0,none⟩:Addr)=some (.string s10)/\
 Calls Tryz.prog 76 #[.slice l1.a l1.len l1.cap,.string s10] w3 λe w4=>
 ∃b11:Bool,e=.returned (.bool b11)/\
 Br b11 (
 ∃s12:ByteArray,w4.cell? (⟨r2,0,none⟩:Addr)=some (.string s12)/\
 runD Tryz.prog ds w4 λw5=>
 R (.returned (.tuple #[.string s12,.bool true])) w5) (
 Calls Tryz.prog 77 #[.slice l1.a l1.len l1.cap,.func (.func 78) #[] #[.pointer (some (⟨r2,0,none⟩:Addr))]] w4 λe w6=>
 ∃n15:Int,e=.returned (.int .i64 n15)/\
 Br (decide (n15<0)) (
 runD Tryz.prog ds w6 λw7=>
 R (.returned (.tuple #[.string (⟨#[]⟩:ByteArray),.bool false])) w7) (
 ∃a8:Addr,l1.a=some a8/\0<=n15/\n15<((l1.len:Nat):Int)/\
 ∃s21:ByteArray,w6.cell? (a8.add (n15.toNat * 1))=some (.string s21)/\
 runD Tryz.prog ds w6 λw9=>
 R (.returned (.tuple #[.string s21,.bool true])) w9))
theorem F42_p:Pl Tryz.prog Tryz.f42 [sS 0,lS 1] F42_1:=λR=>
  lf
theorem F42_calls (s0:ByteArray) (l1:SV) (w:World) (R:Rt) (h:F42_1 R s0 l1 [] w):Calls Tryz.prog 42 #[.string s0,.slice l1.a l1.len l1.cap] w R:=
  plC F42_p Tryz.func42 h
def F55_1(R:Rt)(ds:Ds)(w:World):Prop:=
 runD Tryz.prog ds w λw1=>
 R (.returned (.tuple #[.string (⟨#[]⟩:ByteArray),.bool false])) w1
def F55_2 (R:Rt) (J1:(Int)->World->Prop) (l1:SV) (s6:ByteArray) (n7:Int) (ds:Ds) (w:World):Prop:=
 Br (decide (n7<((l1.len:Nat):Int))) (
 Br (decide (((s6.size:Nat):Int) ≥ 4)) (
 ∃a2:Addr,l1.a=some a2/\0<=n7/\n7<((l1.len:Nat):Int)/\
 ∃s28:ByteArray,w.cell? (a2.add (n7.toNat * 1))=some (.string s28)/\
 Calls Tryz.prog 92 #[.string s28,.string s6] w λe w3=>
 ∃b30:Bool,e=.returned (.bool b30)/\
 Br b30 (
 ∃a4:Addr,l1.a=some a4/\0<=n7/\n7<((l1.len:Nat):Int)/\
 ∃s34:ByteArray,w3.cell? (a4.add (n7.toNat * 1))=some (.string s34)/\
 runD Tryz.prog ds w3 λw5=>
 R (.returned (.tuple #[.string s34,.bool true])) w5) (
 J1 (IntKind.i64.wrap (n7+1)) w3)) (
 F55_1 R ds w)) (
 F55_1 R ds w)
def F55_3(R:Rt)(l1:SV)(s6:ByteArray)(n7:Int)(ds:Ds)(w:World):Prop:=
 loopT (λ(J1:(Int)->World->Prop) (s:Int) (w:World)=>F55_2 R J1 l1 s6 s ds w) n7 w
def F55_5(R:Rt)(s0:ByteArray)(l1:SV)(ds:Ds)(w:World):Prop:=
 Calls Tryz.prog 63 #[.string s0] w λe w6=>
 ∃s9:ByteArray,e=.returned (.string s9)/\
 Calls Tryz.prog 93 #[.slice l1.a l1.len l1.cap,.string s9] w6 λe w7=>
 ∃b12:Bool,e=.returned (.bool b12)/\
 Br b12 (
 runD Tryz.prog ds w7 λw8=>
 R (.returned (.tuple #[.string s9,.bool true])) w8) (
 F55_3 R l1 s9 0 ds w7)
theorem F55_p:Pl Tryz.prog Tryz.f55 [sS 0,lS 1] F55_5:=λR=>
  pc 5 (rest [lS 1,sS 6,iS 7] (F55_3 R) (bk 0 (rest [] (F55_1 R) lf) (lp [iS 7] [lS 1,sS 6,iS 7] (F55_2 R) rnil λJ1=>lf)))
theorem F55_calls (s0:ByteArray) (l1:SV) (w:World) (R:Rt) (h:F55_5 R s0 l1 [] w):Calls Tryz.prog 55 #[.string s0,.slice l1.a l1.len l1.cap] w R:=
  plC F55_p Tryz.func55 h
def F46_1(R:Rt)(s0:ByteArray)(ds:Ds)(w:World):Prop:=
 Br (s0.toList == (⟨#[]⟩:ByteArray).toList) (
 runD Tryz.prog ds w λw1=>
 R (.returned (.bool false)) w1) (
 Br (decide (((s0.size:Nat):Int) > 10)) (
 runD Tryz.prog ds w λw2=>
 R (.returned (.bool false)) w2) (
 ∃b12:UInt8,0<=(0:Int)/\s0[(0:Int).toNat]?=some b12/\
 Br (decide (((b12.toNat:Nat):Int) ≥ 48)) (
 ∃b16:UInt8,0<=(0:Int)/\s0[(0:Int).toNat]?=some b16/\
 Br (decide (((b16.toNat:Nat):Int)<=57)) (
 runD Tryz.prog ds w λw3=>
 R (.returned (.bool false)) w3) (
 Calls Tryz.prog 72 #[.string s0,.string (⟨#[65,66,67,68,69,70,71,72,73,74,75,76,77,78,79,80,81,82,83,84,85,86,87,88,89,90,48,49,50,51,52,53,54,55,56,57,95]⟩:ByteArray)] w λe w4=>
 ∃s21:ByteArray,e=.returned (.string s21)/\
 runD Tryz.prog ds w4 λw5=>
 R (.returned (.bool (s21.toList == (⟨#[]⟩:ByteArray).toList))) w5)) (
 Calls Tryz.prog 72 #[.string s0,.string (⟨#[65,66,67,68,69,70,71,72,73,74,75,76,77,78,79,80,81,82,83,84,85,86,87,88,89,90,48,49,50,51,52,53,54,55,56,57,95]⟩:ByteArray)] w λe w6=>
 ∃s21:ByteArray,e=.returned (.string s21)/\
 runD Tryz.prog ds w6 λw7=>
 R (.returned (.bool (s21.toList == (⟨#[]⟩:ByteArray).toList))) w7)))
theorem F46_p:Pl Tryz.prog Tryz.f46 [sS 0] F46_1:=λR=>
  lf
theorem F46_calls (s0:ByteArray) (w:World) (R:Rt) (h:F46_1 R s0 [] w):Calls Tryz.prog 46 #[.string s0] w R:=
  plC F46_p Tryz.func46 h
def F75_1(R:Rt)(l3:SV)(ds:Ds)(w:World):Prop:=
 ∃s28:ByteArray,∃w1:World,(convert 57 9 (.slice l3.a l3.len l3.cap)).run Tryz.prog w=.ok (.string s28) w1/\
 runD Tryz.prog ds w1 λw2=>
 R (.returned (.string s28)) w2
def F75_2 (R:Rt) (J1:(Int)->World->Prop) (l3:SV) (l8:SV) (n9:Int) (n10:Int) (ds:Ds) (w:World):Prop:=
 Br (decide (n10<n9)) (
 ∃a3:Addr,l8.a=some a3/\0<=n10/\n10<((l8.len:Nat):Int)/\
 ∃n14:Int,w.cell? (a3.add (n10.toNat * 1))=some (.int .u8 n14)/\
 Br (decide (n14 ≥ 97)) (
 Br (decide (n14<=122)) (
 ∃a4:Addr,l3.a=some a4/\0<=n10/\n10<((l3.len:Nat):Int)/\
 st1 (a4.add (n10.toNat * 1)) (.int .u8 (IntKind.u8.wrap (n14 - 32))) w λw5=>
 J1 (IntKind.i64.wrap (n10+1)) w5) (
 J1 (IntKind.i64.wrap (n10+1)) w)) (
 J1 (IntKind.i64.wrap (n10+1)) w)) (
 F75_1 R l3 ds w)
def F75_3(R:Rt)(l3:SV)(l8:SV)(n9:Int)(n10:Int)(ds:Ds)(w:World):Prop:=
 loopT (λ(J1:(Int)->World->Prop) (s:Int) (w:World)=>F75_2 R J1 l3 l8 n9 s ds w) n10 w
def F75_5(R:Rt)(s0:ByteArray)(ds:Ds)(w:World):Prop:=
 ∃l7:SV,∃w6:World,(convert 9 57 (.string s0)).run Tryz.prog w=.ok (.slice l7.a l7.len l7.cap) w6/\
 F75_3 R l7 l7 ((l7.len:Nat):Int) 0 ds w6
theorem F75_p:Pl Tryz.prog Tryz.f75 [sS 0] F75_5:=λR=>
  pc 3 (rest [lS 3,lS 8,iS 9,iS 10] (F75_3 R) (bk 0 (rest [lS 3] (F75_1 R) lf) (lp [iS 10] [lS 3,lS 8,iS 9,iS 10] (F75_2 R) rnil λJ1=>lf)))
theorem F75_calls (s0:ByteArray) (w:World) (R:Rt) (h:F75_5 R s0 [] w):Calls Tryz.prog 75 #[.string s0] w R:=
  plC F75_p Tryz.func75 h
def F76_1(R:Rt)(l0:SV)(s1:ByteArray)(ds:Ds)(w:World):Prop:=
 Calls Tryz.prog 113 #[.slice l0.a l0.len l0.cap,.string s1] w λe w1=>
 ∃n7:Int,e=.returned (.int .i64 n7)/\
 runD Tryz.prog ds w1 λw2=>
 R (.returned (.bool (decide (n7 ≥ 0)))) w2
theorem F76_p:Pl Tryz.prog Tryz.f76 [lS 0,sS 1] F76_1:=λR=>
  lf
theorem F76_calls (l0:SV) (s1:ByteArray) (w:World) (R:Rt) (h:F76_1 R l0 s1 [] w):Calls Tryz.prog 76 #[.slice l0.a l0.len l0.cap,.string s1] w R:=
  plC F76_p Tryz.func76 h
def F77_1(R:Rt)(ds:Ds)(w:World):Prop:=
 runD Tryz.prog ds w λw1=>
 R (.returned (.int .i64 (-1))) w1
def F77_2 (R:Rt) (J1:(Int)->World->Prop) (l0:SV) (v1:Value) (n7:Int) (n8:Int) (ds:Ds) (w:World):Prop:=
 Br (decide (n8<n7)) (
 ∃a2:Addr,l0.a=some a2/\0<=n8/\n8<((l0.len:Nat):Int)/\
 ∃s15:ByteArray,w.cell? (a2.add (n8.toNat * 1))=some (.string s15)/\
 fnE v1 λf16 first16 cap16=>
 hasBody Tryz.prog f16=true/\Calls Tryz.prog f16 (first16.toList ++ (([.string s15]:List Value) ++ cap16.toList)).toArray w λe w3=>
 ∃b16:Bool,e=.returned (.bool b16)/\
 Br b16 (
 runD Tryz.prog ds w3 λw4=>
 R (.returned (.int .i64 n8)) w4) (
 J1 (IntKind.i64.wrap (n8+1)) w3)) (
 F77_1 R ds w)
def F77_3(R:Rt)(l0:SV)(v1:Value)(n7:Int)(n8:Int)(ds:Ds)(w:World):Prop:=
 loopT (λ(J1:(Int)->World->Prop) (s:Int) (w:World)=>F77_2 R J1 l0 v1 n7 s ds w) n8 w
def F77_5(R:Rt)(l0:SV)(v1:Value)(ds:Ds)(w:World):Prop:=
 F77_3 R l0 (v1) ((l0.len:Nat):Int) 0 ds w
theorem F77_p:Pl Tryz.prog Tryz.f77 [lS 0,vS 1] F77_5:=λR=>
  pc 2 (rest [lS 0,vS 1,iS 7,iS 8] (F77_3 R) (bk 0 (rest [] (F77_1 R) lf) (lp [iS 8] [lS 0,vS 1,iS 7,iS 8] (F77_2 R) rnil λJ1=>lf)))
theorem F77_calls (l0:SV) (v1:Value) (w:World) (R:Rt) (h:F77_5 R l0 v1 [] w):Calls Tryz.prog 77 #[.slice l0.a l0.len l0.cap,v1] w R:=
  plC F77_p Tryz.func77 h
def F78_1(R:Rt)(s0:ByteArray)(v1:Value)(ds:Ds)(w:World):Prop:=
 addrE v1 λa1=>
 ∃s4:ByteArray,w.cell? a1=some (.string s4)/\
 Br (decide (((s4.size:Nat):Int) ≥ 4)) (
 addrE v1 λa2=>
 ∃s9:ByteArray,w.cell? a2=some (.string s9)/\
 Calls Tryz.prog 41 #[.string s0,.string s9] w λe w3=>
 ∃b10:Bool,e=.returned (.bool b10)/\
 runD Tryz.prog ds w3 λw4=>
 R (.returned (.bool b10)) w4) (
 runD Tryz.prog ds w λw5=>
 R (.returned (.bool false)) w5)
theorem F78_p:Pl Tryz.prog Tryz.f78 [sS 0,vS 1] F78_1:=λR=>
  lf
theorem F78_calls (s0:ByteArray) (v1:Value) (w:World) (R:Rt) (h:F78_1 R s0 v1 [] w):Calls Tryz.prog 78 #[.string s0,v1] w R:=
  plC F78_p Tryz.func78 h
def F93_1(R:Rt)(ds:Ds)(w:World):Prop:=
 runD Tryz.prog ds w λw1=>
 R (.returned (.bool false)) w1
def F93_2 (R:Rt) (J1:(Int)->World->Prop) (l0:SV) (s1:ByteArray) (n5:Int) (ds:Ds) (w:World):Prop:=
 Br (decide (n5<((l0.len:Nat):Int))) (
 ∃a2:Addr,l0.a=some a2/\0<=n5/\n5<((l0.len:Nat):Int)/\
 ∃s15:ByteArray,w.cell? (a2.add (n5.toNat * 1))=some (.string s15)/\
 Br (s15.toList == s1.toList) (
 runD Tryz.prog ds w λw3=>
 R (.returned (.bool true)) w3) (
 J1 (IntKind.i64.wrap (n5+1)) w)) (
 F93_1 R ds w)
def F93_3(R:Rt)(l0:SV)(s1:ByteArray)(n5:Int)(ds:Ds)(w:World):Prop:=
 loopT (λ(J1:(Int)->World->Prop) (s:Int) (w:World)=>F93_2 R J1 l0 s1 s ds w) n5 w
def F93_5(R:Rt)(l0:SV)(s1:ByteArray)(ds:Ds)(w:World):Prop:=
 F93_3 R l0 s1 0 ds w
theorem F93_p:Pl Tryz.prog Tryz.f93 [lS 0,sS 1] F93_5:=λR=>
  pc 2 (rest [lS 0,sS 1,iS 5] (F93_3 R) (bk 0 (rest [] (F93_1 R) lf) (lp [iS 5] [lS 0,sS 1,iS 5] (F93_2 R) rnil λJ1=>lf)))
theorem F93_calls (l0:SV) (s1:ByteArray) (w:World) (R:Rt) (h:F93_5 R l0 s1 [] w):Calls Tryz.prog 93 #[.slice l0.a l0.len l0.cap,.string s1] w R:=
  plC F93_p Tryz.func93 h
def F92_1(R:Rt)(s0:ByteArray)(s1:ByteArray)(ds:Ds)(w:World):Prop:=
 Br (decide (((s0.size:Nat):Int) ≥ ((s1.size:Nat):Int))) (
 0<=((s1.size:Nat):Int)/\((s1.size:Nat):Int).toNat<=s0.size/\0<=((s1.size:Nat):Int).toNat/\
 runD Tryz.prog ds w λw1=>
 R (.returned (.bool ((s0.extract 0 (((s1.size:Nat):Int).toNat)).toList == s1.toList))) w1) (
 runD Tryz.prog ds w λw2=>
 R (.returned (.bool false)) w2)
theorem F92_p:Pl Tryz.prog Tryz.f92 [sS 0,sS 1] F92_1:=λR=>
  lf
theorem F92_calls (s0:ByteArray) (s1:ByteArray) (w:World) (R:Rt) (h:F92_1 R s0 s1 [] w):Calls Tryz.prog 92 #[.string s0,.string s1] w R:=
  plC F92_p Tryz.func92 h
def F14_1(R:Rt)(ds:Ds)(w:World):Prop:=
 runD Tryz.prog ds w λw1=>
 R (.returned (.bool true)) w1
def F14_2 (R:Rt) (J1:(Int)->World->Prop) (s0:ByteArray) (n5:Int) (ds:Ds) (w:World):Prop:=
 J1 (IntKind.i64.wrap (n5+1)) w
def F14_3 (R:Rt) (J1:(Int)->World->Prop) (s0:ByteArray) (n5:Int) (ds:Ds) (w:World):Prop:=
 ∃b23:UInt8,0<=n5/\s0[n5.toNat]?=some b23/\
 Calls Tryz.prog 27 #[.int .u8 ((b23.toNat:Nat):Int)] w λe w2=>
 ∃b24:Bool,e=.returned (.bool b24)/\
 Br b24 (
 ∃b39:UInt8,0<=n5/\s0[n5.toNat]?=some b39/\
 Br (decide (((b39.toNat:Nat):Int) ≥ 97)) (
 ∃b44:UInt8,0<=n5/\s0[n5.toNat]?=some b44/\
 Br (decide (((b44.toNat:Nat):Int)<=122)) (
 runD Tryz.prog ds w2 λw3=>
 R (.returned (.bool false)) w3) (
 F14_2 R J1 s0 n5 ds w2)) (
 F14_2 R J1 s0 n5 ds w2)) (
 Br (decide (n5 > 0)) (
 ∃b31:UInt8,0<=n5/\s0[n5.toNat]?=some b31/\
 Calls Tryz.prog 28 #[.int .u8 ((b31.toNat:Nat):Int)] w2 λe w4=>
 ∃b32:Bool,e=.returned (.bool b32)/\
 Br (!b32) (
 runD Tryz.prog ds w4 λw5=>
 R (.returned (.bool false)) w5) (
 ∃b39:UInt8,0<=n5/\s0[n5.toNat]?=some b39/\
 Br (decide (((b39.toNat:Nat):Int) ≥ 97)) (
 ∃b44:UInt8,0<=n5/\s0[n5.toNat]?=some b44/\
 Br (decide (((b44.toNat:Nat):Int)<=122)) (
 runD Tryz.prog ds w4 λw6=>
 R (.returned (.bool false)) w6) (
 F14_2 R J1 s0 n5 ds w4)) (
 F14_2 R J1 s0 n5 ds w4))) (
 runD Tryz.prog ds w2 λw7=>
 R (.returned (.bool false)) w7))
def F14_4 (R:Rt) (J1:(Int)->World->Prop) (s0:ByteArray) (n5:Int) (ds:Ds) (w:World):Prop:=
 Br (decide (n5<((s0.size:Nat):Int))) (
 F14_3 R J1 s0 n5 ds w) (
 F14_1 R ds w)
def F14_5(R:Rt)(s0:ByteArray)(n5:Int)(ds:Ds)(w:World):Prop:=
 loopT (λ(J1:(Int)->World->Prop) (s:Int) (w:World)=>F14_4 R J1 s0 s ds w) n5 w
def F14_7(R:Rt)(s0:ByteArray)(n1:Int)(ds:Ds)(w:World):Prop:=
 Br (decide (((s0.size:Nat):Int)<1)) (
 runD Tryz.prog ds w λw8=>
 R (.returned (.bool false)) w8) (
 Br (decide (((s0.size:Nat):Int) > n1)) (
 runD Tryz.prog ds w λw9=>
 R (.returned (.bool false)) w9) (
 F14_5 R s0 0 ds w))
theorem F14_p:Pl Tryz.prog Tryz.f14 [sS 0,iS 1] F14_7:=λR=>
  pc 4 (rest [sS 0,iS 5] (F14_5 R) (bk 0 (rest [] (F14_1 R) lf) (lp [iS 5] [sS 0,iS 5] (F14_4 R) rnil λJ1=>pc 2 (rest [sS 0,iS 5] (F14_3 R J1) (pc 1 (rest [sS 0,iS 5] (F14_2 R J1) lf))))))
theorem F14_calls (s0:ByteArray) (n1:Int) (w:World) (R:Rt) (h:F14_7 R s0 n1 [] w):Calls Tryz.prog 14 #[.string s0,.int .i64 n1] w R:=
  plC F14_p Tryz.func14 h
def F113_1(R:Rt)(ds:Ds)(w:World):Prop:=
 runD Tryz.prog ds w λw1=>
 R (.returned (.int .i64 (-1))) w1
def F113_2 (R:Rt) (J1:(Int)->World->Prop) (l0:SV) (s1:ByteArray) (n7:Int) (n8:Int) (ds:Ds) (w:World):Prop:=
 Br (decide (n8<n7)) (
 ∃a2:Addr,l0.a=some a2/\0<=n8/\n8<((l0.len:Nat):Int)/\
 ∃s15:ByteArray,w.cell? (a2.add (n8.toNat * 1))=some (.string s15)/\
 Br (s1.toList == s15.toList) (
 runD Tryz.prog ds w λw3=>
 R (.returned (.int .i64 n8)) w3) (
 J1 (IntKind.i64.wrap (n8+1)) w)) (
 F113_1 R ds w)
def F113_3(R:Rt)(l0:SV)(s1:ByteArray)(n7:Int)(n8:Int)(ds:Ds)(w:World):Prop:=
 loopT (λ(J1:(Int)->World->Prop) (s:Int) (w:World)=>F113_2 R J1 l0 s1 n7 s ds w) n8 w
def F113_5(R:Rt)(l0:SV)(s1:ByteArray)(ds:Ds)(w:World):Prop:=
 F113_3 R l0 s1 ((l0.len:Nat):Int) 0 ds w
theorem F113_p:Pl Tryz.prog Tryz.f113 [lS 0,sS 1] F113_5:=λR=>
  pc 2 (rest [lS 0,sS 1,iS 7,iS 8] (F113_3 R) (bk 0 (rest [] (F113_1 R) lf) (lp [iS 8] [lS 0,sS 1,iS 7,iS 8] (F113_2 R) rnil λJ1=>lf)))
theorem F113_calls (l0:SV) (s1:ByteArray) (w:World) (R:Rt) (h:F113_5 R l0 s1 [] w):Calls Tryz.prog 113 #[.slice l0.a l0.len l0.cap,.string s1] w R:=
  plC F113_p Tryz.func113 h
end Go.Proofs.YtjbfehippchniaaGreatDoor

/- Lex (second seat): words and names, as both packages tell. No condition but those stated. -/
set_option maxRecDepth 100000
set_option linter.unusedVariables false
set_option linter.unusedSimpArgs false
namespace Go.Proofs.YtjbfehippchniaaGreatDoor
open Go.Sh Go.Sh.Lx Go.RowKit
variable {w0 w w' : World}
def nmset:List UInt8:=[65,66,67,68,69,70,71,72,73,74,75,76,77,78,79,80,81,82,83,84,85,86,87,88,89,90,48,49,50,51,52,53,54,55,56,57,95]
def isNameS(l:List UInt8):Bool:=decide (1<=l.length) && (decide (l.length<=10) && (l.all (nmset.contains ·) && !(l.take 1).all digB))
theorem name_c(l:List UInt8)(w:World):Calls Tryz.prog 46 #[.string (bs l)] w λe w'=>e=.returned (.bool (isNameS l))/\Pu w w':=by
  refine calls_by (F46_calls _ w) λR hR=>?_
  rw[F46_1,toList_nil]
  refine Br.of (λq=>hR _ _ ⟨?_,Pu.refl _⟩) (λq=>Br.of (λq1=>hR _ _ ⟨?_,Pu.refl _⟩) (λq1=>?_))
  · have q:=dtrue q
    rw[bs_size]at q
    unfold isNameS;rw[decide_eq_false (by omega)];rfl
  · have q1:=dtrue q1
    rw[bs_size]at q1
    unfold isNameS;rw[decide_eq_false (p:=l.length<=10) (by omega)];simp
  have q:=dfalse q
  have q1:=dfalse q1
  rw[bs_size]at q q1
  obtain⟨x,r,rfl⟩:∃x r,l=x :: r:=by
    cases l with
    | nil=>simp at q
    | cons x r=>exact⟨x,r,rfl⟩
  have h0:(bs (x :: r))[((0:Int)).toNat]?=some x:=byte_list (by rw[bs_list];rfl)
  have hlen1:1<=(x :: r).length:=by simp
  have hlen2:(x :: r).length<=10:=by omega
  have tr:¬(48<=x.toNat/\x.toNat<=57)->Calls Tryz.prog 72 #[.string (bs (x :: r)),.string (⟨#[65,66,67,68,69,70,71,72,73,74,75,76,77,78,79,80,81,82,83,84,85,86,87,88,89,90,48,49,50,51,52,53,54,55,56,57,95]⟩:ByteArray)] w λe w4=>
      ∃s21:ByteArray,e=.returned (.string s21)/\R (.returned (.bool (s21.toList == (⟨#[]⟩:ByteArray).toList))) w4:=λhnd=>by
    refine(Any.strings_Trim_laid Tryz.lays160 u110 (bs (x :: r)) ⟨#[65,66,67,68,69,70,71,72,73,74,75,76,77,78,79,80,81,82,83,84,85,86,87,88,89,90,48,49,50,51,52,53,54,55,56,57,95]⟩ w (by rw[bs_size];omega) (by decide) (ascii_of_all (by decide))).mono ?_
    rintro e w4 ⟨rfl,hp⟩
    refine⟨_,rfl,hR _ _ ⟨?_,hp⟩⟩
    congr 2
    have h1:((ByteArray.mk (Lib.trimS (bs (x :: r)).data.toList nmset).toArray).size=0) ↔ (x :: r).all (nmset.contains ·)=true:=by
      rw[bs_list,←trimS_nil];simp[ByteArray.size]
    rw[toList_nil]
    have hnd2:digB x=false:=digB_out hnd
    unfold isNameS
    rw[decide_eq_true hlen1,decide_eq_true hlen2]
    simp only[Bool.true_and,List.take_succ_cons,List.take_zero,List.all_cons,List.all_nil,hnd2,Bool.false_and,Bool.not_false,Bool.and_true]
    rw[Bool.eq_iff_iff,decide_eq_true_iff];exact h1
  refine⟨x,by omega,h0,Br.of (λq2=>⟨x,by omega,h0,Br.of (λq3=>hR _ _ ⟨?_,Pu.refl _⟩) (λq3=>tr (by have:=dfalse q3;omega))⟩) (λq2=>tr (by have:=dfalse q2;omega))⟩
  have q2:=dtrue q2
  have q3:=dtrue q3
  have hd:digB x=true:=by unfold digB;simp;omega
  unfold isNameS
  simp[hd]
end Go.Proofs.YtjbfehippchniaaGreatDoor
