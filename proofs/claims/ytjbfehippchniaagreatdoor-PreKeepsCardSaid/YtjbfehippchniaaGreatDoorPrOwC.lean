import Derived.Test.YtjbfehippchniaaGreatDoorPrOwB
import Derived.Test.YtjbfehippchniaaGreatDoorPxNext
import Derived.Test.YtjbfehippchniaaGreatDoorShTwentyFour
import Derived.RangeFuncBox
import Derived.RangeFuncCalls
import Derived.Shelf.Abstract
import Derived.WalkKit
import Derived.OwnWalkIn
import Derived.TacticsInMore
import Derived.LoopNIn
import Derived.LoopIn
import Derived.Maps.AppendAt
import Derived.Test.YtjbfehippchniaaGreatDoorPrPrA
import Derived.Test.YtjbfehippchniaaGreatDoorShNineteen
/- Lex: a token, as the scanner takes it. The signs: what the library's tables of letters and of bytes lay. -/
set_option maxRecDepth 100000
set_option linter.unusedVariables false
set_option linter.unusedSimpArgs false
namespace Go.Proofs.YtjbfehippchniaaGreatDoor
open Go.Sh Go.Sh.Lx Go.RowKit
variable {w0 w w' : World} {b p : Nat} {d : List UInt8} {l g : Bool} {bad : Int}
theorem outB {w5:World} {r p':Nat} {l' g':Bool} {bad':Int} {t5 t6:Tok} {k:Bool} {R:Rt} (h0:w0.heap.size<=r) (hn:w.heap.size<=r) (hrb:b ≠ r) (h5:Sc w0 w5 b d p' l' g' bad') (hf5:Fr (·=b) w w5) (hb5:TokB w5 r t6) (hk:∀w',Sc w0 w' b d p' l' g' bad'->Fr (·=b) w w'->R (retE t5 k) w') :
    stA Tryz.prog 30 (⟨r,0,none⟩:Addr) #[.int .i64 t5.kind,.int .i64 t5.at_,.string t5.text] w5 λw'=>∃n0:Int,w'.cell? ((⟨r,0,none⟩:Addr).add 0)=some (.int .i64 n0)/\∃n1:Int,w'.cell? ((⟨r,0,none⟩:Addr).add 1)=some (.int .i64 n1)/\
      ∃s2:ByteArray,w'.cell? ((⟨r,0,none⟩:Addr).add 2)=some (.string s2)/\R (.returned (.tuple #[.agg #[.int .i64 n0,.int .i64 n1,.string s2],.bool k])) w':=
  outT hb5 λw8 hf8=>hk w8 (h5.fr hf8 hrb (λi hi=>by rw[show i=_ from hi];exact h0)) (hf5.trans hf8 λi hi hlt=>by rw[show i=_ from hi]at hlt;omega)
theorem letdig_low {x:UInt8} (h:(letB x || digB x)=true):x.toNat<128:=by
  have:∀n:Nat,n<256->(letB (UInt8.ofNat n) || digB (UInt8.ofNat n))=true->(UInt8.ofNat n).toNat<128:=by decide +kernel
  have h2:=this x.toNat x.toNat_lt
  rw[UInt8.ofNat_toNat]at h2
  exact h2 h
theorem quote_nl{x:UInt8}(h:x.toNat=34∨x.toNat=39):nlB x=false:=by unfold nlB;exact decide_eq_false (by omega)
theorem tw_pos{f:UInt8->Bool}{x:UInt8}{r:List UInt8}(h:f x=true):1<=((x :: r).takeWhile f).length:=by rw[List.takeWhile_cons,if_pos h];simp
theorem ext_tw(f:UInt8->Bool)(d:List UInt8)(p:Nat)(hp:p<=d.length):(bs d).extract p (p+((d.drop p).takeWhile f).length)=bs ((d.drop p).takeWhile f):=by
  have:=tw_drop_le f d p hp
  rw[extract_take]
  congr 1
  rw[List.take_add,List.drop_append,List.drop_eq_nil_of_le (by rw[List.length_take];omega),List.nil_append,List.length_take,Nat.min_eq_left (by omega),Nat.sub_self,List.drop_zero]
  exact tw_take f _
theorem token_c(hL:Laid w0){x:UInt8}{r:List UInt8}(h:Sc w0 w b d p l g bad)(hd:d.drop p=x :: r):Calls Tryz.prog 170 #[.pointer (some ⟨b,0,none⟩)] w λe w'=>Fr (·=b) w w'/\match tokS x r with
    | .tok k t m=>e=retE ⟨k,(p:Int),bs t⟩ true/\Sc w0 w' b d (p+1+m) l g bad
    | .bad i=>∃t p',e=retE t false/\Sc w0 w' b d p' l g ((p+i:Nat):Int)
    | _=>False:=by
  have hlim:=h.lim
  have hbl:=blk_lt h.blk
  have hnew:=h.new
  have hsi:=h.since.size
  have hle:=h.le
  have hdl:(d.drop p).length=r.length+1:=by rw[hd];rfl
  rw[List.length_drop]at hdl
  have hgx:d[p]?=some x:=by have:=congrArg (·[0]?) hd;simpa[get_drop] using this
  refine calls_by (F170_calls _ w) λR hR=>alB λw1 hp1 hb1=>?_
  have h1:=h.pu hp1
  refine⟨_,h1.at_,alB λw2 hp2 hb2=>?_⟩
  have hr1:=blk_lt hb1
  have hs1:=hp1.size
  have hs2:=hp2.size
  have hr2:=blk_lt hb2
  have hb1:=hp2.blk hb1
  refine stA_fill hb2 s49.symm rfl rfl λw3 hb3 hf3 hz3=>?_
  have hb1:TokB w3 w.heap.size zeroT:=hf3.blk hb1 (by omega)
  have hb3:TokB w3 w1.heap.size ⟨0,(p:Int),⟨#[]⟩⟩:=hb3
  have hP3:Pu w w3:=Pu.andNew (hp1.trans hp2) hf3 (λi hi=>by rw[show i=_ from hi];omega)
  have h3:=h.pu hP3
  obtain⟨r5,hr5⟩:∃r5,r5=w1.heap.size:=⟨_,rfl⟩
  rw[←hr5]at hb3 ⊢
  obtain⟨r2,hr2'⟩:∃r2,r2=w.heap.size:=⟨_,rfl⟩
  rw[←hr2']at hb1 ⊢
  -- what the second block keeps through the first's calls
  refine(is_c h3 p 1).mono ?_
  rintro e w4 ⟨rfl,hp4⟩
  have h4:=h3.pu hp4
  have hb1:=hp4.blk hb1
  have hb3:=hp4.blk hb3
  have hP4:=hP3.trans hp4
  have el:clsAt d p 1=letB x:=by rw[clsAt_let,hgx]
  rw[el]
  refine⟨_,rfl,Br.of (λql=>?_) (λql=>?_)⟩
  · -- a word
    have hts:tokS x r=(let t:=(x :: r).takeWhile λc=>letB c || digB c;if 24<t.length then .bad 0 else .tok 0 (t.map capU) (t.length - 1)):=by unfold tokS;rw[if_pos ql]
    obtain⟨f,hf⟩:∃f:UInt8->Bool,f=λc=>letB c || digB c:=⟨_,rfl⟩
    obtain⟨t,ht⟩:∃t,t=(d.drop p).takeWhile f:=⟨_,rfl⟩
    have htl:1<=t.length:=by rw[ht,hd];exact tw_pos (by rw[hf];simp[ql])
    have htle:p+t.length<=d.length:=by rw[ht];exact tw_drop_le f d p hle
    rw[hts,←hd,←hf,←ht]at hR
    refine loopUp t.length (λk _ w'=>Sc w0 w' b d (p+k) l g bad/\Fr (·=b) w w'/\TokB w' r2 zeroT/\TokB w' r5 ⟨0,(p:Int),⟨#[]⟩⟩) ⟨h4,Fr.pu hP4,hb1,hb3⟩ ?_
    rintro k J _ w5 hk ⟨h5,hf5,hb5,hc5⟩ hJ
    have htest:=head_test (f:=f) (d:=d) (p:=p) (k:=k) (by rw[←ht];exact hk)
    rw[←ht]at htest
    have nxt:∀{w6:World},Pu w5 w6->k<t.length->(∃n36:Int,w6.cell? ((⟨b,0,none⟩:Addr).add 1)=some (.int .i64 n36)/\ptrE (some (⟨b,0,none⟩:Addr)) λa34=>st1 (a34.add 1) (.int .i64 (IntKind.i64.wrap (n36+1))) w6 λw35=>J () w35):=λ{w6} hp6 hlt=>by
      have h6:=h5.pu hp6
      exact⟨_,h6.at_,h6.st_at (p':=p+(k+1)) (by omega) (by rw[wrap_in (by omega) (by omega)];omega) λw7 h7 hf7=>hJ _ _ hlt ⟨h7,frb (frp hf5 hp6) hf7,hf7.blk (hp6.blk hb5) (by omega),hf7.blk (hp6.blk hc5) (by omega)⟩⟩
    refine⟨_,h5.at_,(is_c h5 (p+k) 1).mono ?_⟩
    rintro e w6 ⟨rfl,hp6⟩
    have h6:=h5.pu hp6
    refine⟨_,rfl,Br.of (λq1=>nxt hp6 ?_) (λq1=>⟨_,h6.at_,(is_c h6 (p+k) 2).mono ?_⟩)⟩
    · rw[clsAt_let]at q1
      apply dtrue
      rw[←htest]
      cases hg:d[p+k]? with
      | none=>rw[hg]at q1;cases q1
      | some y=>rw[hg]at q1;show f y=true;rw[hf];have q1:letB y=true:=q1;simp[q1]
    · rintro e w7 ⟨rfl,hp7⟩
      have h7:=h6.pu hp7
      have hp67:=hp6.trans hp7
      refine⟨_,rfl,Br.of (λq2=>nxt hp67 ?_) (λq2=>?_)⟩
      · rw[clsAt_dig]at q2
        apply dtrue
        rw[←htest]
        cases hg:d[p+k]? with
        | none=>rw[hg]at q2;cases q2
        | some y=>rw[hg]at q2;show f y=true;rw[hf];have q2:digB y=true:=q2;simp[q2]
      · have hkt:k=t.length:=by
          have:¬k<t.length:=by
            apply dfalse
            rw[←htest]
            rw[clsAt_let]at q1
            rw[clsAt_dig]at q2
            cases hg:d[p+k]? with
            | none=>rfl
            | some y=>rw[hg]at q1 q2;show f y=false;rw[hf];have q1:letB y=false:=q1;have q2:digB y=false:=q2;simp[q1,q2]
          omega
        subst hkt
        refine dwE_intro λw8 hp8 _=>?_
        have h8:=h7.pu hp8
        have hb8:=(hp67.trans hp8).blk hb5
        have hc8:=(hp67.trans hp8).blk hc5
        have hf8:=frp hf5 (hp67.trans hp8)
        refine⟨_,h8.s,_,h8.at_,by omega,by rw[toNat_i,bs_size];omega,by omega,by rw[toNat_i,toNat_i];omega,?_⟩
        rw[toNat_i,toNat_i,ht,ext_tw f d p hle,←ht]
        rw[ptrE_some]
        refine(upper_c (hL.pu h8.since) t (by omega)).mono ?_
        rintro e w9 ⟨rfl,hp9⟩
        have hup:Lib.toUpperD t=t.map capU:=upD_low λy hy=>by
          have:(t.all f)=true:=by rw[ht];exact List.all_takeWhile
          have:=List.all_eq_true.1 this y hy
          rw[hf]at this
          exact letdig_low this
        rw[hup]
        have h9:=h8.pu hp9
        have hb9:=hp9.blk hb8
        have hc9:=hp9.blk hc8
        have hf9:=frp hf8 hp9
        refine⟨_,rfl,?_⟩
        refine st1_intro hc9 (by simp) λw10 hw10 hb10=>?_
        have hg10:Fr (·=r5) w9 w10:=by rw[hw10];exact Fr.setCell w9 ⟨r5,0,none⟩ _
        rw[ptrE_some,add_def]
        refine st1_intro hb10 (by simp) λw11 hw11 hb11=>?_
        have hg11:Fr (·=r5) w10 w11:=by rw[hw11];exact Fr.setCell w10 ⟨r5,0+2,none⟩ _
        have hc11:TokB w11 r5 ⟨0,(p:Int),bs (t.map capU)⟩:=hb11
        have hb11:=hg11.blk (hg10.blk hb9 (by omega)) (by omega)
        have h11:=(h9.fr hg10 (by omega) (λi hi=>by rw[show i=_ from hi];omega)).fr hg11 (by omega) (λi hi=>by rw[show i=_ from hi];omega)
        have hf11:Fr (·=b) w w11:=(hf9.trans hg10 λi hi hlt=>by rw[show i=_ from hi]at hlt;omega).trans hg11 λi hi hlt=>by rw[show i=_ from hi]at hlt;omega
        refine dwE_intro λw12 hp12 _=>?_
        have h12:=h11.pu hp12
        have hb12:=hp12.blk hb11
        have hc12:=hp12.blk hc11
        have hf12:=frp hf11 hp12
        refine⟨λw'=>TokB w' r5 ⟨0,(p:Int),bs (t.map capU)⟩,hc12,_,λw' h'=>cl h' 0,_,λw' h'=>cl h' 1,_,λw' h'=>cl h' 2,_,λw' h'=>cl h' 0,_,λw' h'=>cl h' 1,_,λw' h'=>cl h' 2,(short_c h12 ⟨0,(p:Int),bs (t.map capU)⟩ 24).mono ?_⟩
        rintro e w13 ⟨hf13,hres⟩
        have hc13:=hf13.blk hc12 (by omega)
        have hb13:=hf13.blk hb12 (by omega)
        have hsz:(bs (t.map capU)).size=t.length:=by rw[bs_size,List.length_map]
        dsimp only at hres hR
        rw[hsz]at hres
        by_cases hbig:24<t.length
        · rw[if_pos hbig]at hres hR
          obtain⟨rfl,h13⟩:=hres
          refine⟨_,rfl,hc13,?_⟩
          exact outB (w:=w) (t5:=⟨0,(p:Int),bs (t.map capU)⟩) (by omega) (by omega) (by omega) h13 (frb hf12 hf13) hb13 λw14 h14 hf14=>hR _ _ ⟨hf14,_,_,rfl,h14⟩
        · rw[if_neg hbig]at hres hR
          obtain⟨rfl,h13⟩:=hres
          refine⟨_,rfl,hc13,?_⟩
          exact outB (w:=w) (t5:=⟨0,(p:Int),bs (t.map capU)⟩) (by omega) (by omega) (by omega) h13 (frb hf12 hf13) hb13 λw14 h14 hf14=>hR _ _ ⟨hf14,rfl,by rw[show p+1+(t.length - 1)=p+t.length by omega];exact h14⟩
  refine(is_c h4 p 2).mono ?_
  rintro e w5 ⟨rfl,hp5⟩
  have h5:=h4.pu hp5
  have hb1:=hp5.blk hb1
  have hb3:=hp5.blk hb3
  have hP5:=hP4.trans hp5
  have ed:clsAt d p 2=digB x:=by rw[clsAt_dig,hgx]
  rw[ed]
  refine⟨_,rfl,Br.of (λqd=>?_) (λqd=>?_)⟩
  · -- a number
    have hts:tokS x r=(let t:=(x :: r).takeWhile digB;if 15<t.length then .bad 0 else .tok 1 t (t.length - 1)):=by unfold tokS;rw[if_neg (by rw[ql];simp),if_pos qd]
    obtain⟨t,ht⟩:∃t,t=(d.drop p).takeWhile digB:=⟨_,rfl⟩
    have htl:1<=t.length:=by rw[ht,hd];exact tw_pos qd
    have htle:p+t.length<=d.length:=by rw[ht];exact tw_drop_le digB d p hle
    rw[hts,←hd,←ht]at hR
    refine loopUp t.length (λk _ w'=>Sc w0 w' b d (p+k) l g bad/\Fr (·=b) w w'/\TokB w' r2 zeroT/\TokB w' r5 ⟨0,(p:Int),⟨#[]⟩⟩) ⟨h5,Fr.pu hP5,hb1,hb3⟩ ?_
    rintro k J _ w6 hk ⟨h6,hf6,hb6,hc6⟩ hJ
    have htest:=head_test (f:=digB) (d:=d) (p:=p) (k:=k) (by rw[←ht];exact hk)
    rw[←ht]at htest
    refine⟨_,h6.at_,(is_c h6 (p+k) 2).mono ?_⟩
    rintro e w7 ⟨rfl,hp7⟩
    have h7:=h6.pu hp7
    rw[clsAt_dig,htest]
    refine⟨_,rfl,Br.of (λq1=>?_) (λq1=>?_)⟩
    · have q1:=dtrue q1
      exact⟨_,h7.at_,h7.st_at (p':=p+(k+1)) (by omega) (by rw[wrap_in (by omega) (by omega)];omega) λw8 h8 hf8=>hJ _ _ q1 ⟨h8,frb (frp hf6 hp7) hf8,hf8.blk (hp7.blk hb6) (by omega),hf8.blk (hp7.blk hc6) (by omega)⟩⟩
    · have q1:=dfalse q1
      obtain rfl:k=t.length:=by omega
      refine dwE_intro λw8 hp8 _=>?_
      have h8:=h7.pu hp8
      have hb8:=(hp7.trans hp8).blk hb6
      have hc8:=(hp7.trans hp8).blk hc6
      have hf8:=frp hf6 (hp7.trans hp8)
      refine⟨λw'=>Sc w0 w' b d (p+t.length) l g bad,h8,_,λw' h'=>h'.s,_,λw' h'=>h'.at_,by omega,by rw[toNat_i,bs_size];omega,by omega,by rw[toNat_i,toNat_i];omega,?_⟩
      rw[toNat_i,toNat_i,ht,ext_tw digB d p hle,←ht,ptrE_some]
      refine st1_intro hc8 (by simp) λw10 hw10 hb10=>?_
      have hg10:Fr (·=r5) w8 w10:=by rw[hw10];exact Fr.setCell w8 ⟨r5,0,none⟩ _
      have h10:=h8.fr hg10 (by omega) (λi hi=>by rw[show i=_ from hi];omega)
      refine⟨h10,?_⟩
      rw[ptrE_some,add_def]
      refine st1_intro hb10 (by simp) λw11 hw11 hb11=>?_
      have hg11:Fr (·=r5) w10 w11:=by rw[hw11];exact Fr.setCell w10 ⟨r5,0+2,none⟩ _
      have hc11:TokB w11 r5 ⟨1,(p:Int),bs t⟩:=hb11
      have hb11:=hg11.blk (hg10.blk hb8 (by omega)) (by omega)
      have h11:=h10.fr hg11 (by omega) (λi hi=>by rw[show i=_ from hi];omega)
      have hf11:Fr (·=b) w w11:=(hf8.trans hg10 λi hi hlt=>by rw[show i=_ from hi]at hlt;omega).trans hg11 λi hi hlt=>by rw[show i=_ from hi]at hlt;omega
      refine dwE_intro λw12 hp12 _=>?_
      have h12:=h11.pu hp12
      have hb12:=hp12.blk hb11
      have hc12:=hp12.blk hc11
      have hf12:=frp hf11 hp12
      refine⟨λw'=>TokB w' r5 ⟨1,(p:Int),bs t⟩,hc12,_,λw' h'=>cl h' 0,_,λw' h'=>cl h' 1,_,λw' h'=>cl h' 2,_,λw' h'=>cl h' 0,_,λw' h'=>cl h' 1,_,λw' h'=>cl h' 2,(short_c h12 ⟨1,(p:Int),bs t⟩ 15).mono ?_⟩
      rintro e w13 ⟨hf13,hres⟩
      have hc13:=hf13.blk hc12 (by omega)
      have hb13:=hf13.blk hb12 (by omega)
      have hsz:(bs t).size=t.length:=bs_size t
      dsimp only at hres hR
      rw[hsz]at hres
      by_cases hbig:15<t.length
      · rw[if_pos hbig]at hres hR
        obtain⟨rfl,h13⟩:=hres
        refine⟨_,rfl,hc13,?_⟩
        exact outB (w:=w) (t5:=⟨1,(p:Int),bs t⟩) (by omega) (by omega) (by omega) h13 (frb hf12 hf13) hb13 λw14 h14 hf14=>hR _ _ ⟨hf14,_,_,rfl,h14⟩
      · rw[if_neg hbig]at hres hR
        obtain⟨rfl,h13⟩:=hres
        refine⟨_,rfl,hc13,?_⟩
        exact outB (w:=w) (t5:=⟨1,(p:Int),bs t⟩) (by omega) (by omega) (by omega) h13 (frb hf12 hf13) hb13 λw14 h14 hf14=>hR _ _ ⟨hf14,rfl,by rw[show p+1+(t.length - 1)=p+t.length by omega];exact h14⟩
  · -- a text, a date, a sign
    have hnl:¬letB x=true:=by rw[ql];simp
    have hnd:¬digB x=true:=by rw[qd];simp
    have quoted:x.toNat=34∨x.toNat=39->∃n108_0:Int,w5.cell? ((⟨r5,0,none⟩:Addr).add 0)=some (.int .i64 n108_0)/\∃n108_1:Int,w5.cell? ((⟨r5,0,none⟩:Addr).add 1)=some (.int .i64 n108_1)/\∃s108_2:ByteArray,w5.cell? ((⟨r5,0,none⟩:Addr).add 2)=some (.string s108_2)/\
        Calls Tryz.prog 190 #[.pointer (some ⟨b,0,none⟩),.agg #[.int .i64 n108_0,.int .i64 n108_1,.string s108_2]] w5 λe w63=>
        ∃n109_0_0:Int,∃n109_0_1:Int,∃s109_0_2:ByteArray,∃b109_1:Bool,e=.returned (.tuple #[.agg #[.int .i64 n109_0_0,.int .i64 n109_0_1,.string s109_0_2],.bool b109_1])/\
        stA Tryz.prog 30 (⟨r2,0,none⟩:Addr) #[.int .i64 n109_0_0,.int .i64 n109_0_1,.string s109_0_2] w63 λw'=>∃n0:Int,w'.cell? ((⟨r2,0,none⟩:Addr).add 0)=some (.int .i64 n0)/\∃n1:Int,w'.cell? ((⟨r2,0,none⟩:Addr).add 1)=some (.int .i64 n1)/\
      ∃s2:ByteArray,w'.cell? ((⟨r2,0,none⟩:Addr).add 2)=some (.string s2)/\R (.returned (.tuple #[.agg #[.int .i64 n0,.int .i64 n1,.string s2],.bool b109_1])) w':=λhq=>by
      refine⟨_,cl hb3 0,_,cl hb3 1,_,cl hb3 2,(text_c h5 hd (quote_nl hq) ⟨0,(p:Int),⟨#[]⟩⟩).mono ?_⟩
      rintro e w6 ⟨hf6,hres⟩
      have hb6:=hf6.blk hb1 (by omega)
      have hf6':=pfr hP5 hf6
      have hts:tokS x r=quoteS x r:=by unfold tokS;rw[if_neg hnl,if_neg hnd,if_pos hq]
      rw[hts]at hR
      cases hqs:quoteS x r with
      | go m=>rw[hqs]at hres;exact hres.elim
      | eol=>rw[hqs]at hres;exact hres.elim
      | tok k t m=>
        rw[hqs]at hres hR
        obtain⟨rfl,h6⟩:=hres
        refine⟨_,_,_,_,rfl,?_⟩
        exact outB (w:=w) (t5:=⟨k,(p:Int),bs t⟩) (by omega) (by omega) (by omega) h6 hf6' hb6 λw14 h14 hf14=>hR _ _ ⟨hf14,rfl,h14⟩
      | bad i=>
        rw[hqs]at hres hR
        obtain⟨⟨t,rfl⟩,h6⟩:=hres
        refine⟨_,_,_,_,rfl,?_⟩
        exact outB (w:=w) (t5:=t) (by omega) (by omega) (by omega) h6 hf6' hb6 λw14 h14 hf14=>hR _ _ ⟨hf14,_,_,rfl,h14⟩
    refine⟨_,h5.s,x,by omega,by rw[toNat_i];exact bs_get hgx,Br.of (λq1=>quoted (.inl (by have:=btrue q1;omega))) (λq1=>⟨_,h5.s,x,by omega,by rw[toNat_i];exact bs_get hgx,Br.of (λq2=>quoted (.inr (by have:=btrue q2;omega))) (λq2=>?_)⟩)⟩
    have hnq:¬(x.toNat=34∨x.toNat=39):=by have:=bfalse q1;have:=bfalse q2;omega
    have hts:tokS x r=match dateL (d.drop p)with
        | some (dd,n)=>.tok 3 dd (n - 1)
        | none=>match signS (d.drop p)with
          | some w=>.tok 4 w (w.length - 1)
          | none=>.bad 0:=by
      rw[hd];unfold tokS;rw[if_neg hnl,if_neg hnd,if_neg hnq]
      cases dateL (x :: r)with
      | none=>cases signS (x :: r) <;> rfl
      | some y=>obtain⟨_,_⟩:=y;rfl
    rw[hts]at hR
    refine(date_c h5).mono ?_
    rintro e w6 ⟨hp6,s,n,k,rfl,hdat⟩
    have h6:=h5.pu hp6
    have hb6:=hp6.blk hb1
    have hc6:=hp6.blk hb3
    have hP6:=hP5.trans hp6
    cases hdl:dateL (d.drop p)with
    | some pr=>
      obtain⟨y,m⟩:=pr
      rw[hdl]at hdat hR
      obtain⟨rfl,rfl,rfl⟩:=hdat
      have hm:1<=m/\p+m<=d.length:=by
        unfold dateL at hdl
        split at hdl
        · rename_i h2
          have hlen:=congrArg List.length h2
          rw[List.length_take,List.length_drop]at hlen
          have:m=2:=by simp at hdl;omega
          simp at hlen;omega
        · split at hdl
          · cases hdl
          · rename_i h2
            split at hdl
            · have:m=13:=by simp at hdl;omega
              rw[List.length_drop]at h2;omega
            · cases hdl
      refine⟨_,_,_,rfl,Br.t rfl ⟨_,h6.at_,?_⟩⟩
      refine h6.st_at (p':=p+m) (by omega) (by rw[wrap_in (by omega) (by omega)];omega) λw7 h7 hf7=>?_
      have hb7:=hf7.blk hb6 (by omega)
      exact outB (w:=w) (t5:=⟨3,(p:Int),bs y⟩) (by omega) (by omega) (by omega) h7 (pfr hP6 hf7) hb7 λw14 h14 hf14=>hR _ _ ⟨hf14,rfl,by rw[show p+1+(m - 1)=p+m by omega];exact h14⟩
    | none=>
      rw[hdl]at hdat hR
      subst hdat
      refine⟨_,_,_,rfl,Br.f rfl ⟨_,cl hc6 0,_,cl hc6 1,_,cl hc6 2,(sign_c hL h6 ⟨0,(p:Int),⟨#[]⟩⟩).mono ?_⟩⟩
      rintro e w7 ⟨hf7,hres⟩
      have hb7:=hf7.blk hb6 (by omega)
      cases hsg:signS (d.drop p)with
      | some y=>
        rw[hsg]at hres hR
        obtain⟨rfl,h7,hyl⟩:=hres
        have hyl2:1<=y.length:=by
          unfold signS at hsg
          exact(signs_len y (List.mem_of_find?_eq_some hsg)).1
        refine⟨_,_,_,_,rfl,?_⟩
        exact outB (w:=w) (t5:=⟨4,(p:Int),bs y⟩) (by omega) (by omega) (by omega) h7 (pfr hP6 hf7) hb7 λw14 h14 hf14=>hR _ _ ⟨hf14,rfl,by rw[show p+1+(y.length - 1)=p+y.length by omega];exact h14⟩
      | none=>
        rw[hsg]at hres hR
        obtain⟨⟨t,rfl⟩,h7⟩:=hres
        refine⟨_,_,_,_,rfl,?_⟩
        exact outB (w:=w) (t5:=t) (by omega) (by omega) (by omega) h7 (pfr hP6 hf7) hb7 λw14 h14 hf14=>hR _ _ ⟨hf14,_,_,rfl,h14⟩
end Go.Proofs.YtjbfehippchniaaGreatDoor

/- Lex: the next token, as the scanner takes it, is the next one of those that the source has. The signs: what the library's tables of letters and of bytes lay. -/
set_option maxRecDepth 100000
set_option linter.unusedVariables false
set_option linter.unusedSimpArgs false
namespace Go.Proofs.YtjbfehippchniaaGreatDoor
open Go.Sh Go.Sh.Lx Go.RowKit
variable {w0 w w' : World} {b p : Nat} {d : List UInt8} {l g : Bool} {bad : Int}
theorem step_blk{x:UInt8}(h:blkB x=true)(r:List UInt8)(line:Bool):stepS x r line=.go 0:=by
  unfold stepS;rw[if_neg (by rw[(blk_isB h).2];simp),if_pos h]
theorem lexS_blk:∀(r:List UInt8) (p:Nat) (line:Bool),lexS r p line=lexS (r.drop (blkN r)) (p+blkN r) line
  | [],p,line=>rfl
  | x :: r,p,line=>by
    by_cases h:blkB x=true
    · have e1:blkN (x :: r)=blkN r+1:=by unfold blkN;rw[List.takeWhile_cons,if_pos h];rfl
      rw[lexS_go (step_blk h r line),List.drop_zero,lexS_blk r,e1,List.drop_succ_cons]
      congr 1;omega
    · have e1:blkN (x :: r)=0:=by unfold blkN;rw[List.takeWhile_cons,if_neg h];rfl
      rw[e1];rfl
theorem step_eol{x:UInt8}(h:nlB x=true)(r:List UInt8)(line:Bool):stepS x r line=.eol:=by unfold stepS;rw[if_pos h]
theorem step_com {x:UInt8} {r:List UInt8} {line:Bool} (h1:nlB x=false) (h2:blkB x=false) (h3:(ampB (x :: r) || (decide (x.toNat=42) && !line))=true):stepS x r line=match badAt (lineOf (x :: r))with
    | some i=>.bad i
    | none=>.go ((lineOf (x :: r)).length - 1):=by
  unfold stepS;rw[if_neg (by rw[h1];simp),if_neg (by rw[h2];simp),if_pos h3]
  cases badAt (lineOf (x :: r)) <;> rfl
theorem step_semi {x:UInt8} {r:List UInt8} {line:Bool} (h1:nlB x=false) (h2:blkB x=false) (h3:(ampB (x :: r) || (decide (x.toNat=42) && !line))=false) (h4:(decide (x.toNat=59) && goesB r)=true):stepS x r line=match badAt (lineOf r)with
    | some i=>.bad (i+1)
    | none=>.go (goN r):=by
  unfold stepS;rw[if_neg (by rw[h1];simp),if_neg (by rw[h2];simp),if_neg (by rw[h3];simp),if_pos h4]
  cases badAt (lineOf r) <;> rfl
theorem step_tok {x:UInt8} {r:List UInt8} {line:Bool} (h1:nlB x=false) (h2:blkB x=false) (h3:(ampB (x :: r) || (decide (x.toNat=42) && !line))=false) (h4:(decide (x.toNat=59) && goesB r)=false):stepS x r line=tokS x r:=by
  unfold stepS;rw[if_neg (by rw[h1];simp),if_neg (by rw[h2];simp),if_neg (by rw[h3];simp),if_neg (by rw[h4];simp)]
theorem tok_semi{x:UInt8}(h:x.toNat=59)(r:List UInt8):tokS x r=.bad 0:=by
  have e:x=59:=UInt8.toNat_inj.1 h
  subst e
  have h1:dateL (59 :: r)=none:=by
    unfold dateL
    rw[if_neg,if_pos]
    · exact .inr (.inl (by intro h;cases r <;> simp at h))
    · intro h;cases r <;> simp at h
  have h2:signS (59 :: r)=none:=by
    unfold signS
    rw[List.find?_eq_none]
    intro w hw
    have hall:∀w ∈ signsS,w.head? ≠ none/\w.head? ≠ some (capU 59):=by decide
    have h3:=hall w hw
    cases w with
    | nil=>exact absurd rfl h3.1
    | cons c t=>
      simp only[List.length_cons,List.take_succ_cons,List.map_cons,decide_eq_true_eq,List.cons.injEq,not_and]
      intro h9;exact absurd (by rw[h9];rfl) h3.2
  unfold tokS
  rw[if_neg (by decide),if_neg (by decide),if_neg (by decide),h1,h2]
def badI:Option Nat->Int
  | none=>-1
  | some i=>(i:Int)
def Nxt(w0 w:World)(b:Nat)(d:List UInt8)(p:Nat)(l:Bool)(e:Ending)(w':World):Prop:=
  ∃p' l' bad',Sc w0 w' b d p' l' l' bad'/\Fr (·=b) w w'/\
    ((∃t,e=retE t true/\bad'=-1/\lexS (d.drop p) p l=(t :: (lexS (d.drop p') p' l').1,(lexS (d.drop p') p' l').2)) ∨
     (∃t,e=retE t false/\(lexS (d.drop p) p l).1=[]/\bad'=badI (lexS (d.drop p) p l).2))
section
variable {p2 : Nat} {R : Rt} {J : Unit -> World -> Prop} {w1 : World} {r2 : Nat}
structure Mid(w0 w:World)(b:Nat)(d:List UInt8)(p:Nat)(l:Bool)(r2:Nat)(w1:World)(p1:Nat)(l1:Bool):Prop where
  sc:Sc w0 w1 b d p1 l1 l1 (-1)
  fr:Fr (·=b) w w1
  tok:TokB w1 r2 zeroT
  same:lexS (d.drop p) p l=lexS (d.drop p1) p1 l1
  old:w.heap.size<=r2
  base:w0.heap.size<=w.heap.size
  ne:b ≠ r2
theorem Mid.pu{p1:Nat}{l1:Bool}(h:Mid w0 w b d p l r2 w1 p1 l1){w2:World}(hp:Pu w1 w2):Mid w0 w b d p l r2 w2 p1 l1:=
  ⟨h.sc.pu hp,frp h.fr hp,hp.blk h.tok,h.same,h.old,h.base,h.ne⟩
theorem Mid.step {p1 p3:Nat} {l1 l3:Bool} (h:Mid w0 w b d p l r2 w1 p1 l1) {w2:World} (hs:Sc w0 w2 b d p3 l3 l3 (-1)) (hf:Fr (·=b) w1 w2) (he:lexS (d.drop p1) p1 l1=lexS (d.drop p3) p3 l3):Mid w0 w b d p l r2 w2 p3 l3:=
  ⟨hs,frb h.fr hf,hf.blk h.tok (λe=>h.ne e.symm),h.same.trans he,h.old,h.base,h.ne⟩
theorem Mid.stop {p1 p3:Nat} {l1 l3:Bool} {bad:Int} (h:Mid w0 w b d p l r2 w1 p1 l1) {w2:World} (hs:Sc w0 w2 b d p3 l3 l3 bad) (hf:Fr (·=b) w1 w2) (he:(lexS (d.drop p1) p1 l1).1=[]) (hb:bad=badI (lexS (d.drop p1) p1 l1).2)
    (hR:∀e w',Nxt w0 w b d p l e w'->R e w') (t5:Tok):stA Tryz.prog 30 (⟨r2,0,none⟩:Addr) #[.int .i64 t5.kind,.int .i64 t5.at_,.string t5.text] w2 λw'=>∃n0:Int,w'.cell? ((⟨r2,0,none⟩:Addr).add 0)=some (.int .i64 n0)/\∃n1:Int,w'.cell? ((⟨r2,0,none⟩:Addr).add 1)=some (.int .i64 n1)/\
      ∃s2:ByteArray,w'.cell? ((⟨r2,0,none⟩:Addr).add 2)=some (.string s2)/\R (.returned (.tuple #[.agg #[.int .i64 n0,.int .i64 n1,.string s2],.bool false])) w':=
  outB (w:=w) (Nat.le_trans h.base h.old) h.old h.ne hs (frb h.fr hf) (hf.blk h.tok λe=>h.ne e.symm) λw8 h8 hf8=>hR _ _ ⟨_,_,_,h8,hf8,.inr ⟨_,rfl,by rw[h.same];exact he,by rw[h.same];exact hb⟩⟩
theorem com_c {x:UInt8} {r:List UInt8} {p1:Nat} {l1:Bool} (h:Mid w0 w b d p l r2 w1 p1 l1) (hd:d.drop p1=x :: r) (h1:nlB x=false) (h2:blkB x=false) (h3:(ampB (x :: r) || (decide (x.toNat=42) && !l1))=true)
    (hR:∀e w',Nxt w0 w b d p l e w'->R e w') (hJ:∀p3 l3 w2,p1<p3->Mid w0 w b d p l r2 w2 p3 l3->J () w2):nxCom R J (some ⟨b,0,none⟩) (some ⟨r2,0,none⟩) [] w1:=by
  have hst:=step_com h1 h2 h3
  have hln:1<=lnN (x :: r):=by unfold lnN lineOf;rw[List.takeWhile_cons,h1];simp
  refine(comment_c h.sc).mono ?_
  rintro e w2 ⟨hf,hres⟩
  rw[hd]at hres
  cases hb:badAt (lineOf (x :: r))with
  | some i=>
    rw[hb]at hres hst
    obtain⟨rfl,hs⟩:=hres
    have hL:=lexS_bad hst p1
    refine⟨_,rfl,Br.t rfl (h.stop hs hf (by rw[hd,hL]) (by rw[hd,hL];rfl) hR zeroT)⟩
  | none=>
    rw[hb]at hres hst
    obtain⟨rfl,hs⟩:=hres
    have hL:=lexS_go hst p1
    have hln2:(lineOf (x :: r)).length=lnN (x :: r):=rfl
    rw[hln2]at hL
    refine⟨_,rfl,Br.f rfl (hJ _ _ _ (by omega) (h.step hs hf ?_))⟩
    have e:r.drop (lnN (x :: r) - 1)=(x :: r).drop (lnN (x :: r)):=by
      obtain⟨m,hm⟩:∃m,lnN (x :: r)=m+1:=⟨lnN (x :: r) - 1,by omega⟩
      rw[hm];rfl
    rw[←List.drop_drop,hd,hL,e]
    congr 1;omega
theorem semi_c (hL:Laid w0) {x:UInt8} {r:List UInt8} {p1:Nat} {l1:Bool} (h:Mid w0 w b d p l r2 w1 p1 l1) (hd:d.drop p1=x :: r) (h1:nlB x=false) (h2:blkB x=false) (h3:(ampB (x :: r) || (decide (x.toNat=42) && !l1))=false)
    (hR:∀e w',Nxt w0 w b d p l e w'->R e w') (hJ:∀p3 l3 w2,p1<p3->Mid w0 w b d p l r2 w2 p3 l3->J () w2):nxSemi R J (some ⟨b,0,none⟩) (some ⟨r2,0,none⟩) [] w1:=by
  have hlim:=h.sc.lim
  have hle:=h.sc.le
  have hgx:d[p1]?=some x:=by have:=congrArg (·[0]?) hd;simpa[get_drop] using this
  have hr:d.drop (p1+1)=r:=by rw[←List.drop_drop,hd];rfl
  refine⟨_,h.sc.s,_,h.sc.at_,x,by omega,by rw[toNat_i];exact bs_get hgx,Br.of (λq=>?_) (λq=>?_)⟩
  · have hx:x.toNat=59:=by have:=btrue q;omega
    refine(continues_c h.sc hd).mono ?_
    rintro e w2 ⟨hf,hres⟩
    by_cases hg:goesB r=false
    · rw[if_pos hg]at hres
      obtain⟨rfl,hs⟩:=hres
      have hst:=step_tok (line:=l1) h1 h2 h3 (by rw[hg];simp)
      rw[tok_semi hx]at hst
      have hLx:=lexS_bad hst p1
      refine⟨_,_,rfl,Br.t rfl ⟨_,hs.at_,hs.st_bd λw3 hs3 hf3=>Br.t rfl (h.stop hs3 (frb hf hf3) (by rw[hd,hLx]) (by rw[hd,hLx];rfl) hR zeroT)⟩⟩
    · rw[if_neg hg]at hres
      have hg:goesB r=true:=by simpa using hg
      have hst:=step_semi (line:=l1) h1 h2 h3 (by rw[hg];simp[hx])
      cases hb:badAt (lineOf r)with
      | some i=>
        rw[hb]at hres hst
        obtain⟨p3,rfl,hs⟩:=hres
        have hLx:=lexS_bad hst p1
        refine⟨_,_,rfl,Br.f rfl (Br.f rfl (Br.t rfl (h.stop hs hf (by rw[hd,hLx]) (by rw[hd,hLx];show((p1+1+i:Nat):Int)=((p1+(i+1):Nat):Int);omega) hR zeroT)))⟩
      | none=>
        rw[hb]at hres hst
        obtain⟨rfl,hs⟩:=hres
        have hLx:=lexS_go hst p1
        refine⟨_,_,rfl,Br.f rfl (Br.f rfl (Br.f rfl (hJ _ _ _ (by omega) (h.step hs hf ?_))))⟩
        rw[hd,hLx,←hr,List.drop_drop]
  · have hx:¬x.toNat=59:=by have:=bfalse q;omega
    have hst:=step_tok (line:=l1) h1 h2 h3 (by simp[hx])
    refine h.sc.st_ln λw2 hs2 hf2=>hs2.st_bg λw3 hs3 hf3=>(token_c hL hs3 hd).mono ?_
    rintro e w4 ⟨hf4,hres⟩
    have hf:=frb (frb hf2 hf3) hf4
    cases ht:tokS x r with
    | go m=>rw[ht]at hres;exact hres.elim
    | eol=>rw[ht]at hres;exact hres.elim
    | tok k t m=>
      rw[ht]at hres hst
      obtain⟨rfl,hs4⟩:=hres
      have hLx:=lexS_tok hst p1
      refine⟨_,_,_,_,rfl,?_⟩
      refine outB (w:=w) (t5:=⟨k,(p1:Int),bs t⟩) (Nat.le_trans h.base h.old) h.old h.ne hs4 (frb h.fr hf) (hf.blk h.tok λe=>h.ne e.symm) λw8 h8 hf8=>hR _ _ ⟨_,_,_,h8,hf8,.inl ⟨_,rfl,rfl,?_⟩⟩
      rw[h.same,hd,hLx,←hr,List.drop_drop]
    | bad i=>
      rw[ht]at hres hst
      obtain⟨t,p3,rfl,hs4⟩:=hres
      have hLx:=lexS_bad hst p1
      refine⟨_,_,_,_,rfl,?_⟩
      exact h.stop hs4 hf (by rw[hd,hLx]) (by rw[hd,hLx];rfl) hR t
theorem next_c (hL:Laid w0) (h:Sc w0 w b d p l l (-1)):Calls Tryz.prog 150 #[.pointer (some ⟨b,0,none⟩)] w (Nxt w0 w b d p l):=by
  have hlim:=h.lim
  have hbl:=blk_lt h.blk
  have hsi:=h.since.size
  refine calls_by (F150_calls _ w) λR hR=>alB λw1 hp1 hb1=>?_
  have hr1:=blk_lt hb1
  have h0:Mid w0 w b d p l w.heap.size w1 p l:=⟨h.pu hp1,Fr.pu hp1,hb1,rfl,Nat.le_refl _,hsi,by omega⟩
  refine loopDown (d.length+1 - p) (λn _ w'=>∃p1 l1,n+p1=d.length+1/\Mid w0 w b d p l w.heap.size w' p1 l1) ⟨p,l,by have:=h.le;omega,h0⟩ ?_
  rintro n J _ w2 ⟨p1,l1,hn,hm⟩ hJ
  have hJ:∀p3 l3 w3,p1<p3->Mid w0 w b d p l w.heap.size w3 p3 l3->J () w3:=λp3 l3 w3 hlt hm3=>hJ (d.length+1 - p3) _ _ (by have:=hm3.sc.le;omega) ⟨p3,l3,by have:=hm3.sc.le;omega,hm3⟩
  refine(skip_c hm.sc).mono ?_
  rintro e w3 ⟨rfl,hs3,hf3⟩
  obtain⟨p3,hp3⟩:∃p3,p3=p1+blkN (d.drop p1):=⟨_,rfl⟩
  rw[←hp3]at hs3
  have hm3:Mid w0 w b d p l w.heap.size w3 p3 l1:=hm.step hs3 hf3 (by rw[lexS_blk (d.drop p1),List.drop_drop,←hp3])
  have hle3:=hs3.le
  have hnb:∀x,d[p3]?=some x->blkB x=false:=λx hx=>tw_end (l:=d.drop p1) (by rw[get_drop];show d[p1+blkN (d.drop p1)]?=some x;rw[←hp3];exact hx)
  refine⟨rfl,dwE_intro λw4 hp4 _=>?_⟩
  have hm4:=hm3.pu hp4
  have hs4:=hm4.sc
  -- the end of a line or of the source
  have fin:(p3=d.length∨∃x,d[p3]?=some x/\nlB x=true)->F150_1 R J (some ⟨b,0,none⟩) (some ⟨w.heap.size,0,none⟩) true [] w4:=λhend=>by
    refine(end_c hs4).mono ?_
    rintro e w5 ⟨hf5,hres⟩
    have post:∀(k:Bool) (p5:Nat),e=retE (if l1 then endT p3 else zeroT) k->Sc w0 w5 b d p5 false false (-1)->(k=true->l1=true->lexS (d.drop p3) p3 l1=(endT p3 :: (lexS (d.drop p5) p5 false).1,(lexS (d.drop p5) p5 false).2))->(k=true->l1=false->lexS (d.drop p3) p3 l1=([],none))->
        (k=false->p1<p5/\lexS (d.drop p3) p3 l1=lexS (d.drop p5) p5 false)->
        ∃n45_0_0:Int,∃n45_0_1:Int,∃s45_0_2:ByteArray,∃b45_1:Bool,e=.returned (.tuple #[.agg #[.int .i64 n45_0_0,.int .i64 n45_0_1,.string s45_0_2],.bool b45_1])/\
        alE (.cells #[.int .i64 0,.int .i64 0,.string (⟨#[]⟩:ByteArray)] 30) w5 λr4 w2=>
        stA Tryz.prog 30 (⟨r4,0,none⟩:Addr) #[.int .i64 n45_0_0,.int .i64 n45_0_1,.string s45_0_2] w2 λw3=>
        Br b45_1 (
        dwE w3 λw4=>
        ∃S1:World->Prop,S1 w4/\
        ∃n49_0:Int,(∀w',S1 w'->w'.cell? ((⟨r4,0,none⟩:Addr).add 0)=some (.int .i64 n49_0))/\
        ∃n49_1:Int,(∀w',S1 w'->w'.cell? ((⟨r4,0,none⟩:Addr).add 1)=some (.int .i64 n49_1))/\
        ∃s49_2:ByteArray,(∀w',S1 w'->w'.cell? ((⟨r4,0,none⟩:Addr).add 2)=some (.string s49_2))/\
        ∃n51:Int,(∀w',S1 w'->w'.cell? (⟨r4,0,none⟩:Addr)=some (.int .i64 n51))/\
        stA Tryz.prog 30 (⟨w.heap.size,0,none⟩:Addr) #[.int .i64 n49_0,.int .i64 n49_1,.string s49_2] w4 λw6=>
        S1 w6/\
        ∃nR0_0:Int,w6.cell? ((⟨w.heap.size,0,none⟩:Addr).add 0)=some (.int .i64 nR0_0)/\
        ∃nR0_1:Int,w6.cell? ((⟨w.heap.size,0,none⟩:Addr).add 1)=some (.int .i64 nR0_1)/\
        ∃sR0_2:ByteArray,w6.cell? ((⟨w.heap.size,0,none⟩:Addr).add 2)=some (.string sR0_2)/\
        R (.returned (.tuple #[.agg #[.int .i64 nR0_0,.int .i64 nR0_1,.string sR0_2],.bool (n51 == 5)])) w6) (
        J () w3):=λk p5 he h5 hk1 hk0 hkf=>by
      subst he
      obtain⟨t,ht⟩:∃t,t=(if l1 then endT p3 else zeroT):=⟨_,rfl⟩
      rw[←ht]
      have hz5:=blk_lt (hf5.blk hm4.tok (λe=>hm4.ne e.symm))
      have hb5:=blk_lt h5.blk
      refine⟨_,_,_,_,rfl,alB λw6 hp6 hb6=>stA_fill hb6 s49.symm rfl rfl λw7 hb7 hf7 _=>?_⟩
      have hs6:=hp6.size
      have ht5:=hf5.blk hm4.tok (λe=>hm4.ne e.symm)
      have ht7:=hf7.blk (hp6.blk ht5) (by omega)
      have hP7:Pu w5 w7:=Pu.andNew hp6 hf7 (λi hi=>by rw[show i=_ from hi];omega)
      have h7:=h5.pu hP7
      have hb7:TokB w7 w5.heap.size t:=hb7
      refine Br.of (λq=>dwE_intro λw8 hp8 _=>?_) (λq=>?_)
      · have h8:=h7.pu hp8
        have ht8:=hp8.blk ht7
        have hb8:TokB w8 w5.heap.size t:=hp8.blk hb7
        have hz8:=blk_lt hb8
        refine⟨λw'=>TokB w' w5.heap.size t,hb8,_,λw' h'=>cl h' 0,_,λw' h'=>cl h' 1,_,λw' h'=>cl h' 2,t.kind,λw' h'=>cl0 h',?_⟩
        refine stA_fill ht8 s49.symm rfl rfl λw9 hb9 hf9 _=>⟨hf9.blk hb8 (by omega),_,cl hb9 0,_,cl hb9 1,_,cl hb9 2,?_⟩
        have h9:=h8.fr hf9 hm4.ne (λi hi=>by rw[show i=_ from hi];exact hsi)
        have hfr:Fr (·=b) w w9:=(frp (frb hm4.fr hf5) (hP7.trans hp8)).trans hf9 λi hi hlt=>by rw[show i=_ from hi]at hlt;omega
        cases hl1:l1 with
        | true=>
          have et:t=endT p3:=by rw[ht,hl1];rfl
          subst et
          exact hR _ _ ⟨_,_,_,h9,hfr,.inl ⟨endT p3,rfl,rfl,by rw[hm4.same];exact hk1 q hl1⟩⟩
        | false=>
          have et:t=zeroT:=by rw[ht,hl1];rfl
          subst et
          exact hR _ _ ⟨_,_,_,h9,hfr,.inr ⟨zeroT,rfl,by rw[hm4.same,hk0 q hl1],by rw[hm4.same,hk0 q hl1];rfl⟩⟩
      · obtain⟨hlt,hsame⟩:=hkf q
        exact hJ _ _ _ hlt (hm4.step h7 (frp hf5 hP7) hsame)
    by_cases hpe:p3=d.length
    · rw[if_pos hpe]at hres
      obtain⟨he,h5⟩:=hres
      have hnil:d.drop p3=[]:=List.drop_eq_nil_of_le (by omega)
      exact post true p3 he h5 (λ_ hl=>by rw[hnil,lexS_nil,lexS_nil,hl];rfl) (λ_ hl=>by rw[hnil,lexS_nil,hl];rfl) (λh9=>by cases h9)
    · rw[if_neg hpe]at hres
      obtain⟨he,h5⟩:=hres
      obtain⟨x,hx,hnl⟩:=hend.resolve_left hpe
      have hd3:d.drop p3=x :: d.drop (p3+1):=drop_at hx
      have hLx:=lexS_eol (step_eol hnl (d.drop (p3+1)) l1) p3
      refine post l1 (p3+1) he h5 (λhk hl=>by rw[hd3,hLx,hl];rfl) (λhk hl=>by rw[hk]at hl;cases hl) (λhk=>⟨by omega,by rw[hd3,hLx,hk];rfl⟩)
  -- what is behind the comment's star
  have pre:∀{x:UInt8} {r:List UInt8} {w5:World},Pu w4 w5->d.drop p3=x :: r->nlB x=false->blkB x=false->(decide (x.toNat=42) && !l1)=false->nxPre R J (some ⟨b,0,none⟩) (some ⟨w.heap.size,0,none⟩) [] w5:=λ{x r w5} hp5 hd3 h1 h2 h3=>dwE_intro λw6 hp6 _=>by
    have hm6:=(hm4.pu hp5).pu hp6
    refine⟨_,hm6.sc.s,_,hm6.sc.at_,Nat.le_refl _,by omega,by rw[toNat_i,bs_size];exact hle3,?_⟩
    rw[toNat_i,extract_drop,hd3]
    refine(amp_c _ w6).mono ?_
    rintro e w7 ⟨rfl,rfl⟩
    refine⟨_,rfl,Br.of (λq=>com_c hm6 hd3 h1 h2 (by rw[q];rfl) hR λp5 l5 w8 hlt=>hJ p5 l5 w8 (by omega)) (λq=>dwE_intro λw8 hp8 _=>semi_c hL (hm6.pu hp8) hd3 h1 h2 (by rw[q,h3];rfl) hR λp5 l5 w8 hlt=>hJ p5 l5 w8 (by omega))⟩
  have rest:∀{x:UInt8},d[p3]?=some x->nlB x=false->F150_1 R J (some ⟨b,0,none⟩) (some ⟨w.heap.size,0,none⟩) false [] w4:=λ{x} hx h1=>by
    have hd3:d.drop p3=x :: d.drop (p3+1):=drop_at hx
    have h2:=hnb x hx
    refine Br.f rfl (dwE_intro λw5 hp5 _=>?_)
    have hm5:=hm4.pu hp5
    refine⟨_,hm5.sc.s,_,hm5.sc.at_,x,by omega,by rw[toNat_i];exact bs_get hx,Br.of (λq=>?_) (λq=>?_)⟩
    · have hx42:x.toNat=42:=by have:=btrue q;omega
      refine⟨_,hm5.sc.bg,Br.of (λq1=>Br.t q1 ?_) (λq1=>pre hp5 hd3 h1 h2 (by rw[q1];simp))⟩
      exact com_c hm5 hd3 h1 h2 (by rw[q1];simp[hx42]) hR λp5 l5 w8 hlt=>hJ p5 l5 w8 (by omega)
    · have hx42:¬x.toNat=42:=by have:=bfalse q;omega
      exact pre hp5 hd3 h1 h2 (by simp[hx42])
  refine⟨_,hs4.at_,_,hs4.s,Br.of (λq=>fin (.inl (by have:=btrue q;rw[bs_size_i]at this;omega))) (λq=>?_)⟩
  have q:=bfalse q
  rw[bs_size_i]at q
  obtain⟨x,hx⟩:=at_k (l:=d) (k:=p3) (by omega)
  refine⟨_,hs4.s,_,hs4.at_,x,by omega,by rw[toNat_i];exact bs_get hx,?_⟩
  have e10:(((x.toNat:Nat):Int) == 10)=nlB x:=by rw[beq_dec];unfold nlB;exact dec_eq (by omega)
  rw[e10]
  cases hnl:nlB x with
  | true=>exact fin (.inr ⟨x,hx,hnl⟩)
  | false=>exact rest hx hnl
end
end Go.Proofs.YtjbfehippchniaaGreatDoor

/- Lex: the iterator over the scanner's tokens, and what collects them. The signs: what the library's tables of letters and of bytes lay. -/
set_option maxRecDepth 100000
set_option linter.unusedVariables false
set_option linter.unusedSimpArgs false
namespace Go.Proofs.YtjbfehippchniaaGreatDoor
open Go.Sh Go.Sh.Lx Go.RowKit Go.Shelf
attribute [local go_sem] Oper.semAt_some
def leftN(d:List UInt8)(b:Nat)(wr:World):Nat:=match wr.cell? ((⟨b,0,none⟩:Addr).add 1),wr.cell? ((⟨b,0,none⟩:Addr).add 258)with
  | some (.int _ n),some (.bool l)=>(lexS (d.drop n.toNat) n.toNat l).1.length
  | _,_=>0
theorem leftN_eq{w0 w:World}{b p:Nat}{d:List UInt8}{l g:Bool}{bad:Int}(h:Sc w0 w b d p l g bad):leftN d b w=(lexS (d.drop p) p l).1.length:=by
  unfold leftN;rw[h.at_,h.ln];simp only[toNat_i]
theorem Sc.below{w0 w w':World}{b p n₀:Nat}{d:List UInt8}{l g:Bool}{bad:Int}(h:Sc w0 w b d p l g bad)(hb:Below n₀ w w')(hbn:b<n₀):Sc w0 w' b d p l g bad:=
  ⟨Below.trans h.since (hb.mono (by have:=h.new;omega)),h.new,by rw[hb.block b hbn];exact h.blk,h.le,h.lim⟩
def TokS(w0:World)(b:Nat)(d:List UInt8)(xs:List Tok)(W:World):Prop:=xs=(lexS d 0 false).1/\∃p l,Sc w0 W b d p l l (badI (lexS d 0 false).2)
set_option maxHeartbeats 2000000 in
theorem all1_own {w0 w:World} {b:Nat} {d:List UInt8} (n:Nat) (hn:1<=n) (hL:Laid w0) (h:Sc w0 w b d 0 false false (-1)) (c n₀:Nat) (hc:w.cell? ⟨c,0,none⟩=some (.pointer (some ⟨b,0,none⟩))) (hcn:c<n₀) (hbn:b<n₀) (hcb:c ≠ b) (hn₀:n₀<=w.heap.size) :
    SeqOwn Fence.wide n Tryz.prog 149 #[.pointer (some ⟨c,0,none⟩)] (λt:Tok=>#[.agg #[.int .i64 t.kind,.int .i64 t.at_,.string t.text]]) (·=b) n₀ (TokS w0 b d) ((lexS d 0 false).1.length+1) w:=λl J W hW hJ hY h0=>by
  have hS0:Sc w0 W b d 0 false false (-1):=⟨Below.trans h.since (hW.mono (by have:=h.new;omega)),h.new,by rw[hW.block b hbn];exact h.blk,h.le,h.lim⟩
  have hcW:W.cell? ⟨c,0,none⟩=some (.pointer (some ⟨b,0,none⟩)):=(hW.cell (p:=⟨c,0,none⟩) hcn).trans hc
  refine callsIn_of_wp Tryz.func149 rfl trivial ?_ rfl
  simp only[Tryz.ntmps149,List.size_toArray,List.length_cons,List.length_nil,Nat.reduceAdd,Nat.reduceSub,Array.replicate_succ,Array.replicate_zero,List.push_toArray,List.append_toArray,List.nil_append,List.cons_append]
  gi_wp2
  gi_loopw [] (λwr=>∃pre p ln,J pre wr/\Sc w0 wr b d p ln ln (-1)/\wr.cell? ⟨c,0,none⟩=some (.pointer (some ⟨b,0,none⟩))/\n₀<=wr.heap.size/\(lexS d 0 false).1=pre ++ (lexS (d.drop p) p ln).1/\(lexS d 0 false).2=(lexS (d.drop p) p ln).2)
    (λwr=>leftN d b wr)
  case atStart=>exact⟨[],0,false,h0,hS0,hcW,by have:=hW.size;omega,rfl,rfl⟩
  case round=>
    obtain⟨pre,p,ln,hJs,hs,hcr,hz,h1,h2⟩:=hrel
    gi_wp2
    refine⟨trivial,callsIn_wide.2 ((next_c hL hs).mono ?_)⟩
    rintro e W2 ⟨p',l',bad',hs2,hf2,⟨t,rfl,rfl,hlex⟩|⟨t,rfl,hl1,hl2⟩⟩
    · have hz2:=hs2.since.size
      have hJ3:J pre (W2.alloc (.cells #[.int .i64 t.kind,.int .i64 t.at_,.string t.text] 30)):=hJ _ _ _ (hJ _ _ _ hJs hf2) (Fr.alloc _ _)
      have hs3:Sc w0 (W2.alloc (.cells #[.int .i64 t.kind,.int .i64 t.at_,.string t.text] 30)) b d p' l' l' (-1):=hs2.pu (Pu.alloc _ _)
      have hlen:pre.length<(lexS d 0 false).1.length+1:=by rw[h1,List.length_append];omega
      have hc3:(W2.alloc (.cells #[.int .i64 t.kind,.int .i64 t.at_,.string t.text] 30)).cell? ⟨c,0,none⟩=some (.pointer (some ⟨b,0,none⟩)):=by
        have hcl:=World.block_lt_of_cell? wr _ hcr
        have h9:W2.heap[c]?=wr.heap[c]?:=hf2.block c hcl hcb
        have h8:W2.cell? ⟨c,0,none⟩=wr.cell? ⟨c,0,none⟩:=by unfold World.cell?;dsimp only;rw[h9]
        exact(Pu.alloc W2 _).cell (h8.trans hcr)
      obtain⟨fn,tmps,assign,body,hy,hR⟩:=hY pre t _ hJ3 hlen
      unfold retE
      gi_wp2
      refine hR.mono ?_
      rintro e W4 ⟨rfl,hJ4,hk4⟩
      gi_wp2
      have hs4:=hs3.below hk4 hbn
      refine⟨⟨pre ++ [t],p',l',hJ4,hs4,(hk4.cell (p:=⟨c,0,none⟩) hcn).trans hc3,Nat.le_trans (Nat.le_trans hz hf2.size) (Nat.le_trans (Pu.alloc W2 _).size hk4.size),by rw[h1,hlex,List.append_assoc];rfl,by rw[h2,hlex]⟩,?_⟩
      rw[leftN_eq hs4,leftN_eq hs,hlex]
      exact Nat.lt_succ_self _
    · unfold retE
      gi_wp2
      refine⟨λ_ h=>(by cases h),?_⟩
      gi_wp2
      refine bodyPost_ret (results_none rfl _ _ _) rfl ?_
      have hJ2:J pre (W2.alloc (.cells #[.int .i64 t.kind,.int .i64 t.at_,.string t.text] 30)):=hJ _ _ _ (hJ _ _ _ hJs hf2) (Fr.alloc _ _)
      exact⟨⟨_,rfl⟩,pre,⟨by rw[h1,hl1,List.append_nil],p',l',by rw[h2,←hl2];exact hs2.pu (Pu.alloc _ _)⟩,hJ2⟩
end Go.Proofs.YtjbfehippchniaaGreatDoor

/- Lex: what collects the scanner's tokens. The signs: what the library's tables of letters and of bytes lay. -/
set_option maxRecDepth 100000
set_option linter.unusedVariables false
set_option linter.unusedSimpArgs false
namespace Go.Proofs.YtjbfehippchniaaGreatDoor
open Go.Sh Go.Sh.Lx Go.RowKit Go.Shelf
attribute [local go_sem] Oper.semAt_some
def rowOf(l:List Tok):List Value:=l.flatMap tokV
theorem info49:(Tryz.prog.info? 30).map (λi=>(i.zero,i.size,i.bytes))=some (some (.agg #[.int .i64 0,.int .i64 0,.string ⟨#[]⟩]),3,32):=by kernel_rfl
theorem rowOf_len:∀l:List Tok,(rowOf l).length=l.length * 3
  | []=>rfl
  | t :: l=>by
    have:=rowOf_len l
    unfold rowOf at this ⊢
    rw[List.flatMap_cons,List.length_append,this]
    show 3+l.length * 3=(l.length+1) * 3
    omega
set_option maxHeartbeats 2000000 in
theorem appendSeq_c {w:World} {b:Nat} {g:Nat} {lb:Array Value} (eg:∀args w,(callFunc g args).run Tryz.prog w=.ok (.enter g args) w) {S:List Tok->World->Prop} {N:Nat} (hN:N<=100000) (hb:b<w.heap.size)
    (hS:∀xs A A',S xs A->Fr (w.heap.size<=·) A A'->S xs A')
    (hseq:∀w1,w1=w.alloc (.cells #[.slice none 0 0] 25)->SeqOwn Fence.wide 3 Tryz.prog g lb (λt:Tok=>#[.agg #[.int .i64 t.kind,.int .i64 t.at_,.string t.text]]) (·=b) w.heap.size S N w1) :
    Calls Tryz.prog 148 #[.slice none 0 0,.func (.func g) #[] lb] w λe W'=>∃(s:SV) (xs:List Tok),e=.returned (.slice s.a s.len s.cap)/\S xs W'/\RowAt W' 30 3 s (rowOf xs)/\Fr (·=b) w W'/\∀k ∈ blkOf s,w.heap.size<=k:=by
  obtain⟨i0,hi,hz0,hz1,hz2⟩:=info_parts info49
  refine(callsIn_wide (n:=4)).1 ?_
  refine callsIn_of_wp_marks Tryz.func148 rfl trivial ?_ rfl
  simp only[Tryz.ntmps148,List.size_toArray,List.length_cons,List.length_nil,Nat.reduceAdd,Nat.reduceSub,Array.replicate_succ,Array.replicate_zero,List.push_toArray,List.append_toArray,List.nil_append,List.cons_append]
  gi_wp2
  obtain⟨w1,hw1⟩:∃w1,w1=w.alloc (.cells #[.slice none 0 0] 25):=⟨_,rfl⟩
  rw[←hw1]
  have hwz:w1.heap.size=w.heap.size+1:=by rw[hw1];simp
  refine wpIn_rangeFunc_state (F:=Fence.wide) rfl (by omega) (gf:=g) (lb:=lb) rfl trivial eg (n₀:=w.heap.size) (B:=(·=b)) (S:=S) (N:=N) (by omega) (λi hi=>by rw[show i=b from hi];exact hb) (hseq w1 hw1) (λ_=>rfl)
    (λpre W=>∃s:SV,W.heap[w.heap.size]?=some (.cells #[.slice s.a s.len s.cap] 25)/\RowAt W 30 3 s (rowOf pre)/\(∀k ∈ blkOf s,w.heap.size+3<=k)/\Fr (·=b) w W) ?hI ?hS ?h0
    (λx a' W=>∃r5,w.heap.size+3<=r5/\TokB W r5 x/\a'={ tmps:=#[.slice none 0 0,.func (.func g) #[] lb,.pointer (some ⟨w.heap.size,0,none⟩),undef,.slice none 0 0,.pointer (some ⟨r5,0,none⟩),.func (.func g) #[] lb,.agg #[.int .i64 x.kind,.int .i64 x.at_,.string x.text],undef,undef,undef,undef,undef],defers:=[] }) ?hAx ?assign ?body ?done
  case hI=>
    rintro pre A A' ⟨s,h1,h2,h4,h5⟩ hf
    refine⟨s,hf.blk h1 ?_,h2.fr hf ?_,h4,h5.trans hf λi hi hlt=>?_⟩
    · rintro(h|h|h) <;> omega
    · intro k hk
      have:=h4 k hk
      rintro(h|h|h) <;> omega
    · rcases hi with h|h|h
      · exact h
      · omega
      · omega
  case hS=>exact hS
  case h0=>exact⟨⟨none,0,0⟩,by rw[hw1];exact alloc_new w _,RowAt.nil _ _ _,by simp[blkOf],by rw[hw1];exact Fr.alloc w _⟩
  case hAx=>
    rintro x a' A A' ⟨r5,h1,h2,h3⟩ hf
    exact⟨r5,h1,hf.blk h2 (by omega),h3⟩
  case assign=>
    rintro l pre x W K ⟨s,h1,h2,h4,h5⟩ hsz hK
    gi_wp2
    exact hK _ _ (Pu.alloc W _) ⟨s,(Pu.alloc W _).blk h1,h2.pu (Pu.alloc W _),h4,frp h5 (Pu.alloc W _)⟩ ⟨W.heap.size,by omega,alloc_new W _,rfl⟩
  case body=>
    rintro l pre x a' W ⟨s,h1,h2,h4,h5⟩ ⟨r5,hr5,ht,rfl⟩ hlen hsz
    have hc1:W.cell? ⟨w.heap.size,0,none⟩=some (.slice s.a s.len s.cap):=cl0 h1
    have hc2:W.cell? ⟨r5,0,none⟩=some (.int .i64 x.kind):=cl0 ht
    have hc3:W.cell? ⟨r5,1,none⟩=some (.int .i64 x.at_):=by rw[cell_blk ht];rfl
    have hc4:W.cell? ⟨r5,2,none⟩=some (.string x.text):=by rw[cell_blk ht];rfl
    have hrl:=h2.1
    have hpl:(rowOf pre).length=pre.length * 3:=rowOf_len pre
    have hsl:s.len=pre.length:=by omega
    have hbytes:(s.len+1) * (i0.bytes+1)<=140737488355328:=by rw[hz2,hsl];omega
    clear hsl hpl hrl
    have hnc:∀(j:Nat) (u:Value),(tokV x)[j]?=some u->(W.alloc (.cells (tokV x).toArray 30)).cell? ((⟨W.heap.size,0,none⟩:Addr).add j)=some u:=λj u hu=>by
      rw[cl (alloc_new W (.cells (tokV x).toArray 30))];simpa using hu
    have hone:∀u ∈ tokV x,u.oneCell'=true:=by intro u hu;simp[tokV]at hu;rcases hu with rfl|rfl|rfl <;> rfl
    gi_wp2_with (gi_at_builtin;refine wpListIn_append_row _ rfl _ _ 25 rfl 30 i0 _ 3 Tryz.underlying25 hi hz0 hz1 rfl (by decide) s (rowOf pre) rfl (h2.pu (Pu.alloc W _)) ⟨W.heap.size,0,none⟩ 1 1 (tokV x) rfl rfl hnc hone hbytes ?_;intro s' W' hr' hf' hb';have hc1':W'.cell? ⟨w.heap.size,0,none⟩=some (.slice s.a s.len s.cap):=cl0 (hf'.blk ((Pu.alloc W _).blk h1) (λh=>by have:=h4 _ h;omega));have hfz':W'.frozen? ⟨w.heap.size,0,none⟩=false:=frozen_blk (hf'.blk ((Pu.alloc W _).blk h1) (λh=>by have:=h4 _ h;omega)) 0)
    have hb1:=hf'.blk ((Pu.alloc W (.cells #[.int .i64 x.kind,.int .i64 x.at_,.string x.text] 30)).blk h1) (λh=>by have:=h4 _ h;omega)
    have hset:=setCell_blk hb1 0 (.slice s'.a s'.len s'.cap)
    have hfs:Fr (·=w.heap.size) W' (W'.setCell ⟨w.heap.size,0,none⟩ (.slice s'.a s'.len s'.cap)):=Fr.setCell W' ⟨w.heap.size,0,none⟩ _
    have hfa:Fr (· ∈ blkOf s) W W':=(Fr.alloc W _:Fr (· ∈ blkOf s) W _).trans hf' λ_ hi _=>hi
    have hall:Fr (λi=>i ∈ blkOf s∨i=w.heap.size) W (W'.setCell ⟨w.heap.size,0,none⟩ (.slice s'.a s'.len s'.cap)):=(hfa.mono λi hi _=>.inl hi).trans hfs λi hi _=>.inr hi
    have hsz':(W.alloc (.cells #[.int .i64 x.kind,.int .i64 x.at_,.string x.text] 30)).heap.size=W.heap.size+1:=by simp
    have h4':∀k ∈ blkOf s',w.heap.size+3<=k:=λk hk=>by
      rcases hb' k hk with h|h
      · exact h4 k h
      · rw[hsz']at h;omega
    refine⟨⟨hall.size,λk o hk ho hcl=>hall.blk ho ?_⟩,⟨hall.os,hall.tape,hall.output,hall.size,λk hk=>hall.block k (by omega) ?_⟩,s',?_,?_,h4',h5.trans hall λi hi hlt=>?_⟩
    · rintro(h|h)
      · obtain⟨_,rfl|⟨g',cur,g3,g4,_⟩⟩:=h2
        · simp[blkOf]at h
        · simp[blkOf,g3]at h;subst h;rw[g4]at ho;cases ho;cases hcl
      · omega
    · rintro(h|h)
      · have:=h4 k h;omega
      · omega
    · rw[hset];rfl
    · have e:rowOf (pre ++ [x])=rowOf pre ++ tokV x:=by unfold rowOf;rw[List.flatMap_append];simp
      rw[e]
      exact hr'.fr hfs λk hk h=>by have:=h4' k hk;rw[show k=w.heap.size from h]at this;omega
    · rcases hi with h|h
      · have:=h4 i h;omega
      · omega
  case done=>
    rintro D xs W hD hSx ⟨s,h1,h2,h4,h5⟩ hK
    have hc1:W.cell? ⟨w.heap.size,0,none⟩=some (.slice s.a s.len s.cap):=cl0 h1
    gi_wp2
    refine⟨by simp,.inl ⟨_,_,rfl,run_takeDeferred hK,?_⟩⟩
    have hf:=Fr.putObj W D (.deferred none)
    refine⟨_,results_tmp rfl _ _ _,s,xs,rfl,hS _ _ _ hSx (hf.mono λi hi _=>by rw[show i=D from hi];omega),h2.fr hf λk hk h=>?_,h5.trans hf λi hi hlt=>by rw[show i=D from hi]at hlt;omega,λk hk=>by have:=h4 k hk;omega⟩
    have h8:=h2
    obtain⟨_,rfl|⟨g',cur,g3,g4,_⟩⟩:=h8
    · simp[blkOf]at hk
    · simp[blkOf,g3]at hk
      rw[←hk,show k=D from h]at g4;rw[g4]at hK;cases hK
end Go.Proofs.YtjbfehippchniaaGreatDoor

/- Lex: the program's Lex: which tokens it gives. The signs: what the library's tables of letters and of bytes lay. -/
set_option maxRecDepth 100000
set_option linter.unusedVariables false
set_option linter.unusedSimpArgs false
namespace Go.Proofs.YtjbfehippchniaaGreatDoor
open Go.Sh Go.Sh.Lx Go.RowKit
theorem rowOf_get:∀{xs:List Tok} {i:Nat} {t:Tok},xs[i]?=some t->∀(j:Nat) (v:Value),(tokV t)[j]?=some v->(rowOf xs)[i * 3+j]?=some v
  | [],i,t,h,j,v,hv=>by simp at h
  | x :: xs,0,t,h,j,v,hv=>by
    have h:x=t:=by simpa using h
    subst h
    unfold rowOf
    have hj:j<(tokV x).length:=(List.getElem?_eq_some_iff.1 hv).1
    rw[List.flatMap_cons,List.getElem?_append_left (by omega),Nat.zero_mul,Nat.zero_add];exact hv
  | x :: xs,i+1,t,h,j,v,hv=>by
    have ih:=rowOf_get (xs:=xs) (i:=i) (t:=t) (by simpa using h) j v hv
    unfold rowOf at ih ⊢
    have e3:(tokV x).length=3:=rfl
    rw[List.flatMap_cons,List.getElem?_append_right (by omega),e3,show(i+1) * 3+j - 3=i * 3+j by omega];exact ih
theorem rd_toks {w:World} {s:SV} {xs:List Tok} (h:RowAt w 30 3 s (rowOf xs)) (hall:∀t ∈ xs,In64 t.kind/\In64 t.at_) (hl:xs.length<=100000):RdSl w s xs:=by
  have hlen:s.len=xs.length:=by have h1:=h.1;have h2:=rowOf_len xs;omega
  have hcap:=h.le_cap
  refine⟨hlen,hcap.1,by omega,λi t ht=>?_⟩
  · obtain⟨a,ha,hc0,_⟩:=h.cell (j:=i * 3+0) (rowOf_get ht 0 _ rfl)
    refine⟨a,ha,tokV t,⟨rfl,hall t (List.mem_of_getElem? ht)⟩,λj v hv=>?_⟩
    obtain⟨a',ha',hc,_⟩:=h.cell (rowOf_get ht j v hv)
    rw[ha]at ha';cases ha'
    obtain⟨g,hg,_⟩:=h.base (λe=>by have:=rowOf_get ht 0 _ rfl;rw[e]at this;simp at this)
    rw[ha]at hg;cases hg
    rw[add_def,add_def];rw[add_def]at hc
    show w.cell? ⟨g,0+i * 3+j,none⟩=_
    rw[show 0+i * 3+j=0+(i * 3+j)by omega];exact hc
def TokIn(n:Nat):Stp->Prop
  | .tok k t m=>m<=n/\0<=k/\k<=4
  | .bad i=>i<=n
  | _=>False
def StpIn(n:Nat):Stp->Prop
  | .go m=>m<=n
  | .eol=>True
  | .tok k t m=>m<=n/\0<=k/\k<=4
  | .bad i=>i<=n
theorem tokS_in{x:UInt8}{r:List UInt8}:TokIn r.length (tokS x r):=by
  unfold tokS
  split
  · have:=tw_le (λc=>letB c || digB c) (x :: r)
    rw[List.length_cons]at this
    dsimp only
    split
    · exact Nat.zero_le _
    · exact⟨by omega,by omega,by omega⟩
  · split
    · have:=tw_le digB (x :: r)
      rw[List.length_cons]at this
      dsimp only
      split
      · exact Nat.zero_le _
      · exact⟨by omega,by omega,by omega⟩
    · split
      · unfold quoteS
        have h1:=tw_le (λb=>!nlB b && !decide (b=x)) r
        dsimp only
        split
        · rename_i hq
          have hq2:=(List.getElem?_eq_some_iff.1 hq).1
          split
          · rename_i i hi
            have:i<(List.takeWhile (λb=>!nlB b && !decide (b=x)) r).length:=by
              unfold badAt at hi
              rw[List.findIdx?_eq_some_iff_getElem]at hi
              exact hi.1
            show i+1<=r.length;omega
          · exact⟨by omega,by omega,by omega⟩
        · exact Nat.zero_le _
      · split
        · rename_i d n hd
          have hn:n<=r.length+1:=by
            unfold dateL at hd
            split at hd
            · rename_i h2
              have hlen:=congrArg List.length h2
              rw[List.length_take,List.length_cons]at hlen
              have:n=2:=by simp at hd;omega
              simp at hlen;omega
            · split at hd
              · cases hd
              · rename_i h2
                split at hd
                · have:n=13:=by simp at hd;omega
                  rw[List.length_cons]at h2;omega
                · cases hd
          exact⟨by omega,by omega,by omega⟩
        · split
          · rename_i w hw
            unfold signS at hw
            have h9:=List.find?_some hw
            have h8:=congrArg List.length (of_decide_eq_true h9)
            rw[List.length_map,List.length_take,List.length_cons]at h8
            exact⟨by omega,by omega,by omega⟩
          · exact Nat.zero_le _
theorem badAt_lt{l:List UInt8}{i:Nat}(h:badAt l=some i):i<l.length:=by
  unfold badAt at h
  rw[List.findIdx?_eq_some_iff_getElem]at h
  exact h.1
theorem stepS_in{x:UInt8}{r:List UInt8}{line:Bool}:StpIn r.length (stepS x r line):=by
  unfold stepS
  have h1:=lnN_le (x :: r)
  have h2:=lnN_le r
  unfold lnN at h1 h2
  rw[List.length_cons]at h1
  split
  · trivial
  · split
    · exact Nat.zero_le _
    · split
      · split
        · rename_i i hi;have:=badAt_lt hi;show i<=_;omega
        · show _ - 1<=_;omega
      · split
        · split
          · rename_i i hi;have:=badAt_lt hi;show i+1<=_;omega
          · exact goN_le r
        · have:=tokS_in (x:=x) (r:=r)
          cases ht:tokS x r with
          | go m=>rw[ht]at this;exact this.elim
          | eol=>rw[ht]at this;exact this.elim
          | tok k t m=>rw[ht]at this;exact this
          | bad i=>rw[ht]at this;exact this
theorem stepS_go{x:UInt8}{r:List UInt8}{line:Bool}{m:Nat}(h:stepS x r line=.go m):m<=r.length:=by have:=stepS_in (x:=x) (r:=r) (line:=line);rw[h]at this;exact this
theorem stepS_tok{x:UInt8}{r:List UInt8}{line:Bool}{k:Int}{t:List UInt8}{m:Nat}(h:stepS x r line=.tok k t m):m<=r.length/\0<=k/\k<=4:=by have:=stepS_in (x:=x) (r:=r) (line:=line);rw[h]at this;exact this
theorem stepS_bad{x:UInt8}{r:List UInt8}{line:Bool}{i:Nat}(h:stepS x r line=.bad i):i<=r.length:=by have:=stepS_in (x:=x) (r:=r) (line:=line);rw[h]at this;exact this
theorem lexS_bounds:∀(n:Nat) (r:List UInt8) (p:Nat) (line:Bool),r.length<=n->(∀t ∈ (lexS r p line).1,0<=t.kind/\t.kind<=5/\0<=t.at_/\t.at_<=((p+r.length:Nat):Int))/\(lexS r p line).1.length<=r.length+1/\(∀i,(lexS r p line).2=some i->i<=p+r.length):=by
  have endB:∀(p q:Nat),p<=q->0<=(endT p).kind/\(endT p).kind<=5/\0<=(endT p).at_/\(endT p).at_<=(q:Int):=λp q h=>⟨by show(0:Int)<=5;omega,by show(5:Int)<=5;omega,by show(0:Int)<=(p:Int);omega,by show(p:Int)<=(q:Int);omega⟩
  intro n
  induction n with
  | zero=>
    intro r p line h
    obtain rfl:r=[]:=List.eq_nil_of_length_eq_zero (by omega)
    rw[lexS_nil]
    refine⟨λt ht=>?_,?_,λi hi=>by cases hi⟩
    · cases line with
      | false=>simp at ht
      | true=>simp at ht;subst ht;exact endB _ _ (Nat.le_refl _)
    · cases line <;> simp
  | succ n ih=>
    intro r p line h
    cases r with
    | nil=>
      rw[lexS_nil]
      refine⟨λt ht=>?_,?_,λi hi=>by cases hi⟩
      · cases line with
        | false=>simp at ht
        | true=>simp at ht;subst ht;exact endB _ _ (Nat.le_refl _)
      · cases line <;> simp
    | cons x r=>
      have hr:r.length<=n:=by simpa using h
      have hxl:(x :: r).length=r.length+1:=rfl
      cases hs:stepS x r line with
      | go m=>
        rw[lexS_go hs]
        obtain⟨h1,h2,h3⟩:=ih (r.drop m) (p+1+m) line (by rw[List.length_drop];omega)
        rw[List.length_drop]at h1 h2 h3
        have hm:m<=r.length:=stepS_go hs
        refine⟨λt ht=>?_,by omega,λi hi=>by have:=h3 i hi;omega⟩
        obtain⟨a,b,c,e⟩:=h1 t ht
        exact⟨a,b,c,by omega⟩
      | eol=>
        rw[lexS_eol hs]
        obtain⟨h1,h2,h3⟩:=ih r (p+1) false hr
        refine⟨λt ht=>?_,?_,λi hi=>by have:=h3 i hi;omega⟩
        · rcases List.mem_append.1 ht with ht|ht
          · cases line with
            | false=>simp at ht
            | true=>simp at ht;subst ht;exact endB _ _ (by omega)
          · obtain⟨a,b,c,e⟩:=h1 t ht
            exact⟨a,b,c,by omega⟩
        · rw[List.length_append]
          cases line <;> simp <;> omega
      | tok k t0 m=>
        rw[lexS_tok hs]
        obtain⟨h1,h2,h3⟩:=ih (r.drop m) (p+1+m) true (by rw[List.length_drop];omega)
        rw[List.length_drop]at h1 h2 h3
        obtain⟨hm,hk⟩:=stepS_tok hs
        refine⟨λt ht=>?_,by simp only[List.length_cons];omega,λi hi=>by have:=h3 i hi;omega⟩
        rcases List.mem_cons.1 ht with rfl|ht
        · exact⟨by show(0:Int)<=k;omega,by show k<=5;omega,by show(0:Int)<=(p:Int);omega,by show(p:Int)<=_;omega⟩
        · obtain⟨a,b,c,e⟩:=h1 t ht
          exact⟨a,b,c,by omega⟩
      | bad i=>
        rw[lexS_bad hs]
        exact⟨λt ht=>by simp at ht,by simp,λj hj=>by cases hj;have:=stepS_bad hs;omega⟩
theorem build_run(d:List UInt8)(w:World):(Instr.build 152 #[(0,.string (bs d)),(2,.agg (arrF 256 clsV)),(5,.int .i64 (-1))]).run Tryz.prog w=.ok (.agg (arrF 261 (scF d 0 false false (-1)))) w:=by kernel_rfl
theorem all_c(p0:Option Addr)(w:World):Calls Tryz.prog 121 #[.pointer p0] w λe w'=>e=.returned (.func (.func 149) #[] #[.pointer (some ⟨w.heap.size,0,none⟩)])/\w'=w.alloc (.cells #[.pointer p0] 148):=by
  refine calls_by (F121_calls _ w) λR hR=>alE_intro λw1 hw1=>hR _ _ ⟨rfl,hw1⟩
theorem enters37:∀args w,(callFunc 149 args).run Tryz.prog w=.ok (.enter 149 args) w:=λargs w=>run_callFunc (by kernel_rfl) args w
theorem lexR_c{w0:World}(hL:Laid w0)(d:List UInt8)(hd:d.length<=9223372036854775807):Calls Tryz.prog 81 #[.string (bs d)] w0 λe w'=>Pu w0 w'/\∃s:SV,e=.returned (.tuple #[.slice s.a s.len s.cap,.int .i64 (lexF d).2.1,.int .i64 (lexF d).2.2])/\RdSl w' s (lexF d).1/\RowAt w' 30 3 s (rowOf (lexF d).1)/\∀k ∈ blkOf s,w0.heap.size<=k:=by
  refine calls_by (F81_calls _ w0) λR hR=>Br.of (λq=>?_) (λq=>?_)
  · have q:=dtrue q
    rw[bs_size_i]at q
    refine hR _ _ ⟨Pu.refl _,⟨none,0,0⟩,?_,?_,?_,by simp[blkOf]⟩
    · unfold lexF;rw[if_pos (by omega)]
    · unfold lexF;rw[if_pos (by omega)];exact RdSl.nil _ _ _
    · unfold lexF;rw[if_pos (by omega)];exact RowAt.nil _ _ _
  · have q:=dfalse q
    rw[bs_size_i]at q
    have hdl:d.length<=4000:=by omega
    refine(classes_c w0).mono ?_
    rintro e w1 ⟨rfl,hp1⟩
    refine⟨_,arrF_size _ _,rfl,?_⟩
    show rawE _ _ _ _
    unfold rawE
    rw[build_run]
    show alE (.cells (arrF 261 (scF d 0 false false (-1))) 152) w1 _
    refine alB λw2 hp2 hb2=>(all_c _ w2).mono ?_
    rintro e w3 ⟨rfl,rfl⟩
    obtain⟨b,hb⟩:∃b,b=w1.heap.size:=⟨_,rfl⟩
    rw[←hb]at hb2 ⊢
    have hz1:=hp1.size
    have hz2:=hp2.size
    have hlt:=blk_lt hb2
    have hS2:Sc w0 w2 b d 0 false false (-1):=⟨hp1.trans hp2,by omega,hb2,Nat.zero_le _,hdl⟩
    obtain⟨w3,hw3⟩:∃w3,w3=w2.alloc (.cells #[.pointer (some ⟨b,0,none⟩)] 148):=⟨_,rfl⟩
    rw[←hw3]
    have hp3:Pu w2 w3:=by rw[hw3];exact Pu.alloc _ _
    have hS3:=hS2.pu hp3
    have hc3:w3.heap[w2.heap.size]?=some (.cells #[.pointer (some ⟨b,0,none⟩)] 148):=by rw[hw3];exact alloc_new _ _
    have hz3:w3.heap.size=w2.heap.size+1:=by rw[hw3];simp
    obtain⟨hbT,hbN,hbI⟩:=lexS_bounds d.length d 0 false (Nat.le_refl _)
    refine⟨_,rfl,?_⟩
    have hcol:Calls Tryz.prog 120 #[.func (.func 149) #[] #[.pointer (some ⟨w2.heap.size,0,none⟩)]] w3 λe w'=>∃(s:SV) (xs:List Tok),e=.returned (.slice s.a s.len s.cap)/\TokS w0 b d xs w'/\RowAt w' 30 3 s (rowOf xs)/\Fr (·=b) w3 w'/\∀k ∈ blkOf s,w3.heap.size<=k:=by
      refine calls_by (F120_calls _ w3) λR hR=>?_
      refine(appendSeq_c (b:=b) (S:=TokS w0 b d) (N:=(lexS d 0 false).1.length+1) enters37 (by omega) (by omega) ?_ ?_).mono ?_
      · rintro xs A A' ⟨h1,p,l,h2⟩ hf
        exact⟨h1,p,l,h2.fr hf (by omega) (λi hi=>by have hi:w3.heap.size<=i:=hi;omega)⟩
      · rintro w4 rfl
        have hp4:Pu w3 (w3.alloc (.cells #[.slice none 0 0] 25)):=Pu.alloc _ _
        exact all1_own 3 (by omega) hL (hS3.pu hp4) w2.heap.size w3.heap.size (cl0 (hp4.blk hc3)) (by omega) (by omega) (by omega) hp4.size
      · rintro e w5 ⟨s,xs,rfl,h⟩
        exact⟨s,rfl,hR _ _ ⟨s,xs,rfl,h⟩⟩
    refine hcol.mono ?_
    rintro e w5 ⟨s,xs,rfl,⟨hx,p,l,hS⟩,hrow,hf,hnk⟩
    subst hx
    have hP5:=hS.since
    have hrd:=rd_toks hrow (λt ht=>by
      obtain⟨a,b',c,e⟩:=hbT t ht
      exact⟨⟨by omega,by omega⟩,by omega,by omega⟩) (by omega)
    refine⟨s,rfl,_,hS.bd,?_⟩
    have hlF:lexF d=match (lexS d 0 false).2 with
        | some i=>([],(i:Int),2)
        | none=>if 1200<(lexS d 0 false).1.length then([],0,3)else((lexS d 0 false).1,((lexS d 0 false).1.length:Int),0):=by unfold lexF;rw[if_neg (by omega)];cases (lexS d 0 false).2 <;> rfl
    cases h2:(lexS d 0 false).2 with
    | some i=>
      rw[h2]at hlF hS
      refine Br.t (decide_eq_true (by show(i:Int) ≥ 0;omega)) (dwE_intro λw6 hp6 _=>⟨_,(hS.pu hp6).bd,hR _ _ ⟨hP5.trans hp6,⟨none,0,0⟩,?_,?_,?_,by simp[blkOf]⟩⟩)
      · rw[hlF];rfl
      · rw[hlF];exact RdSl.nil _ _ _
      · rw[hlF];exact RowAt.nil _ _ _
    | none=>
      rw[h2]at hlF
      refine Br.f (decide_eq_false (by show ¬(-1:Int) ≥ 0;omega)) (Br.of (λq2=>?_) (λq2=>?_))
      · have q2:=dtrue q2
        rw[hrd.len]at q2
        refine hR _ _ ⟨hP5,⟨none,0,0⟩,?_,?_,?_,by simp[blkOf]⟩
        · rw[hlF];dsimp only;rw[if_pos (by omega)]
        · rw[hlF];dsimp only;rw[if_pos (by omega)];exact RdSl.nil _ _ _
        · rw[hlF];dsimp only;rw[if_pos (by omega)];exact RowAt.nil _ _ _
      · have q2:=dfalse q2
        rw[hrd.len]at q2
        refine hR _ _ ⟨hP5,s,?_,?_,?_,λk hk=>by have:=hnk k hk;omega⟩
        · rw[hlF];dsimp only;rw[if_neg (by omega),hrd.len]
        · rw[hlF];dsimp only;rw[if_neg (by omega)];exact hrd
        · rw[hlF];dsimp only;rw[if_neg (by omega)];exact hrow
theorem lex_c{w0:World}(hL:Laid w0)(d:List UInt8)(hd:d.length<=9223372036854775807):Calls Tryz.prog 81 #[.string (bs d)] w0 λe w'=>Pu w0 w'/\∃s:SV,e=.returned (.tuple #[.slice s.a s.len s.cap,.int .i64 (lexF d).2.1,.int .i64 (lexF d).2.2])/\RdSl w' s (lexF d).1:=
  (lexR_c hL d hd).mono λ_ _ ⟨h1,s,h2,h3,_⟩=>⟨h1,s,h2,h3⟩
end Go.Proofs.YtjbfehippchniaaGreatDoor

/- Lex: the reference's reader: its state, and its small steps. No condition but those stated. -/
set_option maxRecDepth 100000
set_option linter.unusedVariables false
set_option linter.unusedSimpArgs false
namespace Go.Proofs.YtjbfehippchniaaGreatDoor
open Go.Sh Go.Sh.Lx Go.RowKit
structure Rd(w0 w:World)(b:Nat)(d:List UInt8)(p:Nat)(l:Bool)(bad:Int)(s:SV)(ts:List Tok):Prop where
  since:Pu w0 w
  new:w0.heap.size<=b
  blk:w.heap[b]?=some (.cells #[.string (bs d),.int .i64 (p:Int),.bool l,.int .i64 bad,.slice s.a s.len s.cap] 41)
  row:RowAt w 30 3 s (rowOf ts)
  own:∀k ∈ blkOf s,w0.heap.size<=k/\k ≠ b
  le:p<=d.length
  lim:d.length<=4000
variable {w0 w w' : World} {b p : Nat} {d : List UInt8} {l : Bool} {bad : Int} {s : SV} {ts : List Tok}
theorem Rd.pu(h:Rd w0 w b d p l bad s ts)(hp:Pu w w'):Rd w0 w' b d p l bad s ts:=⟨h.since.trans hp,h.new,hp.blk h.blk,h.row.pu hp,h.own,h.le,h.lim⟩
theorem Rd.s_(h:Rd w0 w b d p l bad s ts):w.cell? (⟨b,0,none⟩:Addr)=some (.string (bs d)):=cl0 h.blk
theorem Rd.at_(h:Rd w0 w b d p l bad s ts):w.cell? ((⟨b,0,none⟩:Addr).add 1)=some (.int .i64 (p:Int)):=cl h.blk 1
theorem Rd.ln(h:Rd w0 w b d p l bad s ts):w.cell? ((⟨b,0,none⟩:Addr).add 2)=some (.bool l):=cl h.blk 2
theorem Rd.bd(h:Rd w0 w b d p l bad s ts):w.cell? ((⟨b,0,none⟩:Addr).add 3)=some (.int .i64 bad):=cl h.blk 3
theorem Rd.out(h:Rd w0 w b d p l bad s ts):w.cell? ((⟨b,0,none⟩:Addr).add 4)=some (.slice s.a s.len s.cap):=cl h.blk 4
theorem Rd.st(h:Rd w0 w b d p l bad s ts){o:Nat}(ho:o<5){v:Value}{p':Nat}{l':Bool}{bad':Int}{K:World->Prop}(hp':p'<=d.length)
    (hs:(#[.string (bs d),.int .i64 (p:Int),.bool l,.int .i64 bad,.slice s.a s.len s.cap]:Array Value).setIfInBounds o v=#[.string (bs d),.int .i64 (p':Int),.bool l',.int .i64 bad',.slice s.a s.len s.cap])
    (hK:∀w',Rd w0 w' b d p' l' bad' s ts->K w'):ptrE (some (⟨b,0,none⟩:Addr)) λa=>st1 (a.add o) v w K:=by
  show st1 ((⟨b,0,none⟩:Addr).add o) v w K
  rw[add_def,Nat.zero_add]
  refine st1_intro h.blk (by simpa using ho) λw' hw' hb'=>?_
  rw[hs]at hb'
  have hf:Fr (·=b) w w':=by rw[hw'];exact Fr.setCell w ⟨b,o,none⟩ v
  exact hK w' ⟨Pu.andNew h.since hf (λi hi=>by rw[show i=b from hi];exact h.new),h.new,hb',h.row.fr hf (λk hk=>(h.own k hk).2),h.own,hp',h.lim⟩
theorem Rd.st_at (h:Rd w0 w b d p l bad s ts) {p':Nat} (hp':p'<=d.length) {n:Int} (hn:n=(p':Int)) {K:World->Prop} (hK:∀w',Rd w0 w' b d p' l bad s ts->K w'):ptrE (some (⟨b,0,none⟩:Addr)) λa=>st1 (a.add 1) (.int .i64 n) w K:=by
  subst hn;exact h.st (by omega) hp' rfl hK
theorem Rd.st_ln(h:Rd w0 w b d p l bad s ts){l':Bool}{K:World->Prop}(hK:∀w',Rd w0 w' b d p l' bad s ts->K w'):ptrE (some (⟨b,0,none⟩:Addr)) λa=>st1 (a.add 2) (.bool l') w K:=h.st (by omega) h.le rfl hK
theorem Rd.st_bd(h:Rd w0 w b d p l bad s ts){bad':Int}{K:World->Prop}(hK:∀w',Rd w0 w' b d p l bad' s ts->K w'):ptrE (some (⟨b,0,none⟩:Addr)) λa=>st1 (a.add 3) (.int .i64 bad') w K:=h.st (by omega) h.le rfl hK
theorem Rd.push(h:Rd w0 w b d p l bad s ts){r:Nat}{t:Tok}(ht:TokB w r t)(hc:ts.length<=100000):∃(s':SV) (w5:World),(Builtin.append_ #[25,25] 25 #[.slice s.a s.len s.cap,.slice (some ⟨r,0,none⟩) 1 1]).run Tryz.prog w=.ok (.slice s'.a s'.len s'.cap) w5/\
    ∀K:World->Prop,(∀w',Rd w0 w' b d p l bad s' (ts ++ [t])->K w')->ptrE (some (⟨b,0,none⟩:Addr)) λa=>st1 (a.add 4) (.slice s'.a s'.len s'.cap) w5 K:=by
  obtain⟨i0,hi,hz0,hz1,hz2⟩:=info_parts info49
  have hl:=h.row.1
  have hrl:=rowOf_len ts
  have hsi:=h.since.size
  have hbl:=blk_lt h.blk
  obtain⟨s',w5,hrun,r1,r2,r3,r4⟩:=row_append (P:=Tryz.prog) (w:=w) (s:=s) (vs:=rowOf ts) (t:=25) (ty:=25) Tryz.underlying25 hi hz0 hz1 rfl (by decide) h.row (a:=⟨r,0,none⟩) (m:=1) (c:=1) (news:=tokV t) rfl
    (λj u hu=>by rw[cl ht];simpa using hu) (by intro u hu;simp[tokV]at hu;rcases hu with rfl|rfl|rfl <;> rfl) (by rw[hz2];omega)
  have e:rowOf ts ++ tokV t=rowOf (ts ++ [t]):=by unfold rowOf;rw[List.flatMap_append];simp
  rw[e]at r1
  refine⟨s',w5,hrun,λK hK=>?_⟩
  have hb5:=r2.blk h.blk (λhk=>(h.own b hk).2 rfl)
  show st1 ((⟨b,0,none⟩:Addr).add 4) _ w5 K
  rw[add_def]
  refine st1_intro hb5 (by simp) λw' hw' hb'=>?_
  have hf:Fr (·=b) w5 w':=by rw[hw'];exact Fr.setCell w5 ⟨b,0+4,none⟩ _
  have hown:∀k ∈ blkOf s',w0.heap.size<=k/\k ≠ b:=λk hk=>by
    rcases r3 k hk with h9|h9
    · exact h.own k h9
    · exact⟨by omega,by omega⟩
  exact hK w' ⟨Pu.andNew (Pu.andNew h.since r2 (λi hi=>(h.own i hi).1)) hf (λi hi=>by rw[show i=b from hi];exact h.new),h.new,hb',r1.fr hf (λk hk=>(hown k hk).2),hown,h.le,h.lim⟩
def unitE:Ending:=.returned (.tuple #[])
def failI(bad q:Int):Int:=if bad<0 then q else if q<bad then q else bad
theorem fails_c(h:Rd w0 w b d p l bad s ts)(q:Int):Calls Tryz.prog 60 #[.pointer (some ⟨b,0,none⟩),.int .i64 q] w λe w'=>e=unitE/\Rd w0 w' b d p l (failI bad q) s ts:=by
  refine calls_by (F60_calls _ _ w) λR hR=>⟨_,h.bd,Br.of (λq1=>?_) (λq1=>⟨_,h.bd,Br.of (λq2=>?_) (λq2=>?_)⟩)⟩
  · refine h.st_bd λw1 h1=>hR _ _ ⟨rfl,?_⟩
    unfold failI;rw[if_pos (dtrue q1)];exact h1
  · refine h.st_bd λw1 h1=>hR _ _ ⟨rfl,?_⟩
    unfold failI;rw[if_neg (dfalse q1),if_pos (dtrue q2)];exact h1
  · refine hR _ _ ⟨rfl,?_⟩
    unfold failI;rw[if_neg (dfalse q1),if_neg (dfalse q2)];exact h
theorem rend_c(h:Rd w0 w b d p l bad s ts){q:Nat}(hq:q<=d.length):Calls Tryz.prog 33 #[.pointer (some ⟨b,0,none⟩),.int .i64 (q:Int)] w λe w'=>e=.returned (.int .i64 ((q+lnN (d.drop q):Nat):Int))/\w'=w:=by
  have hlim:=h.lim
  have hln:=lnN_le (d.drop q)
  rw[List.length_drop]at hln
  refine calls_by (F33_calls _ _ w) λR hR=>loopUp (lnN (d.drop q)) (λk t w'=>t=((q+k:Nat):Int)/\w'=w) ⟨rfl,rfl⟩ ?_
  rintro k J t w1 hk ⟨rfl,rfl⟩ hJ
  have ht:=head_test (f:=λx=>!nlB x) (d:=d) (p:=q) (k:=k) hk
  have hlno:((d.drop q).takeWhile λx=>!nlB x).length=lnN (d.drop q):=rfl
  rw[hlno]at ht
  have fin:¬k<lnN (d.drop q)->F33_1 R ((q+k:Nat):Int) [] w1:=λh9=>hR _ _ ⟨by rw[show k=lnN (d.drop q)by omega],rfl⟩
  refine⟨_,h.s_,Br.of (λq1=>?_) (λq1=>?_)⟩
  · have q1:=dtrue q1
    rw[bs_size_i]at q1
    obtain⟨x,hx⟩:=at_k (l:=d) (k:=q+k) (by omega)
    rw[hx]at ht
    have ht:(!nlB x)=decide (k<lnN (d.drop q)):=ht
    have e10:(((x.toNat:Nat):Int) != 10)=!nlB x:=by
      unfold bne;rw[beq_dec];unfold nlB;congr 1;exact dec_eq (by omega)
    refine⟨_,h.s_,x,by omega,by rw[toNat_i];exact bs_get hx,?_⟩
    rw[e10,ht]
    refine Br.of (λq2=>?_) (λq2=>fin (dfalse q2))
    rw[wrap_in (by omega) (by omega)]
    exact hJ _ _ (dtrue q2) ⟨by omega,rfl⟩
  · have q1:=dfalse q1
    rw[bs_size_i]at q1
    exact fin (by omega)
theorem badAt_snoc(l:List UInt8)(x:UInt8):badAt (l ++ [x])=match badAt l with
    | some i=>some i
    | none=>if isB x then none else some l.length:=by
  unfold badAt
  rw[List.findIdx?_append]
  cases h:List.findIdx? (λb=>!isB b) l with
  | some i=>rfl
  | none=>
    rw[List.findIdx?_cons]
    cases isB x <;> simp
def badP(p:Nat)(c:List UInt8):Int:=badI ((badAt c).map (p + ·))
theorem badP_snoc(p:Nat)(l:List UInt8)(x:UInt8):badP p (l ++ [x])=if isB x then badP p l else failI (badP p l) ((p+l.length:Nat):Int):=by
  unfold badP
  rw[badAt_snoc]
  cases h:badAt l with
  | some i=>
    have hi:=badAt_lt h
    cases isB x with
    | true=>rfl
    | false=>
      show((p+i:Nat):Int)=failI ((p+i:Nat):Int) ((p+l.length:Nat):Int)
      unfold failI;rw[if_neg (by omega),if_neg (by omega)]
  | none=>
    cases isB x with
    | true=>rfl
    | false=>rfl
theorem take_drop_succ {d:List UInt8} {p k:Nat} {x:UInt8} (hx:d[p+k]?=some x):(d.drop p).take (k+1)=(d.drop p).take k ++ [x]:=take_at (by rw[get_drop];exact hx)
theorem skips_c (h:Rd w0 w b d p l (-1) s ts) {n:Nat} (hn:p+n<=d.length):Calls Tryz.prog 32 #[.pointer (some ⟨b,0,none⟩),.int .i64 ((p+n:Nat):Int)] w λe w'=>e=unitE/\Rd w0 w' b d (p+n) l (badP p ((d.drop p).take n)) s ts:=by
  have hlim:=h.lim
  refine calls_by (F32_calls _ _ w) λR hR=>loopUp n (λk _ w'=>Rd w0 w' b d (p+k) l (badP p ((d.drop p).take k)) s ts) (by rw[List.take_zero];exact h) ?_
  rintro k J _ w1 hk h1 hJ
  refine⟨_,h1.at_,Br.of (λq1=>?_) (λq1=>?_)⟩
  · have q1:=dtrue q1
    have hk2:k<n:=by omega
    obtain⟨x,hx⟩:=at_k (l:=d) (k:=p+k) (by omega)
    refine dwE_intro λw2 hp2 _=>?_
    have h2:=h1.pu hp2
    refine⟨_,h2.s_,_,h2.at_,x,by omega,by rw[toNat_i];exact bs_get hx,(isByte_c x w2).mono ?_⟩
    rintro e w3 ⟨rfl,rfl⟩
    have hsn:=badP_snoc p ((d.drop p).take k) x
    have hlk:((d.drop p).take k).length=k:=by rw[List.length_take,List.length_drop];omega
    rw[←take_drop_succ hx,hlk]at hsn
    refine⟨_,rfl,Br.of (λq2=>?_) (λq2=>?_)⟩
    · have q2:isB x=false:=by simpa using q2
      rw[q2]at hsn
      refine⟨_,h2.at_,(fails_c h2 _).mono ?_⟩
      rintro e w4 ⟨rfl,h4⟩
      exact⟨rfl,_,h4.at_,h4.st_at (p':=p+(k+1)) (by omega) (by rw[wrap_in (by omega) (by omega)];omega) λw5 h5=>hJ _ _ hk2 (by rw[hsn,if_neg (by simp)];exact h5)⟩
    · have q2:isB x=true:=by simpa using q2
      rw[q2,if_pos rfl]at hsn
      exact⟨_,h2.at_,h2.st_at (p':=p+(k+1)) (by omega) (by rw[wrap_in (by omega) (by omega)];omega) λw5 h5=>hJ _ _ hk2 (by rw[hsn];exact h5)⟩
  · have q1:=dfalse q1
    obtain rfl:k=n:=by omega
    exact hR _ _ ⟨rfl,h1⟩
theorem isComment_c{x:UInt8}{r:List UInt8}(h:Rd w0 w b d p l bad s ts)(hd:d.drop p=x :: r):Calls Tryz.prog 30 #[.pointer (some ⟨b,0,none⟩)] w λe w'=>e=.returned (.bool (ampB (x :: r)))/\Rd w0 w' b d p l bad s ts:=by
  have hlim:=h.lim
  have hgx:d[p]?=some x:=by have:=congrArg (·[0]?) hd;simpa[get_drop] using this
  have hdl:(d.drop p).length=r.length+1:=by rw[hd];rfl
  rw[List.length_drop]at hdl
  refine calls_by (F30_calls _ w) λR hR=>dwE_intro λw1 hp1 _=>?_
  have h1:=h.pu hp1
  refine⟨_,h1.at_,_,h1.s_,?_⟩
  rw[wrap_in (n:=(p:Int)+1) (by omega) (by omega)]
  refine Br.of (λq1=>⟨_,h1.s_,_,h1.at_,x,by omega,by rw[toNat_i];exact bs_get hgx,Br.of (λq2=>?_) (λq2=>hR _ _ ⟨?_,h1⟩)⟩) (λq1=>hR _ _ ⟨?_,h1⟩)
  · have q1:=dtrue q1
    rw[bs_size_i]at q1
    cases r with
    | nil=>simp at hdl;omega
    | cons y r=>
      have hgy:d[p+1]?=some y:=by have:=congrArg (·[1]?) hd;simpa[get_drop] using this
      refine⟨_,h1.s_,_,h1.at_,y,?_⟩
      rw[wrap_in (n:=(p:Int)+1) (by omega) (by omega)]
      refine⟨by omega,by rw[show((p:Int)+1).toNat=p+1 by omega];exact bs_get hgy,hR _ _ ⟨?_,h1⟩⟩
      show _=Ending.returned (.bool (decide (x.toNat=38) && decide (y.toNat=38)))
      congr 2
      rw[decide_eq_true (show x.toNat=38 by have:=btrue q2;omega),Bool.true_and,beq_dec];exact dec_eq (by omega)
  · cases r with
    | nil=>rfl
    | cons y r=>
      show _=Ending.returned (.bool (decide (x.toNat=38) && decide (y.toNat=38)))
      rw[decide_eq_false (show ¬x.toNat=38 by have:=bfalse q2;omega)];rfl
  · have q1:=dfalse q1
    rw[bs_size_i]at q1
    cases r with
    | nil=>rfl
    | cons y r=>simp at hdl;omega
end Go.Proofs.YtjbfehippchniaaGreatDoor

/- Lex: the reference's reader: tokens. No condition but those stated. -/
set_option maxRecDepth 100000
set_option linter.unusedVariables false
set_option linter.unusedSimpArgs false
namespace Go.Proofs.YtjbfehippchniaaGreatDoor
open Go.Sh Go.Sh.Lx Go.RowKit
variable {w0 w w' : World} {b p : Nat} {d : List UInt8} {l : Bool} {bad : Int} {s : SV} {ts : List Tok}
def frontR(d:List UInt8)(p:Nat):Bool:=match (d.take p).reverse.dropWhile blkB with
  | []=>true
  | x :: _=>nlB x
theorem rev_get{d:List UInt8}{p k:Nat}(hp:p<=d.length)(hk:k<p):(d.take p).reverse[k]?=d[p - 1 - k]?:=by
  rw[List.getElem?_reverse (by rw[List.length_take];omega),List.length_take,Nat.min_eq_left hp,List.getElem?_take,if_pos (by omega)]
theorem first_c(h:Rd w0 w b d p l bad s ts):Calls Tryz.prog 31 #[.pointer (some ⟨b,0,none⟩)] w λe w'=>e=.returned (.bool (frontR d p))/\w'=w:=by
  have hlim:=h.lim
  have hle:=h.le
  obtain⟨rv,hrv⟩:∃rv,rv=(d.take p).reverse:=⟨_,rfl⟩
  have hrl:rv.length=p:=by rw[hrv,List.length_reverse,List.length_take];omega
  have hm:blkN rv<=rv.length:=tw_le blkB rv
  refine calls_by (F31_calls _ w) λR hR=>⟨_,h.at_,?_⟩
  rw[wrap_in (by omega) (by omega)]
  have hfr:frontR d p=match rv.drop (blkN rv)with
      | []=>true
      | x :: _=>nlB x:=by unfold frontR blkN;rw[tw_drop,←hrv]
  refine loopUp (blkN rv) (λk t w'=>t=(p:Int) - 1 - k/\w'=w) ⟨by omega,rfl⟩ ?_
  rintro k J t w1 hk ⟨rfl,rfl⟩ hJ
  have ht:=head_test (f:=blkB) (d:=rv) (p:=0) (k:=k) hk
  rw[List.drop_zero,Nat.zero_add]at ht
  have hbn:(rv.takeWhile blkB).length=blkN rv:=rfl
  rw[hbn]at ht
  have fin:k=blkN rv->F31_1 R (some ⟨b,0,none⟩) ((p:Int) - 1 - k) [] w1:=λhkm=>by
    refine Br.of (λq=>hR _ _ ⟨?_,rfl⟩) (λq=>?_)
    · have q:=dtrue q
      rw[hfr]
      have hnil:rv.drop (blkN rv)=[]:=List.drop_eq_nil_of_le (by omega)
      rw[hnil]
    · have q:=dfalse q
      obtain⟨x,hx⟩:=at_k (l:=rv) (k:=k) (by omega)
      have hx2:d[p - 1 - k]?=some x:=by rw[←rev_get hle (by omega),←hrv];exact hx
      refine⟨_,h.s_,x,by omega,by rw[show((p:Int) - 1 - k).toNat=p - 1 - k by omega];exact bs_get hx2,hR _ _ ⟨?_,rfl⟩⟩
      rw[hfr,←hkm,drop_at hx]
      congr 2
      rw[beq_dec];unfold nlB;exact dec_eq (by omega)
  refine Br.of (λq=>?_) (λq=>fin ?_)
  · have q:=dtrue q
    obtain⟨x,hx⟩:=at_k (l:=rv) (k:=k) (by omega)
    have hx2:d[p - 1 - k]?=some x:=by rw[←rev_get hle (by omega),←hrv];exact hx
    rw[hx]at ht
    have ht:blkB x=decide (k<blkN rv):=ht
    refine⟨_,h.s_,x,by omega,by rw[show((p:Int) - 1 - k).toNat=p - 1 - k by omega];exact bs_get hx2,(isBlank_c x w1).mono ?_⟩
    rintro e w2 ⟨rfl,rfl⟩
    rw[ht]
    refine⟨_,rfl,Br.of (λq2=>?_) (λq2=>fin (by have:=dfalse q2;omega))⟩
    rw[wrap_in (by omega) (by omega)]
    exact hJ _ _ (dtrue q2) ⟨by omega,rfl⟩
  · have q:=dfalse q
    omega
theorem goesOn_c{x:UInt8}{r:List UInt8}(h:Rd w0 w b d p l bad s ts)(hd:d.drop p=x :: r):Calls Tryz.prog 34 #[.pointer (some ⟨b,0,none⟩)] w λe w'=>e=.returned (.bool (goesB r))/\w'=w:=by
  have hlim:=h.lim
  have hdl:(d.drop p).length=r.length+1:=by rw[hd];rfl
  rw[List.length_drop]at hdl
  have hr:d.drop (p+1)=r:=by rw[←List.drop_drop,hd];rfl
  have hm:blkN r<=r.length:=tw_le blkB r
  have hgo:=goesB_eq r
  refine calls_by (F34_calls _ w) λR hR=>⟨_,h.at_,?_⟩
  rw[wrap_in (by omega) (by omega)]
  refine loopUp (blkN r) (λk t w'=>t=((p+1+k:Nat):Int)/\w'=w) ⟨by omega,rfl⟩ ?_
  rintro k J t w1 hk ⟨rfl,rfl⟩ hJ
  have ht:=head_test (f:=blkB) (d:=d) (p:=p+1) (k:=k) (by rw[hr];exact hk)
  rw[hr]at ht
  have hbn:(r.takeWhile blkB).length=blkN r:=rfl
  rw[hbn]at ht
  have fin:k=blkN r->F34_1 R (some ⟨b,0,none⟩) ((p+1+k:Nat):Int) [] w1:=λhkm=>by
    rw[←hkm]at hgo
    refine⟨_,h.s_,Br.of (λq=>hR _ _ ⟨?_,rfl⟩) (λq=>?_)⟩
    · have q:=dtrue q
      rw[bs_size_i]at q
      rw[List.drop_eq_nil_of_le (by omega)]at hgo
      rw[hgo]
    · have q:=dfalse q
      rw[bs_size_i]at q
      obtain⟨y,hy⟩:=at_k (l:=d) (k:=p+1+k) (by omega)
      have hyr:r.drop k=y :: d.drop (p+1+k+1):=by rw[←hr,List.drop_drop,drop_at hy]
      rw[hyr]at hgo
      have hgo:goesB r=(nlB y || ampB (y :: d.drop (p+1+k+1))):=hgo
      have e10:(((y.toNat:Nat):Int) == 10)=nlB y:=by rw[beq_dec];unfold nlB;exact dec_eq (by omega)
      refine⟨_,h.s_,y,by omega,by rw[toNat_i];exact bs_get hy,?_⟩
      rw[e10]
      refine Br.of (λq2=>hR _ _ ⟨by rw[hgo,q2];rfl,rfl⟩) (λq2=>?_)
      rw[q2,Bool.false_or]at hgo
      have hdy:d.drop (p+1+k)=y :: d.drop (p+1+k+1):=drop_at hy
      refine⟨_,h.s_,?_⟩
      rw[wrap_in (n:=((p+1+k:Nat):Int)+1) (by omega) (by omega),wrap_in (n:=((p+1+k:Nat):Int)+2) (by omega) (by omega)]
      refine Br.of (λq3=>?_) (λq3=>hR _ _ ⟨?_,rfl⟩)
      · have q3:=dtrue q3
        rw[bs_size_i]at q3
        have e2:(((p+1+k:Nat):Int)+2).toNat=p+1+k+2:=by omega
        refine⟨_,h.s_,by omega,by rw[e2,bs_size];omega,by omega,by rw[e2,toNat_i];omega,hR _ _ ⟨?_,rfl⟩⟩
        rw[e2,toNat_i,sub_ext (by omega),show(⟨#[38,38]⟩:ByteArray)=bs [38,38]from rfl,bs_beq,ampB_take,hdy,hgo]
      · have q3:=dfalse q3
        rw[bs_size_i]at q3
        have hnil:d.drop (p+1+k+1)=[]:=List.drop_eq_nil_of_le (by omega)
        rw[hgo,hnil];rfl
  refine⟨_,h.s_,Br.of (λq=>?_) (λq=>fin ?_)⟩
  · have q:=dtrue q
    rw[bs_size_i]at q
    obtain⟨y,hy⟩:=at_k (l:=d) (k:=p+1+k) (by omega)
    rw[hy]at ht
    have ht:blkB y=decide (k<blkN r):=ht
    refine⟨_,h.s_,y,by omega,by rw[toNat_i];exact bs_get hy,(isBlank_c y w1).mono ?_⟩
    rintro e w2 ⟨rfl,rfl⟩
    rw[ht]
    refine⟨_,rfl,Br.of (λq2=>?_) (λq2=>fin (by have:=dfalse q2;omega))⟩
    rw[wrap_in (by omega) (by omega)]
    exact hJ _ _ (dtrue q2) ⟨by omega,rfl⟩
  · have q:=dfalse q
    rw[bs_size_i]at q
    omega
theorem put_c(h:Rd w0 w b d p l bad s ts)(hc:ts.length<=100000)(k:Int)(t:ByteArray){n:Nat}(hn:p+n<=d.length):Calls Tryz.prog 62 #[.pointer (some ⟨b,0,none⟩),.int .i64 k,.string t,.int .i64 (n:Int)] w λe w'=>e=unitE/\∃s',Rd w0 w' b d (p+n) true bad s' (ts ++ [⟨k,(p:Int),t⟩]):=by
  have hlim:=h.lim
  refine calls_by (F62_calls _ _ _ _ w) λR hR=>dwE_intro λw1 hp1 _=>?_
  have h1:=h.pu hp1
  refine⟨λw'=>Rd w0 w' b d p l bad s ts,h1,_,λw' h'=>h'.out,_,λw' h'=>h'.at_,alB λw2 hp2 hb2=>?_⟩
  have h2:=h1.pu hp2
  obtain⟨s',w5,hrun,hpush⟩:=h2.push (t:=⟨k,(p:Int),t⟩) hb2 hc
  refine⟨h2,s',w5,hrun,hpush _ λw6 h6=>⟨_,h6.at_,h6.st_at (p':=p+n) hn (by rw[wrap_in (by omega) (by omega)];omega) λw7 h7=>h7.st_ln λw8 h8=>hR _ _ ⟨rfl,_,h8⟩⟩⟩
theorem ends_c(h:Rd w0 w b d p l bad s ts)(hc:ts.length<=100000):Calls Tryz.prog 16 #[.pointer (some ⟨b,0,none⟩)] w λe w'=>e=unitE/\∃s',Rd w0 w' b d p false bad s' (ts ++ if l then [endT p]else []):=by
  refine calls_by (F16_calls _ w) λR hR=>⟨_,h.ln,Br.of (λq=>?_) (λq=>?_)⟩
  · subst q
    refine dwE_intro λw1 hp1 _=>?_
    have h1:=h.pu hp1
    refine⟨λw'=>Rd w0 w' b d p true bad s ts,h1,_,λw' h'=>h'.out,_,λw' h'=>h'.at_,alB λw2 hp2 hb2=>?_⟩
    have h2:=h1.pu hp2
    obtain⟨s',w5,hrun,hpush⟩:=h2.push (t:=endT p) hb2 hc
    exact⟨h2,s',w5,hrun,hpush _ λw6 h6=>h6.st_ln λw7 h7=>hR _ _ ⟨rfl,_,h7⟩⟩
  · subst q
    refine h.st_ln λw7 h7=>hR _ _ ⟨rfl,s,?_⟩
    rw[if_neg (by simp),List.append_nil];exact h7
theorem run_c(h:Rd w0 w b d p l bad s ts)(wd:Bool):Calls Tryz.prog 61 #[.pointer (some ⟨b,0,none⟩),.bool wd] w λe w'=>e=.returned (.int .i64 ((((d.drop p).takeWhile λc=>digB c || (wd && letB c)).length:Nat):Int))/\Pu w w':=by
  have hlim:=h.lim
  obtain⟨f,hf⟩:∃f:UInt8->Bool,f=λc=>digB c || (wd && letB c):=⟨_,rfl⟩
  rw[←hf]
  have hle:=tw_drop_le f d p h.le
  refine calls_by (F61_calls _ _ w) λR hR=>loopUp ((d.drop p).takeWhile f).length (λk t w'=>t=(k:Int)/\Pu w w') ⟨rfl,Pu.refl _⟩ ?_
  rintro k J t w1 hk ⟨rfl,hp1⟩ hJ
  have ht:=head_test (f:=f) (d:=d) (p:=p) hk
  refine dwE_intro λw2 hp2 _=>?_
  have h2:=h.pu (hp1.trans hp2)
  have fin:∀{w3:World},Pu w w3->¬k<((d.drop p).takeWhile f).length->F61_1 R (k:Int) [] w3:=λ{w3} hp3 h9=>hR _ _ ⟨by rw[show k=((d.drop p).takeWhile f).length by omega],hp3⟩
  refine⟨_,h2.at_,_,h2.s_,?_⟩
  rw[wrap_in (n:=(p:Int)+(k:Int)) (by omega) (by omega)]
  refine Br.of (λq=>?_) (λq=>fin (hp1.trans hp2) (by have:=dfalse q;rw[bs_size_i]at this;omega))
  have q:=dtrue q
  rw[bs_size_i]at q
  obtain⟨x,hx⟩:=at_k (l:=d) (k:=p+k) (by omega)
  rw[hx]at ht
  have ht:f x=decide (k<((d.drop p).takeWhile f).length):=ht
  refine dwE_intro λw3 hp3 _=>?_
  have h3:=h2.pu hp3
  have hP3:=(hp1.trans hp2).trans hp3
  refine⟨_,h3.s_,_,h3.at_,x,?_⟩
  rw[wrap_in (n:=(p:Int)+(k:Int)) (by omega) (by omega)]
  refine⟨by omega,by rw[show((p:Int)+(k:Int)).toNat=p+k by omega];exact bs_get hx,(isDigit_c x w3).mono ?_⟩
  rintro e w4 ⟨rfl,hp4⟩
  have hP4:=hP3.trans hp4
  have nxt:∀{w5:World},Pu w w5->f x=true->J (IntKind.i64.wrap ((k:Int)+1)) w5:=λ{w5} hp5 hfx=>by
    rw[ht]at hfx
    have:=dtrue hfx
    rw[wrap_in (by omega) (by omega)]
    exact hJ _ _ this ⟨by omega,hp5⟩
  have stp:∀{w5:World},Pu w w5->f x=false->F61_1 R (k:Int) [] w5:=λ{w5} hp5 hfx=>fin hp5 (by rw[ht]at hfx;exact dfalse hfx)
  refine⟨_,rfl,Br.of (λq2=>Br.of (λq3=>(isLetter_c x w4).mono ?_) (λq3=>stp hP4 ?_)) (λq2=>nxt hP4 ?_)⟩
  · have q2:digB x=false:=by simpa using q2
    rintro e w5 ⟨rfl,rfl⟩
    refine⟨_,rfl,Br.of (λq4=>stp hP4 ?_) (λq4=>nxt hP4 ?_)⟩
    · have q4:letB x=false:=by simpa using q4
      rw[hf];simp[q2,q4]
    · have q4:letB x=true:=by simpa using q4
      rw[hf];simp[q3,q4]
  · have q2:digB x=false:=by simpa using q2
    rw[hf];simp[q2,q3]
  · have q2:digB x=true:=by simpa using q2
    rw[hf];simp[q2]
end Go.Proofs.YtjbfehippchniaaGreatDoor
