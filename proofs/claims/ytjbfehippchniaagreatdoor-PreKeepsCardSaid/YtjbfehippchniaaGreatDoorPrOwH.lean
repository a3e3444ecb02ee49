import Derived.Test.YtjbfehippchniaaGreatDoorPrOwG
import Derived.Test.YtjbfehippchniaaGreatDoorPrPrB
import Derived.Test.YtjbfehippchniaaGreatDoorPrOwE
/- Pre: the reader of rules: markers. No condition but those stated. -/
set_option maxRecDepth 100000
set_option linter.unusedVariables false
set_option linter.unusedSimpArgs false
namespace Go.Proofs.YtjbfehippchniaaGreatDoor
open Go.Sh Go.Sh.Lx Go.Sh.Pr Go.RowKit Go.Shelf
variable {w0 w w' : World} {r i : Nat} {d : List UInt8} {f : Bool}
theorem fr_pu (h:Fr (·=r) w w') {w2:World} (k:Pu w' w2):Fr (·=r) w w2:=h.trans (Fr.pu k:Fr (·=r) w' w2) λ_ hi _=>hi
theorem pu_fr (h:Pu w w') {w2:World} (k:Fr (·=r) w' w2):Fr (·=r) w w2:=(Fr.pu h:Fr (·=r) w w').trans k λ_ hi _=>hi
theorem fr_fr (h:Fr (·=r) w w') {w2:World} (k:Fr (·=r) w' w2):Fr (·=r) w w2:=h.trans k λ_ hi _=>hi
def hasS(d:List UInt8)(i:Nat)(u:List UInt8):Bool:=decide ((d.drop i).take u.length=u)
theorem hasS_le{u:List UInt8}(h:hasS d i u=true):i+u.length<=d.length∨u=[]:=by
  have h:=of_decide_eq_true h
  have:=congrArg List.length h
  rw[List.length_take,List.length_drop]at this
  by_cases hu:u=[]
  · exact .inr hu
  · have:=List.length_pos_iff.2 hu
    exact .inl (by omega)
theorem take_c (h:Rdx w0 w r d i f) (u:List UInt8) (hu:u ≠ []) (hul:u.length<=100):Calls Tryz.prog 135 #[.pointer (some ⟨r,0,none⟩),.string (bs u)] w λe w'=>e=.returned (.bool (hasS d i u))/\Rdx w0 w' r d (if hasS d i u then i+u.length else i) f/\Fr (·=r) w w':=by
  have hle:=h.le
  have hlim:=h.lim
  refine calls_by (F135_calls _ _ w) λR hR=>dwE_intro λw1 hp1 _=>?_
  have h1:=h.pu hp1
  refine⟨_,cl0 h1.blk,_,cl h1.blk 1,Nat.le_refl _,by omega,by rw[bs_size,toNat_i];omega,?_⟩
  rw[toNat_i,extract_drop]
  refine(hasPrefix_c (d.drop i) u w1).mono ?_
  rintro e w2 ⟨rfl,rfl⟩
  refine⟨_,rfl,?_⟩
  show Br (!hasS d i u) _ _
  cases hh:hasS d i u with
  | false=>
    rw[hh]at hR
    exact Br.t rfl (hR _ _ ⟨rfl,h1,Fr.pu hp1⟩)
  | true=>
    have hl:=(hasS_le hh).resolve_right hu
    rw[hh]at hR
    refine Br.f rfl ⟨_,cl h1.blk 1,?_⟩
    rw[bs_size,wrap_in (by omega) (by omega)]
    exact h1.st (j:=i+u.length) hl (by omega) λw3 h3 f3=>hR _ _ ⟨rfl,h3,pu_fr hp1 f3⟩
structure Pt where
  kind:Int
  t:Tok
  nm:ByteArray
def ptV(p:Pt):List Value:=[.int .i64 p.kind,.int .i64 p.t.kind,.int .i64 p.t.at_,.string p.t.text,.string p.nm,.slice none 0 0,.slice none 0 0]
def zT0:Tok:=⟨0,0,⟨#[]⟩⟩
def mkP(n:List UInt8):Pt:=⟨1,zT0,bs n⟩
def flatB(c:UInt8):Bool:=!([34,46,44,58,91,93,92]:List UInt8).contains c
def Flat(d:List UInt8):Prop:=d.all flatB=true
theorem flat_no(h:Flat d){c:UInt8}{u:List UInt8}(hc:flatB c=false):hasS d i (c :: u)=false:=by
  refine decide_eq_false λe=>?_
  have hm:c ∈ d:=by
    have:c ∈ (d.drop i).take (c :: u).length:=by rw[e];exact List.mem_cons_self ..
    exact List.mem_of_mem_drop (List.mem_of_mem_take this)
  have:=List.all_eq_true.1 h c hm
  rw[hc]at this;cases this
theorem take_no (hf:Flat d) (h:Rdx w0 w r d i f) {c:UInt8} {u:List UInt8} (hc:flatB c=false) (hul:(c :: u).length<=100):Calls Tryz.prog 135 #[.pointer (some ⟨r,0,none⟩),.string (bs (c :: u))] w λe w'=>e=.returned (.bool false)/\Rdx w0 w' r d i f/\Fr (·=r) w w':=by
  have:=take_c h (c :: u) (by simp) hul
  rw[flat_no hf hc]at this
  exact this
def marksS(d:List UInt8)(i:Nat):Option (List UInt8 × Nat):=
  if hasS d i [60]then(if hasS d (i+1+(wdS d (i+1)).length) [62]then some ((wdS d (i+1)).map capU,i+1+(wdS d (i+1)).length+1)else none)else none
def markS(d:List UInt8)(i:Nat):Option (List UInt8 × Nat):=match marksS d i with
  | some (n,j)=>if isNameS n then some (n,j)else none
  | none=>none
def partE(v:Array Value)(b:Bool):Ending:=.returned (.tuple #[.agg v,.bool b])
def MarksR(w0 w:World)(r:Nat)(d:List UInt8)(i:Nat)(f:Bool):Rt:=λe w'=>Fr (·=r) w w'/\match marksS d i with
  | some (n,j)=>e=partE (ptV (mkP n)).toArray true/\Rdx w0 w' r d j f
  | none=>(∃p:Pt,e=partE (ptV p).toArray false)/\∃j,Rdx w0 w' r d j f
theorem size128:sizeB Tryz.prog 128=7:=by kernel_rfl
def pz:Array Value:=#[.int .i64 0,.int .i64 0,.int .i64 0,.string (⟨#[]⟩:ByteArray),.string (⟨#[]⟩:ByteArray),.slice none 0 0,.slice none 0 0]
theorem stP {b:Nat} {c:Array Value} (p:Pt) (hb:w.heap[b]?=some (.cells c 128)) (hc:c.size=7) {K:World->Prop} (hK:∀w',w'.heap[b]?=some (.cells (ptV p).toArray 128)->Fr (·=b) w w'->K w'):stA Tryz.prog 128 ⟨b,0,none⟩ (ptV p).toArray w K:=by
  refine⟨by rw[size128];rfl,rfl,?_⟩
  refine stL_fill (ptV p) 0 c w K hb (by rw[hc];rfl) λw' h1 h2 h3 h4 h5 h6=>hK w' ?_ ⟨h4,h5,h6,by omega,λk hk hn=>h3 k hn⟩
  rw[h1];rfl
theorem ldP {b:Nat} {p:Pt} {b5:Bool} {R:Rt} (hb:w.heap[b]?=some (.cells (ptV p).toArray 128)) (h:R (partE (ptV p).toArray b5) w) :
    ∃nR0_0:Int,w.cell? ((⟨b,0,none⟩:Addr).add 0)=some (.int .i64 nR0_0)/\∃nR0_1:Int,w.cell? ((⟨b,0,none⟩:Addr).add 1)=some (.int .i64 nR0_1)/\∃nR0_2:Int,w.cell? ((⟨b,0,none⟩:Addr).add 2)=some (.int .i64 nR0_2)/\
    ∃sR0_3:ByteArray,w.cell? ((⟨b,0,none⟩:Addr).add 3)=some (.string sR0_3)/\∃sR0_4:ByteArray,w.cell? ((⟨b,0,none⟩:Addr).add 4)=some (.string sR0_4)/\
    ∃lR0_5:SV,w.cell? ((⟨b,0,none⟩:Addr).add 5)=some (.slice lR0_5.a lR0_5.len lR0_5.cap)/\∃lR0_6:SV,w.cell? ((⟨b,0,none⟩:Addr).add 6)=some (.slice lR0_6.a lR0_6.len lR0_6.cap)/\
    R (.returned (.tuple #[.agg #[.int .i64 nR0_0,.int .i64 nR0_1,.int .i64 nR0_2,.string sR0_3,.string sR0_4,.slice lR0_5.a lR0_5.len lR0_5.cap,.slice lR0_6.a lR0_6.len lR0_6.cap],.bool b5])) w:=
  ⟨_,cl hb 0,_,cl hb 1,_,cl hb 2,_,cl hb 3,_,cl hb 4,⟨none,0,0⟩,cl hb 5,⟨none,0,0⟩,cl hb 6,h⟩
theorem Rdx.fr2 (h:Rdx w0 w r d i f) {b:Nat} (hb:b ≠ r) (hn:w0.heap.size<=b) (hf:Fr (·=b) w w'):Rdx w0 w' r d i f:=
  ⟨h.since.andNew hf λk hk=>by rw[show k=b from hk];exact hn,h.new,hf.blk h.blk λe=>hb e.symm,h.le,h.lim⟩
theorem fr_new {b:Nat} (h:Fr (·=r) w w') (hn:w.heap.size<=b) {w2:World} (k:Fr (·=b) w' w2):Fr (·=r) w w2:=h.trans k λj hj hlt=>by rw[show j=b from hj]at hlt;omega
set_option maxHeartbeats 1000000 in
theorem marks_c(hL:Laid w0)(hd:d.length<=4000)(hF:Flat d)(h:Rdx w0 w r d i f):Calls Tryz.prog 158 #[.pointer (some ⟨r,0,none⟩)] w (MarksR w0 w r d i f):=by
  have hrlt:=blk_lt h.blk
  have hws:=h.since.size
  have hle:=h.le
  refine calls_by (F158_calls _ w) λR hR=>alB λw1 hp1 hb1=>?_
  have h1:=h.pu hp1
  have hz1:=blk_lt hb1
  have e60:(⟨#[60]⟩:ByteArray)=bs [60]:=rfl
  rw[e60]
  refine(take_c h1 [60] (by simp) (by simp)).mono ?_
  rintro e w2 ⟨rfl,h2,f2⟩
  have f02:=pu_fr hp1 f2
  have hb2:=f2.blk hb1 (by omega)
  refine⟨_,rfl,?_⟩
  cases hh:hasS d i [60]with
  | false=>
    rw[hh]at h2
    have hms:marksS d i=none:=by unfold marksS;rw[hh];rfl
    refine Br.t rfl (stP ⟨0,zT0,⟨#[]⟩⟩ hb2 rfl λw3 hb3 f3=>ldP (b5:=false) hb3 (hR _ _ ⟨fr_new f02 (Nat.le_refl _) f3,?_⟩))
    rw[hms]
    exact⟨⟨_,rfl⟩,_,h2.fr2 (by omega) hws f3⟩
  | true=>
    rw[hh]at h2
    have h2:Rdx w0 w2 r d (i+1) f:=h2
    refine Br.f rfl (alB λw3 hp3 hb3=>?_)
    have hz2:=f2.size
    refine stP ⟨1,zT0,⟨#[]⟩⟩ hb3 rfl λw4 hb4 f4=>?_
    have h4:=(h2.pu hp3).fr2 (b:=w2.heap.size) (by omega) (by omega) f4
    have f04:=fr_new (fr_pu f02 hp3) (by omega) f4
    have hb42:=f4.blk (hp3.blk hb2) (by omega)
    rw[ptrE_some]
    refine⟨_,cl h4.blk 2,?_⟩
    -- behind the opening: the name, the end
    have rest:∀w5:World,Rdx w0 w5 r d (i+1) f->Fr (·=r) w4 w5->F158_17 R (some ⟨r,0,none⟩) (some ⟨w.heap.size,0,none⟩) (⟨#[62]⟩:ByteArray) (some ⟨w2.heap.size,0,none⟩) [] w5:=λw5 h5 f5=>by
      have hb5:=f5.blk hb4 (by omega)
      have hb52:=f5.blk hb42 (by omega)
      have f05:=fr_fr f04 f5
      refine(wordR_c hL hd h5).mono ?_
      rintro e w6 ⟨rfl,h6,f6⟩
      refine⟨_,rfl,?_⟩
      have hb6:=f6.blk hb5 (by omega)
      have hb62:=f6.blk hb52 (by omega)
      have f06:=fr_fr f05 f6
      rw[ptrE_some,add_def]
      refine st1_intro (o:=0+4) hb6 (by show 0+4<7;omega) λw7 hw7 hb7=>?_
      have f7:Fr (·=w2.heap.size) w6 w7:=by rw[hw7];exact Fr.setCell w6 ⟨_,4,none⟩ _
      have hb7:w7.heap[w2.heap.size]?=some (.cells (ptV (mkP ((wdS d (i+1)).map capU))).toArray 128):=hb7
      have hb72:=f7.blk hb62 (by omega)
      have h7:=h6.fr2 (b:=w2.heap.size) (by omega) (by omega) f7
      have f07:=fr_new f06 (by omega) f7
      -- the end
      have fin:∀w8:World,Rdx w0 w8 r d (i+1+(wdS d (i+1)).length) f->Fr (·=r) w7 w8->F158_1 R (some ⟨r,0,none⟩) (some ⟨w.heap.size,0,none⟩) (⟨#[62]⟩:ByteArray) (some ⟨w2.heap.size,0,none⟩) [] w8:=λw8 h8 f8=>by
        have hb8:=f8.blk hb7 (by omega)
        have hb82:=f8.blk hb72 (by omega)
        have f08:=fr_fr f07 f8
        refine dwE_intro λw9 hp9 _=>?_
        have hb9:=hp9.blk hb8
        have hb92:=hp9.blk hb82
        have e62:(⟨#[62]⟩:ByteArray)=bs [62]:=rfl
        refine⟨λw'=>w'.heap[w2.heap.size]?=some (.cells (ptV (mkP ((wdS d (i+1)).map capU))).toArray 128),hb9,?_⟩
        rw[ptrE_some]
        refine⟨_,λw' h'=>cl h' 0,_,λw' h'=>cl h' 1,_,λw' h'=>cl h' 2,_,λw' h'=>cl h' 3,_,λw' h'=>cl h' 4,⟨none,0,0⟩,λw' h'=>cl h' 5,⟨none,0,0⟩,λw' h'=>cl h' 6,?_⟩
        rw[e62]
        refine(take_c (h8.pu hp9) [62] (by simp) (by simp)).mono ?_
        rintro e w10 ⟨rfl,h10,f10⟩
        have hb10:=f10.blk hb9 (by omega)
        have hb102:=f10.blk hb92 (by omega)
        have f010:=fr_fr (fr_pu f08 hp9) f10
        refine⟨_,rfl,hb10,?_⟩
        rw[ptrE_some]
        refine stP (mkP ((wdS d (i+1)).map capU)) hb102 rfl λw11 hb11 f11=>?_
        have h11:=h10.fr2 (b:=w.heap.size) (by omega) hws f11
        have f011:=fr_new f010 (Nat.le_refl _) f11
        have hfin:R (partE (ptV (mkP ((wdS d (i+1)).map capU))).toArray (hasS d (i+1+(wdS d (i+1)).length) [62])) w11:=hR _ _ ⟨f011,by
          cases hh2:hasS d (i+1+(wdS d (i+1)).length) [62]with
          | false=>
            have hms:marksS d i=none:=by unfold marksS;rw[hh,hh2];rfl
            rw[hms]
            exact⟨⟨_,rfl⟩,_,h11⟩
          | true=>
            have hms:marksS d i=some ((wdS d (i+1)).map capU,i+1+(wdS d (i+1)).length+1):=by unfold marksS;rw[hh,hh2];rfl
            rw[hms]
            rw[hh2]at h11
            exact⟨rfl,h11⟩⟩
        exact ldP hb11 hfin
      rw[show F158_15 R (some ⟨r,0,none⟩) (some ⟨w.heap.size,0,none⟩) (⟨#[62]⟩:ByteArray) (some ⟨w2.heap.size,0,none⟩) [] w7=(ptrE (some ⟨r,0,none⟩:Option Addr) λa36=>∃b38:Bool,w7.cell? (a36.add 2)=some (.bool b38)/\F158_14 R (some ⟨r,0,none⟩) (some ⟨w.heap.size,0,none⟩) (⟨#[62]⟩:ByteArray) (some ⟨w2.heap.size,0,none⟩) b38 [] w7)from rfl,ptrE_some]
      refine⟨_,cl h7.blk 2,?_⟩
      unfold F158_14
      refine Br.of (λ_=>fin w7 h7 (Fr.refl _ _)) (λ_=>?_)
      have e44:(⟨#[44,46,46,46]⟩:ByteArray)=bs [44,46,46,46]:=rfl
      have e58:(⟨#[58]⟩:ByteArray)=bs [58]:=rfl
      unfold F158_13
      rw[e44]
      refine(take_no hF h7 (by decide) (by simp)).mono ?_
      rintro e w8 ⟨rfl,h8,f8⟩
      refine⟨_,rfl,Br.f rfl ?_⟩
      unfold F158_11
      rw[e58]
      refine(take_no hF h8 (by decide) (by simp)).mono ?_
      rintro e w9 ⟨rfl,h9,f9⟩
      exact⟨_,rfl,Br.f rfl (fin w9 h9 (fr_fr f8 f9))⟩
    have e34:(⟨#[34]⟩:ByteArray)=bs [34]:=rfl
    have e46:(⟨#[46]⟩:ByteArray)=bs [46]:=rfl
    refine Br.of (λhf=>?_) (λhf=>?_)
    · rw[e34]
      refine(take_no hF h4 (by decide) (by simp)).mono ?_
      rintro e w5 ⟨rfl,h5,f5⟩
      refine⟨_,rfl,Br.f rfl ?_⟩
      rw[ptrE_some]
      refine⟨_,cl h5.blk 2,?_⟩
      rw[hf]
      refine Br.t rfl ?_
      rw[e46]
      refine(take_no hF h5 (by decide) (by simp)).mono ?_
      rintro e w6 ⟨rfl,h6,f6⟩
      exact⟨_,rfl,Br.f rfl (rest w6 h6 (fr_fr f5 f6))⟩
    · rw[ptrE_some]
      refine⟨_,cl h4.blk 2,?_⟩
      rw[hf]
      exact Br.f rfl (rest w4 h4 (Fr.refl _ _))
def MarkR(w0 w:World)(r:Nat)(d:List UInt8)(i:Nat)(f:Bool):Rt:=λe w'=>Fr (·=r) w w'/\match markS d i with
  | some (n,j)=>e=partE (ptV (mkP n)).toArray true/\Rdx w0 w' r d j f
  | none=>(∃p:Pt,e=partE (ptV p).toArray false)/\Rdx w0 w' r d i f
theorem mark_c(hL:Laid w0)(hd:d.length<=4000)(hF:Flat d)(h:Rdx w0 w r d i f):Calls Tryz.prog 136 #[.pointer (some ⟨r,0,none⟩)] w (MarkR w0 w r d i f):=by
  have hrlt:=blk_lt h.blk
  have hws:=h.since.size
  have hle:=h.le
  refine calls_by (F136_calls _ w) λR hR=>alB λw1 hp1 hb1=>?_
  have h1:=h.pu hp1
  rw[ptrE_some]
  refine⟨_,cl h1.blk 1,(marks_c hL hd hF h1).mono ?_⟩
  rintro e w2 ⟨f2,h2⟩
  have f02:=pu_fr hp1 f2
  have hz1:=blk_lt hb1
  have hb2:=f2.blk hb1 (by omega)
  have hz2:=f2.size
  -- nothing: back to where it was
  have back:∀{w3:World} {j:Nat},Rdx w0 w3 r d j f->Fr (·=r) w w3->w3.heap[w.heap.size]?=some (.cells pz 128)->markS d i=none->ptrE (some ⟨r,0,none⟩:Option Addr) λa6=>st1 (a6.add 1) (.int .i64 (i:Int)) w3 λw7=>stA Tryz.prog 128 (⟨w.heap.size,0,none⟩:Addr) pz w7 λw8=>
      ∃nR0_0:Int,w8.cell? ((⟨w.heap.size,0,none⟩:Addr).add 0)=some (.int .i64 nR0_0)/\∃nR0_1:Int,w8.cell? ((⟨w.heap.size,0,none⟩:Addr).add 1)=some (.int .i64 nR0_1)/\∃nR0_2:Int,w8.cell? ((⟨w.heap.size,0,none⟩:Addr).add 2)=some (.int .i64 nR0_2)/\
      ∃sR0_3:ByteArray,w8.cell? ((⟨w.heap.size,0,none⟩:Addr).add 3)=some (.string sR0_3)/\∃sR0_4:ByteArray,w8.cell? ((⟨w.heap.size,0,none⟩:Addr).add 4)=some (.string sR0_4)/\
      ∃lR0_5:SV,w8.cell? ((⟨w.heap.size,0,none⟩:Addr).add 5)=some (.slice lR0_5.a lR0_5.len lR0_5.cap)/\∃lR0_6:SV,w8.cell? ((⟨w.heap.size,0,none⟩:Addr).add 6)=some (.slice lR0_6.a lR0_6.len lR0_6.cap)/\
      R (.returned (.tuple #[.agg #[.int .i64 nR0_0,.int .i64 nR0_1,.int .i64 nR0_2,.string sR0_3,.string sR0_4,.slice lR0_5.a lR0_5.len lR0_5.cap,.slice lR0_6.a lR0_6.len lR0_6.cap],.bool false])) w8:=λ{w3 j} h3 f3 hb3 hm=>by
    refine h3.st (j:=i) hle rfl λw4 h4 f4=>?_
    have hb4:=f4.blk hb3 (by omega)
    refine stP ⟨0,zT0,⟨#[]⟩⟩ hb4 rfl λw5 hb5 f5=>ldP (b5:=false) hb5 (hR _ _ ⟨fr_new (fr_fr f3 f4) (Nat.le_refl _) f5,?_⟩)
    rw[hm]
    exact⟨⟨_,rfl⟩,h4.fr2 (by omega) hws f5⟩
  cases hms:marksS d i with
  | none=>
    rw[hms]at h2
    obtain⟨⟨p,rfl⟩,j,h2⟩:=h2
    have hm:markS d i=none:=by unfold markS;rw[hms]
    refine⟨_,_,_,_,_,⟨none,0,0⟩,⟨none,0,0⟩,_,rfl,alB λw3 hp3 hb3=>?_⟩
    refine stP p hb3 rfl λw4 hb4 f4=>?_
    exact Br.t rfl (back ((h2.pu hp3).fr2 (b:=w2.heap.size) (by omega) (by omega) f4) (fr_new (fr_pu f02 hp3) (by omega) f4) (f4.blk (hp3.blk hb2) (by omega)) hm)
  | some q=>
    obtain⟨n,j⟩:=q
    rw[hms]at h2
    obtain⟨rfl,h2⟩:=h2
    refine⟨_,_,_,_,_,⟨none,0,0⟩,⟨none,0,0⟩,_,rfl,alB λw3 hp3 hb3=>?_⟩
    refine stP (mkP n) hb3 rfl λw4 hb4 f4=>?_
    have h4:=(h2.pu hp3).fr2 (b:=w2.heap.size) (by omega) (by omega) f4
    have f04:=fr_new (fr_pu f02 hp3) (by omega) f4
    have hb42:=f4.blk (hp3.blk hb2) (by omega)
    refine Br.f rfl ⟨_,cl hb4 4,(name_c n w4).mono ?_⟩
    rintro e w5 ⟨rfl,hp5⟩
    have hb5:=hp5.blk hb4
    have hb52:=hp5.blk hb42
    refine⟨_,rfl,?_⟩
    cases hn:isNameS n with
    | false=>
      have hm:markS d i=none:=by unfold markS;rw[hms];dsimp only;rw[hn];rfl
      exact Br.t rfl (back (h4.pu hp5) (fr_pu f04 hp5) hb52 hm)
    | true=>
      have hm:markS d i=some (n,j):=by unfold markS;rw[hms];dsimp only;rw[hn];rfl
      refine Br.f rfl ⟨_,cl hb5 0,_,cl hb5 1,_,cl hb5 2,_,cl hb5 3,_,cl hb5 4,⟨none,0,0⟩,cl hb5 5,⟨none,0,0⟩,cl hb5 6,?_⟩
      refine stP (mkP n) hb52 rfl λw6 hb6 f6=>ldP (b5:=true) hb6 (hR _ _ ⟨fr_new (fr_pu f04 hp5) (Nat.le_refl _) f6,?_⟩)
      rw[hm]
      exact⟨rfl,(h4.pu hp5).fr2 (by omega) hws f6⟩
end Go.Proofs.YtjbfehippchniaaGreatDoor

/- Pre: the reader of rules: tokens, rows. No condition but those stated. -/
set_option maxRecDepth 100000
set_option linter.unusedVariables false
set_option linter.unusedSimpArgs false
namespace Go.Proofs.YtjbfehippchniaaGreatDoor
open Go.Sh Go.Sh.Lx Go.Sh.Pr Go.RowKit Go.Shelf
variable {w0 w w' : World} {r i : Nat} {d : List UInt8} {f : Bool}
def Asc(d:List UInt8):Prop:=d.all (λc=>decide (c.toNat<128))=true
theorem Asc.at{c:UInt8}(h:Asc d)(hc:c ∈ d):c.toNat<128:=of_decide_eq_true (List.all_eq_true.1 h c hc)
theorem wrap32:∀k:Nat,k<128->IntKind.i32.wrap (k:Int)=(k:Int):=by decide +kernel
def lastBad(x:List UInt8):Bool:=match x.getLast? with
  | some c=>([32,9,59]:List UInt8).contains c
  | none=>false
def tkC(x:List UInt8):Option Tok:=
  if (lexF ([40,32] ++ x)).2.2=0 then(match (lexF ([40,32] ++ x)).1 with
    | [_,t,_]=>if lastBad x then none else if Lib.contains x [38,38]then none else some (zT t)
    | _=>none)else none
def tkG(d:List UInt8)(i:Nat):Nat->Option (Tok × Nat)
  | 0=>none
  | e+1=>if e+1<=i then none else match tkC ((d.take (e+1)).drop i)with
    | some t=>some (t,e+1)
    | none=>tkG d i e
def tokE(t:Tok)(b:Bool):Ending:=.returned (.tuple #[.agg (tokV t).toArray,.bool b])
def TokRR(w0 w:World)(r:Nat)(d:List UInt8)(i:Nat)(f:Bool):Rt:=λe w'=>Fr (·=r) w w'/\match tkG d i d.length with
  | some (t,j)=>e=tokE t true/\Rdx w0 w' r d j f
  | none=>(∃t,e=tokE t false)/\Rdx w0 w' r d i f
theorem size30:sizeB Tryz.prog 30=3:=by kernel_rfl
theorem stT {b:Nat} {c:Array Value} (t:Tok) (hb:w.heap[b]?=some (.cells c 30)) (hc:c.size=3) {K:World->Prop} (hK:∀w',w'.heap[b]?=some (.cells (tokV t).toArray 30)->Fr (·=b) w w'->K w'):stA Tryz.prog 30 ⟨b,0,none⟩ (tokV t).toArray w K:=by
  refine⟨by rw[size30];rfl,rfl,?_⟩
  refine stL_fill (tokV t) 0 c w K hb (by rw[hc];rfl) λw' h1 h2 h3 h4 h5 h6=>hK w' ?_ ⟨h4,h5,h6,by omega,λk hk hn=>h3 k hn⟩
  rw[h1];rfl
theorem ldT {b:Nat} {t:Tok} {b5:Bool} {R:Rt} (hb:w.heap[b]?=some (.cells (tokV t).toArray 30)) (h:R (tokE t b5) w) :
    ∃n0:Int,w.cell? ((⟨b,0,none⟩:Addr).add 0)=some (.int .i64 n0)/\∃n1:Int,w.cell? ((⟨b,0,none⟩:Addr).add 1)=some (.int .i64 n1)/\∃s2:ByteArray,w.cell? ((⟨b,0,none⟩:Addr).add 2)=some (.string s2)/\R (.returned (.tuple #[.agg #[.int .i64 n0,.int .i64 n1,.string s2],.bool b5])) w:=
  ⟨_,cl hb 0,_,cl hb 1,_,cl hb 2,h⟩
theorem amps_c(hM:MaxL w)(x:List UInt8)(hx:x.length<=4000):Calls Tryz.prog 36 #[.string (bs x),.string (⟨#[38,38]⟩:ByteArray)] w λe w'=>e=.returned (.bool (Lib.contains x [38,38]))/\w'=w:=by
  obtain⟨m,hm⟩:=hM
  have:=Any.strings_Contains Tryz.lays144 (bs x) ⟨#[38,38]⟩ m w (by rw[bs_size];omega) hm
  rw[bs_list]at this
  exact this
theorem rune_c(c:UInt8)(hc:c.toNat<128)(w:World):Calls Tryz.prog 140 #[.string (⟨#[32,9,59]⟩:ByteArray),.int .i32 (IntKind.i32.wrap ((c.toNat:Nat):Int))] w λe w'=>e=.returned (.bool (([32,9,59]:List UInt8).contains c))/\w'=w:=by
  rw[wrap32 _ hc]
  refine(Any.strings_ContainsRune_ascii Tryz.lays151 ⟨#[32,9,59]⟩ ((c.toNat:Nat):Int) w (by omega) (by omega)).mono ?_
  rintro e w' ⟨rfl,rfl⟩
  have e1:(((c.toNat:Nat):Int)).toNat.toUInt8=c:=by rw[toNat_i];simp[Nat.toUInt8]
  rw[e1]
  have e2:(⟨#[32,9,59]⟩:ByteArray).data.toList=[32,9,59]:=rfl
  rw[e2,contains_index]
  exact⟨rfl,rfl⟩
set_option maxHeartbeats 1000000 in
theorem rtok_c(hL:Laid w0)(hM:MaxL w0)(hd:d.length<=4000)(hA:Asc d)(h:Rdx w0 w r d i f):Calls Tryz.prog 137 #[.pointer (some ⟨r,0,none⟩)] w (TokRR w0 w r d i f):=by
  have hrlt:=blk_lt h.blk
  have hws:=h.since.size
  have hle:=h.le
  refine calls_by (F137_calls _ w) λR hR=>alB λw1 hp1 hb1=>?_
  have h1:=h.pu hp1
  have hz1:=blk_lt hb1
  rw[ptrE_some]
  refine⟨_,cl0 h1.blk,?_⟩
  rw[bs_size]
  refine loopUp (d.length - i) (λk n w'=>n=((d.length - k:Nat):Int)/\Rdx w0 w' r d i f/\Pu w w'/\(∃c,w'.heap[w.heap.size]?=some (.cells c 30)/\c.size=3)/\tkG d i d.length=tkG d i (d.length - k)) ⟨rfl,h1,hp1,⟨_,hb1,rfl⟩,rfl⟩ ?_
  rintro k J n w2 hk ⟨rfl,h2,hp2,⟨c2,hb2,hc2⟩,he⟩ hJ
  rw[show F137_2 R J (some ⟨r,0,none⟩) (some ⟨w.heap.size,0,none⟩) ((d.length - k:Nat):Int) [] w2=_ from rfl]
  unfold F137_2
  rw[ptrE_some]
  refine⟨_,cl h2.blk 1,Br.of (λq=>?_) (λq=>?_)⟩
  · have q:((d.length - k:Nat):Int) > (i:Int):=dtrue q
    obtain⟨e,hee⟩:∃e,d.length - k=e+1:=⟨d.length - k - 1,by omega⟩
    rw[hee]at he ⊢
    obtain⟨x,hx⟩:∃x,x=(d.take (e+1)).drop i:=⟨_,rfl⟩
    have hxl:x.length=e+1 - i:=by rw[hx,List.length_drop,List.length_take];omega
    have hg:tkG d i (e+1)=match tkC x with
        | some t=>some (t,e+1)
        | none=>tkG d i e:=by
      conv=>lhs;unfold tkG
      rw[if_neg (by omega),hx]
    rw[hg]at he
    -- not this one
    have next:∀{w3:World},Pu w2 w3->tkC x=none->J (IntKind.i64.wrap (((e+1:Nat):Int) - 1)) w3:=λ{w3} hp3 hn=>by
      rw[hn]at he
      rw[wrap_in (by omega) (by omega)]
      exact hJ _ _ (by omega) ⟨by omega,h2.pu hp3,hp2.trans hp3,⟨c2,hp3.blk hb2,hc2⟩,by rw[he,show d.length - (k+1)=e by omega]⟩
    have next2:∀{w3:World},Pu w2 w3->tkC x=none->J (((e+1:Nat):Int) - 1) w3:=λ{w3} hp3 hn=>by
      have:=next hp3 hn
      rwa [wrap_in (by omega) (by omega)]at this
    refine dwE_intro λw3 hp3 _=>?_
    have h3:=h2.pu hp3
    rw[ptrE_some]
    refine⟨_,cl0 h3.blk,?_⟩
    rw[ptrE_some]
    have e40:(⟨#[40,32]⟩:ByteArray)=bs [40,32]:=rfl
    refine⟨_,cl h3.blk 1,by omega,by rw[bs_size];omega,by omega,by omega,?_⟩
    rw[toNat_i,toNat_i,extract_take,←hx,e40,bs_append]
    refine⟨by rw[bs_size,bs_size,hxl];simp;omega,?_⟩
    refine(lex_c (hL.pu h3.since) ([40,32] ++ x) (by simp;omega)).mono ?_
    rintro e4 w4 ⟨hp4,s4,rfl,hs4⟩
    have hsl:=hs4.len
    refine⟨s4,_,_,rfl,dwE_intro λw5 hp5 _=>?_⟩
    have hp25:=hp3.trans (hp4.trans hp5)
    have h5:=h2.pu hp25
    have hs5:=hs4.pu hp5
    refine⟨λw'=>w'=w5,rfl,Br.of (λq1=>?_) (λq1=>next hp25 ?_)⟩
    · have q1:(lexF ([40,32] ++ x)).2.2=0:=btrue q1
      refine Br.of (λq2=>?_) (λq2=>next hp25 ?_)
      · have q2:((s4.len:Nat):Int)=3:=btrue q2
        obtain⟨t0,t1,t2,hts⟩:∃t0 t1 t2,(lexF ([40,32] ++ x)).1=[t0,t1,t2]:=by
          have h3l:(lexF ([40,32] ++ x)).1.length=3:=by omega
          match (lexF ([40,32] ++ x)).1,h3l with
          | [a,b,c],_=>exact⟨a,b,c,rfl⟩
        rw[hts]at hs5
        have htk:tkC x=if lastBad x then none else if Lib.contains x [38,38]then none else some (zT t1):=by unfold tkC;rw[if_pos q1,hts]
        obtain⟨c,hc⟩:=at_k (l:=d) (k:=e) (by omega)
        have hcl:lastBad x=([32,9,59]:List UInt8).contains c:=by
          have:x.getLast?=some c:=by
            rw[List.getLast?_eq_getElem?,hxl,hx,List.getElem?_drop,List.getElem?_take,if_pos (by omega),show i+(e+1 - i - 1)=e by omega,hc]
          unfold lastBad;rw[this]
        rw[ptrE_some,wrap_in (by omega) (by omega)]
        refine⟨_,λw' hw=>by subst hw;exact cl0 h5.blk,c,by omega,by rw[show(((e+1:Nat):Int) - 1).toNat=e by omega];exact bs_get hc,(rune_c c (hA.at (List.mem_of_getElem? hc)) w5).mono ?_⟩
        rintro e6 w6 ⟨rfl,rfl⟩
        rw[←hcl]
        refine⟨_,rfl,rfl,Br.of (λq3=>?_) (λq3=>?_)⟩
        · have q3:lastBad x=false:=by simpa using q3
          rw[ptrE_some]
          refine⟨_,λw' hw=>by subst hw;exact cl0 h5.blk,?_⟩
          rw[ptrE_some]
          refine⟨_,λw' hw=>by subst hw;exact cl h5.blk 1,by omega,by rw[bs_size];omega,by omega,by omega,?_⟩
          rw[toNat_i i,extract_take,←hx]
          refine(amps_c (hM.pu h5.since) x (by omega)).mono ?_
          rintro e7 w7 ⟨rfl,rfl⟩
          refine⟨_,rfl,Br.of (λq4=>?_) (λq4=>?_)⟩
          · have q4:Lib.contains x [38,38]=false:=by simpa using q4
            rw[q3,q4]at htk
            have htk:tkC x=some (zT t1):=htk
            rw[htk]at he
            obtain⟨a,ha,g1,g2,ck,c0,c1,c2'⟩:=RdSl.tok hs5 (i:=1) (t:=t1) rfl
            refine⟨a,ha,by omega,by omega,_,c0,_,c1,_,c2',alB λw8 hp8 hb8=>?_⟩
            have hz7:=(hp2.trans hp25).size
            refine stT t1 hb8 rfl λw9 hb9 f9=>?_
            rw[add_def]
            refine st1_intro (o:=0+1) hb9 (by show 0+1<3;omega) λw10 hw10 hb10=>?_
            have f10:Fr (·=w7.heap.size) w9 w10:=by rw[hw10];exact Fr.setCell w9 ⟨_,1,none⟩ _
            have hb10:w10.heap[w7.heap.size]?=some (.cells (tokV (zT t1)).toArray 30):=hb10
            have hr7:=blk_lt h5.blk
            have h10:=((h5.pu hp8).fr2 (b:=w7.heap.size) (by omega) h5.since.size f9).fr2 (b:=w7.heap.size) (by omega) h5.since.size f10
            refine h10.st (j:=e+1) (by omega) rfl λw11 h11 f11=>?_
            have hb11:=f11.blk hb10 (by omega)
            refine⟨_,cl hb11 0,_,cl hb11 1,_,cl hb11 2,?_⟩
            rw[ptrE_some]
            have hltw:=blk_lt (hp25.blk hb2)
            have hbw:w11.heap[w.heap.size]?=some (.cells c2 30):=f11.blk (f10.blk (f9.blk (hp8.blk (hp25.blk hb2)) (by omega)) (by omega)) (by omega)
            refine stT (zT t1) hbw hc2 λw12 hb12 f12=>?_
            have h12:=h11.fr2 (b:=w.heap.size) (by omega) hws f12
            have hfr:Fr (·=r) w w12:=by
              have a1:Fr (·=r) w w7:=Fr.pu (hp2.trans hp25)
              exact fr_new (fr_fr (fr_new (b:=w7.heap.size) (fr_new (b:=w7.heap.size) (fr_pu a1 hp8) hz7 f9) hz7 f10) f11) (Nat.le_refl _) f12
            have hfin:R (tokE (zT t1) true) w12:=hR _ _ ⟨hfr,by rw[he];exact⟨rfl,h12⟩⟩
            exact ldT hb12 hfin
          · have q4:Lib.contains x [38,38]=true:=by simpa using q4
            exact next2 hp25 (by rw[htk,q3,q4];rfl)
        · have q3:lastBad x=true:=by simpa using q3
          exact next2 hp25 (by rw[htk,q3];rfl)
      · have q2:¬((s4.len:Nat):Int)=3:=bfalse q2
        unfold tkC
        rw[if_pos q1]
        split
        · rename_i h9
          rw[h9]at hsl
          exact absurd (by rw[hsl];rfl) q2
        · rfl
    · have q1:¬(lexF ([40,32] ++ x)).2.2=0:=bfalse q1
      unfold tkC;rw[if_neg q1]
  · have q:¬((d.length - k:Nat):Int) > (i:Int):=dfalse q
    unfold F137_1
    rw[ptrE_some]
    refine stT zT0 hb2 hc2 λw3 hb3 f3=>?_
    have hn:tkG d i d.length=none:=by
      rw[he]
      cases hdk:d.length - k with
      | zero=>rfl
      | succ e=>unfold tkG;rw[if_pos (by omega)]
    have hfin:R (tokE zT0 false) w3:=hR _ _ ⟨fr_new (Fr.pu hp2) (Nat.le_refl _) f3,by
      rw[hn]
      exact⟨⟨_,rfl⟩,h2.fr2 (by omega) hws f3⟩⟩
    exact ldT hb3 hfin
theorem info128:(Tryz.prog.info? 128).map (λi=>(i.zero,i.size,i.bytes))=some (some (.agg #[.int .i64 0,.int .i64 0,.int .i64 0,.string ⟨#[]⟩,.string ⟨#[]⟩,.slice none 0 0,.slice none 0 0]),7,104):=by kernel_rfl
theorem ptV_len(p:Pt):(ptV p).length=7:=rfl
theorem ptV_one(p:Pt):∀u ∈ ptV p,u.oneCell'=true:=by
  intro u hu
  simp[ptV]at hu
  rcases hu with rfl|rfl|rfl|rfl|rfl|rfl|rfl <;> rfl
theorem push_pt {s:SV} {L:List Pt} (h:RowAt w 128 7 s (L.flatMap ptV)) (hl:L.length<=100000) {b:Nat} (p:Pt) (hb:w.heap[b]?=some (.cells (ptV p).toArray 128)) :
    ∃(s':SV) (w':World),(Builtin.append_ #[70,70] 70 #[.slice s.a s.len s.cap,.slice (some ⟨b,0,none⟩) 1 1]).run Tryz.prog w=.ok (.slice s'.a s'.len s'.cap) w'/\RowAt w' 128 7 s' ((L ++ [p]).flatMap ptV)/\Fr (· ∈ blkOf s) w w'/\(∀k ∈ blkOf s',k ∈ blkOf s∨w.heap.size<=k):=by
  have hsl:=h.len ptV_len (by decide)
  obtain⟨s',w',h1,h2,h3,h4,_⟩:=row_append_any (P:=Tryz.prog) (t:=70) (ty:=70) Tryz.underlying70 info128 rfl (by decide) h (A:=some ⟨b,0,none⟩) (m:=1) (c:=1) (news:=ptV p) rfl (λj u hu=>⟨_,rfl,by rw[cl hb];simpa using hu⟩) (ptV_one p) (by omega)
  refine⟨s',w',h1,?_,h3,h4⟩
  rw[List.flatMap_append];simpa using h2
def ptT(t:Tok):Pt:=⟨0,t,⟨#[]⟩⟩
def skipB(d:List UInt8)(i:Nat):Nat:=i+((d.drop i).takeWhile Lx.blkB).length
def rowG(d:List UInt8):Nat->Nat->Option (List Pt)
  | 0,_=>none
  | n+1,i=>if skipB d i=d.length then some []else match markS d (skipB d i)with
    | some (nm,e)=>(rowG d n e).map (mkP nm :: ·)
    | none=>match tkG d (skipB d i) d.length with
      | some (t,e)=>(rowG d n e).map (ptT t :: ·)
      | none=>none
theorem row_c(hL:Laid w0)(hM:MaxL w0)(hd:d.length<=4000)(hA:Asc d)(hF:Flat d)(h:Rdx w0 w r d 0 f){n:Nat}(hn:n<=1000){ps:List Pt}(hps:rowG d n 0=some ps):Calls Tryz.prog 101 #[.pointer (some ⟨r,0,none⟩),.bool false] w λe w'=>Pu w0 w'/\∃s:SV,e=.returned (.tuple #[.slice s.a s.len s.cap,.bool true])/\RowAt w' 128 7 s (ps.flatMap ptV):=by
  have hrlt:=blk_lt h.blk
  refine calls_by (F101_calls _ _ w) λR hR=>?_
  intro J hJ
  have key:∀(n i:Nat) (acc:List Pt) (s:SV) (w1:World) (qs:List Pt),rowG d n i=some qs->acc ++ qs=ps->acc.length+n<=1000->Rdx w0 w1 r d i f->RowAt w1 128 7 s (acc.flatMap ptV)->(∀k ∈ blkOf s,w0.heap.size<=k/\k ≠ r)->J s w1:=by
    intro n
    induction n with
    | zero=>intro i acc s w1 qs hq;cases hq
    | succ n ih=>
      intro i acc s w1 qs hq hacc hlen h1 hrow hbk
      refine hJ s w1 ?_
      unfold rowG at hq
      have hle:=h1.le
      have htw:((d.drop i).takeWhile Lx.blkB).length<=(d.drop i).length:=tw_le _ _
      rw[List.length_drop]at htw
      -- the loop over blanks
      refine loopUp ((d.drop i).takeWhile Lx.blkB).length (λk _ w'=>Rdx w0 w' r d (i+k) f/\RowAt w' 128 7 s (acc.flatMap ptV)) ⟨h1,hrow⟩ ?_
      rintro k J2 _ w2 hk ⟨h2,hr2⟩ hJ2
      have ht:=head_test (f:=Lx.blkB) (d:=d) (p:=i) (k:=k) hk
      refine dwE_intro λw3 hp3 _=>?_
      have h3:=h2.pu hp3
      have hr3:=hr2.pu hp3
      have c0:w3.cell? ⟨r,0,none⟩=some (.string (bs d)):=cl0 h3.blk
      have c1:w3.cell? ((⟨r,0,none⟩:Addr).add 1)=some (.int .i64 ((i+k:Nat):Int)):=cl h3.blk 1
      have hown:∀{w9:World} {vs:List Value},RowAt w9 128 7 s vs->r ∉ blkOf s:=λ_ hk=>(hbk r hk).2 rfl
      -- behind the blanks
      have rest:¬k<((d.drop i).takeWhile Lx.blkB).length->F101_2 R J (some ⟨r,0,none⟩) false s [] w3:=λh9=>by
        have hki:i+k=skipB d i:=by unfold skipB;omega
        rw[hki]at h3
        refine dwE_intro λw4 hp4 _=>?_
        have h4:=h3.pu hp4
        have hr4:=hr3.pu hp4
        rw[ptrE_some]
        refine⟨_,cl h4.blk 1,?_⟩
        rw[ptrE_some]
        refine⟨_,cl0 h4.blk,?_⟩
        rw[bs_size]
        refine Br.of (λq=>?_) (λq=>?_)
        · have q:((skipB d i:Nat):Int)=(d.length:Int):=btrue q
          rw[if_pos (by omega)]at hq
          have e1:[]=qs:=Option.some.inj hq
          rw[←e1,List.append_nil]at hacc
          rw[hacc]at hr4
          exact hR _ _ ⟨h4.since,s,rfl,hr4⟩
        · have q:¬((skipB d i:Nat):Int)=(d.length:Int):=bfalse q
          rw[if_neg (by omega)]at hq
          have t1:(⟨#[92,91]⟩:ByteArray)=bs [92,91]:=rfl
          have t2:(⟨#[92,93]⟩:ByteArray)=bs [92,93]:=rfl
          have t3:(⟨#[92,60]⟩:ByteArray)=bs [92,60]:=rfl
          have t4:(⟨#[91]⟩:ByteArray)=bs [91]:=rfl
          have t5:(⟨#[93]⟩:ByteArray)=bs [93]:=rfl
          have keepR:∀{w8 w9:World},RowAt w8 128 7 s (acc.flatMap ptV)->Fr (·=r) w8 w9->RowAt w9 128 7 s (acc.flatMap ptV):=λhr hf=>hr.fr hf λk hk e=>(hbk k hk).2 e
          rw[t1]
          refine(take_no hF h4 (by decide) (by simp)).mono ?_
          rintro e w5 ⟨rfl,h5,f5⟩
          refine⟨_,rfl,Br.f rfl ?_⟩
          rw[t2]
          refine(take_no hF h5 (by decide) (by simp)).mono ?_
          rintro e w6 ⟨rfl,h6,f6⟩
          refine⟨_,rfl,Br.f rfl ?_⟩
          rw[t3]
          refine(take_no hF h6 (by decide) (by simp)).mono ?_
          rintro e w7 ⟨rfl,h7,f7⟩
          refine⟨_,rfl,Br.f rfl ?_⟩
          rw[t4]
          refine(take_no hF h7 (by decide) (by simp)).mono ?_
          rintro e w8 ⟨rfl,h8,f8⟩
          refine⟨_,rfl,Br.f rfl ?_⟩
          rw[t5]
          refine(take_no hF h8 (by decide) (by simp)).mono ?_
          rintro e w9 ⟨rfl,h9,f9⟩
          have hr9:=keepR (keepR (keepR (keepR (keepR hr4 f5) f6) f7) f8) f9
          refine⟨_,rfl,Br.f rfl ?_⟩
          unfold F101_1
          refine(mark_c hL hd hF h9).mono ?_
          rintro e w10 ⟨f10,h10⟩
          have hr10:=keepR hr9 f10
          -- a part is put behind
          have push:∀{p:Pt} {w11:World} {b j:Nat},Rdx w0 w11 r d j f->RowAt w11 128 7 s (acc.flatMap ptV)->w11.heap[b]?=some (.cells (ptV p).toArray 128)->(∀qs',rowG d n j=some qs'->p :: qs'=qs->True)->(∃qs',rowG d n j=some qs'/\p :: qs'=qs)->∃l130:SV,∃w5:World,(Builtin.append_ #[70,70] 70 #[.slice s.a s.len s.cap,.slice (some ⟨b,0,none⟩) 1 1]).run Tryz.prog w11=.ok (.slice l130.a l130.len l130.cap) w5/\J l130 w5:=λ{p w11 b j} h11 hr11 hb11 _ hq2=>by
            obtain⟨qs',hq3,e3⟩:=hq2
            obtain⟨s2,w12,hrun,hr12,f12,hn12⟩:=push_pt hr11 (by omega) p hb11
            refine⟨s2,w12,hrun,ih j (acc ++ [p]) s2 w12 qs' hq3 (by rw[List.append_assoc,List.singleton_append,e3];exact hacc) (by rw[List.length_append];simp;omega) ?_ hr12 λk hk=>?_⟩
            · exact⟨h11.since.andNew f12 λk hk=>(hbk k hk).1,h11.new,f12.blk h11.blk (hown hr11),h11.le,h11.lim⟩
            · have hr0:=blk_lt h11.blk
              have hs0:=h11.since.size
              rcases hn12 k hk with h|h
              · exact hbk k h
              · exact⟨by omega,by omega⟩
          cases hm:markS d (skipB d i)with
          | some q=>
            obtain⟨nm,j⟩:=q
            rw[hm]at h10 hq
            obtain⟨rfl,h10⟩:=h10
            obtain⟨qs',hq3,e3⟩:=Option.map_eq_some_iff.1 hq
            refine⟨_,_,_,_,_,⟨none,0,0⟩,⟨none,0,0⟩,_,rfl,alB λw11 hp11 hb11=>?_⟩
            have hz10:=blk_lt h10.blk
            have hbs:∀k ∈ blkOf s,k<w10.heap.size:=hr10.lt
            refine stP (mkP nm) hb11 rfl λw12 hb12 f12=>?_
            have h12:=(h10.pu hp11).fr2 (b:=w10.heap.size) (by omega) h10.since.size f12
            have hr12:=(hr10.pu hp11).fr f12 λk hk e=>by have:=hbs k hk;rw[show k=_ from e]at this;omega
            refine Br.t rfl ⟨_,cl hb12 0,_,cl hb12 1,_,cl hb12 2,_,cl hb12 3,_,cl hb12 4,⟨none,0,0⟩,cl hb12 5,⟨none,0,0⟩,cl hb12 6,alB λw13 hp13 hb13=>?_⟩
            exact push (p:=mkP nm) (h12.pu hp13) (hr12.pu hp13) hb13 (λ_ _ _=>trivial) ⟨qs',hq3,e3⟩
          | none=>
            rw[hm]at h10 hq
            obtain⟨⟨p0,rfl⟩,h10⟩:=h10
            dsimp only at hq
            refine⟨_,_,_,_,_,⟨none,0,0⟩,⟨none,0,0⟩,_,rfl,alB λw11 hp11 hb11=>?_⟩
            have hz10:=blk_lt h10.blk
            have hbs:∀k ∈ blkOf s,k<w10.heap.size:=hr10.lt
            refine stP p0 hb11 rfl λw12 hb12 f12=>?_
            have h12:=(h10.pu hp11).fr2 (b:=w10.heap.size) (by omega) h10.since.size f12
            have hr12:=(hr10.pu hp11).fr f12 λk hk e=>by have:=hbs k hk;rw[show k=_ from e]at this;omega
            refine Br.f rfl ((rtok_c hL hM hd hA h12).mono ?_)
            rintro e w13 ⟨f13,h13⟩
            have hr13:=keepR hr12 f13
            cases htk:tkG d (skipB d i) d.length with
            | none=>rw[htk]at hq;cases hq
            | some q=>
              obtain⟨t,j⟩:=q
              rw[htk]at h13 hq
              obtain⟨rfl,h13⟩:=h13
              obtain⟨qs',hq3,e3⟩:=Option.map_eq_some_iff.1 hq
              refine⟨_,_,_,_,rfl,alB λw14 hp14 hb14=>?_⟩
              have hz13:=blk_lt h13.blk
              have hbs3:∀k ∈ blkOf s,k<w13.heap.size:=hr13.lt
              refine stT t hb14 rfl λw15 hb15 f15=>?_
              have h15:=(h13.pu hp14).fr2 (b:=w13.heap.size) (by omega) h13.since.size f15
              have hr15:=(hr13.pu hp14).fr f15 λk hk e=>by have:=hbs3 k hk;rw[show k=_ from e]at this;omega
              refine Br.f rfl ⟨_,cl hb15 0,_,cl hb15 1,_,cl hb15 2,alB λw16 hp16 hb16=>?_⟩
              exact push (p:=ptT t) (h15.pu hp16) (hr15.pu hp16) hb16 (λ_ _ _=>trivial) ⟨qs',hq3,e3⟩
      have go:∀n:Int,n=((i+k:Nat):Int)->k<((d.drop i).takeWhile Lx.blkB).length->ptrE (some (⟨r,0,none⟩:Addr)) λa7=>st1 (a7.add 1) (.int .i64 (IntKind.i64.wrap (n+1))) w3 λw8=>J2 () w8:=λn hn hlt=>by
        subst hn
        rw[wrap_in (by omega) (by omega)]
        exact h3.st (j:=i+k+1) (by omega) (by omega) λw4 h4 f4=>hJ2 _ _ hlt ⟨h4,hr3.fr f4 λk hk e=>(hbk k hk).2 e⟩
      refine⟨_,c1,_,c0,?_⟩
      rw[bs_size]
      refine Br.of (λq=>?_) (λq=>rest (by have:=dfalse q;omega))
      have q:=dtrue q
      obtain⟨y,hy⟩:=at_k (l:=d) (k:=i+k) (by omega)
      rw[hy]at ht
      have ht:Lx.blkB y=decide (k<((d.drop i).takeWhile Lx.blkB).length):=ht
      have hyb:(bs d)[(((i+k:Nat):Int)).toNat]?=some y:=by rw[toNat_i];exact bs_get hy
      have yes:Lx.blkB y=true->k<((d.drop i).takeWhile Lx.blkB).length:=λh=>by rw[h]at ht;exact of_decide_eq_true ht.symm
      refine⟨_,c0,_,c1,y,by omega,hyb,Br.of (λq2=>⟨_,c1,go _ rfl (yes ?_)⟩) (λq2=>⟨_,c0,_,c1,y,by omega,hyb,Br.of (λq3=>⟨_,c1,go _ rfl (yes ?_)⟩) (λq3=>rest λh=>?_)⟩)⟩
      · have q2:((y.toNat:Nat):Int)=32:=btrue q2
        unfold Lx.blkB;rw[decide_eq_true (p:=y.toNat=32) (by omega)];simp
      · have q3:((y.toNat:Nat):Int)=9:=btrue q3
        unfold Lx.blkB;rw[decide_eq_true (p:=y.toNat=9) (by omega)];simp
      · have q2:¬((y.toNat:Nat):Int)=32:=bfalse q2
        have q3:¬((y.toNat:Nat):Int)=9:=bfalse q3
        rw[decide_eq_true h]at ht
        unfold Lx.blkB at ht
        rw[decide_eq_false (p:=y.toNat=32) (by omega),decide_eq_false (p:=y.toNat=9) (by omega)]at ht
        cases ht
  exact key n 0 [] ⟨none,0,0⟩ w ps hps rfl (by simp;omega) h (RowAt.nil _ _ _) (by simp[blkOf])
end Go.Proofs.YtjbfehippchniaaGreatDoor

/- Pre: patterns and results, read. No condition but those stated. -/
set_option maxRecDepth 100000
set_option linter.unusedVariables false
set_option linter.unusedSimpArgs false
namespace Go.Proofs.YtjbfehippchniaaGreatDoor
open Go.Sh Go.Sh.Lx Go.Sh.Pr Go.RowKit Go.Shelf
variable {w0 w w' : World} {r i : Nat} {d : List UInt8} {f : Bool}
instance:Enc Pt where
  sz:=7
  rd _ vs p:=vs=ptV p
  len h:=by rw[h];rfl
  pu _ h:=h
theorem rd_pts {s:SV} {L:List Pt} (h:RowAt w 128 7 s (L.flatMap ptV)) (hl:L.length<=100000):RdSl w s L:=by
  have hlen:=h.len ptV_len (by decide)
  have hcap:=h.le_cap
  refine⟨hlen,hcap.1,by omega,λi p hp=>?_⟩
  obtain⟨a,ha,_,_⟩:=h.elem ptV_len hp (o:=0) rfl
  refine⟨a,ha,ptV p,rfl,λj v hv=>?_⟩
  obtain⟨a',ha',_,hc⟩:=h.elem ptV_len hp (o:=j) hv
  rw[ha]at ha';cases ha'
  exact hc
theorem RdSl.pt {s:SV} {l:List Pt} (h:RdSl w s l) {i:Nat} {p:Pt} (hx:l[i]?=some p):∃a,s.a=some a/\(0:Int)<=(i:Int)/\(i:Int)<((s.len:Nat):Int)/\∀(o:Nat) (v:Value),(ptV p)[o]?=some v->w.cell? ((a.add (((i:Int)).toNat * 7)).add o)=some v:=by
  obtain⟨a,ha,vs,rfl,hc⟩:=h.get i p hx
  have hl:=h.len
  have hlt:=(List.getElem?_eq_some_iff.1 hx).1
  rw[toNat_i]
  exact⟨a,ha,by omega,by omega,λo v hv=>hc o v hv⟩
theorem rd_mapP {m:Nat} {es:Array MapEntry} {c:Nat} (hm:w.heap[m]?=some (.map es c)) (hf:Fr (·=m) w w') {s:SV} {l:List Pt} (h:RdSl w s l):RdSl w' s l:=
  ⟨h.len,h.cap,h.lim,λi x hx=>by
    obtain⟨a,ha,vs,h1,h2⟩:=h.get i x hx
    exact⟨a,ha,vs,h1,λj v hv=>cell_map hm hf (h2 j v hv)⟩⟩
def isLit(p:Pt):Bool:=decide (p.kind=0) && (decide (p.t.kind=0) || decide (p.t.kind=4))
theorem lit_c(p:Pt)(w:World):Calls Tryz.prog 102 #[.agg (ptV p).toArray] w λe w'=>e=.returned (.bool (isLit p))/\Pu w w':=by
  refine calls_by (F102_calls _ _ _ _ _ ⟨none,0,0⟩ ⟨none,0,0⟩ w) λR hR=>alB λw1 hp1 hb1=>⟨_,cl0 hb1,?_⟩
  refine Br.of (λq=>⟨_,cl hb1 1,Br.of (λq2=>hR _ _ ⟨?_,hp1⟩) (λq2=>⟨_,cl hb1 1,hR _ _ ⟨?_,hp1⟩⟩)⟩) (λq=>hR _ _ ⟨?_,hp1⟩)
  · have q:p.kind=0:=btrue q
    have q2:p.t.kind=0:=btrue q2
    unfold isLit;rw[decide_eq_true q,decide_eq_true q2];rfl
  · have q:p.kind=0:=btrue q
    have q2:¬p.t.kind=0:=bfalse q2
    unfold isLit;rw[decide_eq_true q,decide_eq_false q2,beq_dec];rfl
  · have q:¬p.kind=0:=bfalse q
    unfold isLit;rw[decide_eq_false q];rfl
theorem all_nil(w:World):Calls Tryz.prog 103 #[.slice none 0 0] w λe w'=>e=.returned (.slice none 0 0)/\w'=w:=by
  refine calls_by (F103_calls ⟨none,0,0⟩ w) λR hR=>?_
  intro J hJ
  refine hJ _ _ ?_
  exact Br.f (by decide) (hR _ _ ⟨rfl,rfl⟩)
theorem allP_c{s:SV}{ps:List Pt}(hs:RdSl w0 s ps)(hl:ps.length<=1000):Calls Tryz.prog 103 #[.slice s.a s.len s.cap] w0 λe w'=>Pu w0 w'/\∃s':SV,e=.returned (.slice s'.a s'.len s'.cap)/\RdSl w' s' ps:=by
  have hsl:=hs.len
  obtain⟨i128,hi128,_⟩:=info_parts info128
  refine calls_by (F103_calls _ w0) λR hR=>loopUp ps.length (λk t w'=>∃s':SV,t=(s',(k:Int))/\Pu w0 w'/\RowAt w' 128 7 s' ((ps.take k).flatMap ptV)/\NewR w0 s') ⟨⟨none,0,0⟩,rfl,Pu.refl _,RowAt.nil _ _ _,by simp[NewR,blkOf]⟩ ?_
  rintro k J t w1 hk ⟨s',rfl,hp1,hr1,hn1⟩ hJ
  dsimp only
  refine Br.of (λq=>?_) (λq=>?_)
  · have q:=dtrue q
    obtain⟨p,hp⟩:=at_k (l:=ps) (k:=k) (by omega)
    obtain⟨a,ha,h1,h2,hc⟩:=RdSl.pt (hs.pu hp1) hp
    refine⟨a,ha,h1,h2,_,hc 0 _ rfl,_,hc 1 _ rfl,_,hc 2 _ rfl,_,hc 3 _ rfl,_,hc 4 _ rfl,⟨none,0,0⟩,hc 5 _ rfl,⟨none,0,0⟩,hc 6 _ rfl,?_⟩
    refine boxA (vs:=(ptV p).toArray) (zs:=pz) rfl (by rw[size128];rfl) rfl λw2 hp2 hz2 hb2=>?_
    refine⟨_,cl hb2 0,_,cl hb2 1,_,cl hb2 2,_,cl hb2 3,_,cl hb2 4,⟨none,0,0⟩,cl hb2 5,⟨none,0,0⟩,cl hb2 6,alB λw3 hp3 hb3=>?_⟩
    have hb23:=hp3.blk hb2
    obtain⟨s2,w4,hrun,hr4,hf4,hn4⟩:=push_pt (hr1.pu (hp2.trans hp3)) (by rw[List.length_take];omega) p hb3
    have hP3:=hp1.trans (hp2.trans hp3)
    have hb4:w4.heap[w1.heap.size]?=some (.cells (ptV p).toArray 128):=hf4.blk hb23 (λhk=>by have:=hr1.lt _ hk;omega)
    have hP4:Pu w0 w4:=hP3.andNew hf4 λi hi=>hn1 i hi
    have hn24:NewR w0 s2:=λi hi=>by
      rcases hn4 i hi with h|h
      · exact hn1 i h
      · have:=hP3.size;omega
    refine⟨s2,w4,hrun,⟨none,0,0⟩,cl hb4 6,(all_nil w4).mono ?_⟩
    rintro e w5 ⟨rfl,rfl⟩
    refine⟨⟨none,0,0⟩,rfl,s2,w5,row_append_nil Tryz.underlying70 hi128 hr4 0,?_⟩
    rw[wrap_in (by omega) (by omega)]
    exact hJ _ _ (by omega) ⟨s2,by rw[show(k:Int)+1=((k+1:Nat):Int)by omega],hP4,by rw[take_at hp];exact hr4,hn24⟩
  · have q:=dfalse q
    obtain rfl:k=ps.length:=by omega
    rw[List.take_length]at hr1
    exact hR _ _ ⟨hp1,s',rfl,rd_pts hr1 (by omega)⟩
def bV(b:Bool):Value:=.bool b
def chk:List (ByteArray × Bool)->List Pt->Bool
  | _,[]=>true
  | l,p :: ps=>(!decide (p.kind=0) || isLit p) && !decide (p.kind=4) && (decide (p.nm=⟨#[]⟩) || !(AL.get l p.nm).getD false) && chk (AL.put l p.nm true) ps
def patB(ps:List Pt):Bool:=(match ps with
  | []=>false
  | p :: _=>isLit p) && chk [] ps
theorem pattern_c(hL:Laid w0)(hM:MaxL w0)(hd:d.length<=4000)(hA:Asc d)(hF:Flat d){n:Nat}(hn:n<=1000){ps:List Pt}(hps:rowG d n 0=some ps)(hpl:ps.length<=1000)(hpat:patB ps=true):Calls Tryz.prog 70 #[.string (bs d)] w0 λe w'=>Pu w0 w'/\∃s:SV,e=.returned (.tuple #[.slice s.a s.len s.cap,.bool true])/\RdSl w' s ps:=by
  refine calls_by (F70_calls _ w0) λR hR=>alE_intro λw1 hw1=>?_
  have hS:Rdx w0 w1 w0.heap.size d 0 false:=⟨by rw[hw1];exact Pu.alloc _ _,Nat.le_refl _,by rw[hw1];exact alloc_new _ _,Nat.zero_le _,by omega⟩
  refine(row_c hL hM hd hA hF hS hn hps).mono ?_
  rintro e w2 ⟨hp2,s,rfl,hrow⟩
  have hrd:=rd_pts hrow (by omega)
  have hsl:=hrd.len
  refine⟨s,_,rfl,Br.f rfl ?_⟩
  unfold patB at hpat
  rw[Bool.and_eq_true]at hpat
  obtain⟨hp0,hchk⟩:=hpat
  obtain⟨p,ps',rfl⟩:∃p ps',ps=p :: ps':=by
    cases ps with
    | nil=>cases hp0
    | cons p ps'=>exact⟨p,ps',rfl⟩
  rw[List.length_cons]at hsl
  refine Br.f (by rw[beq_dec];exact decide_eq_false (by omega)) ?_
  obtain⟨a,ha,h1,h2,hc⟩:=RdSl.pt hrd (i:=0) (p:=p) rfl
  refine⟨a,ha,by omega,by omega,_,hc 0 _ rfl,_,hc 1 _ rfl,_,hc 2 _ rfl,_,hc 3 _ rfl,_,hc 4 _ rfl,⟨none,0,0⟩,hc 5 _ rfl,⟨none,0,0⟩,hc 6 _ rfl,(lit_c p w2).mono ?_⟩
  rintro e w3 ⟨rfl,hp3⟩
  have hp0:isLit p=true:=hp0
  rw[hp0]
  refine⟨_,rfl,Br.f rfl (alE_intro λw4 hw4=>?_)⟩
  have hp4:Pu w3 w4:=by rw[hw4];exact Pu.alloc _ _
  have hM4:Go.Sh.MapAt w4 ekS bV w3.heap.size ([]:List (ByteArray × Bool)):=by rw[hw4];exact Go.Sh.MapAt.new w3 ekS bV
  have hP4:=hp2.trans (hp3.trans hp4)
  have hm0:w0.heap.size<=w3.heap.size:=(hp2.trans hp3).size
  have hrd4:=hrd.pu (hp3.trans hp4)
  refine(allP_c hrd4 hpl).mono ?_
  rintro e w5 ⟨hp5,s5,rfl,hs5⟩
  have hs5l:=hs5.len
  refine⟨s5,rfl,?_⟩
  obtain⟨qs,hqs⟩:∃qs,qs=p :: ps':=⟨_,rfl⟩
  have hrd5:=hrd4.pu hp5
  rw[←hqs]at hs5 hs5l hchk hpl hrd5 hR
  refine loopUp qs.length (λk n w'=>n=(k:Int)/\Pu w0 w'/\RdSl w' s qs/\RdSl w' s5 qs/\∃l,Go.Sh.MapAt w' ekS bV w3.heap.size l/\chk l (qs.drop k)=true) ⟨rfl,hP4.trans hp5,hrd5,hs5,[],hM4.pu hp5,hchk⟩ ?_
  rintro k J n w6 hk ⟨rfl,hP6,hr6,hs6,l,hM6,hck⟩ hJ
  refine Br.of (λq=>?_) (λq=>?_)
  · have q:=dtrue q
    obtain⟨x,hx⟩:=at_k (l:=qs) (k:=k) (by omega)
    rw[drop_at hx]at hck
    unfold chk at hck
    simp only[Bool.and_eq_true,Bool.or_eq_true,Bool.not_eq_true',decide_eq_true_eq,decide_eq_false_iff_not]at hck
    obtain⟨⟨⟨k1,k2⟩,k3⟩,k4⟩:=hck
    obtain⟨a,ha,h1,h2,hc⟩:=RdSl.pt hs6 hx
    refine⟨a,ha,h1,h2,_,hc 0 _ rfl,_,hc 1 _ rfl,_,hc 2 _ rfl,_,hc 3 _ rfl,_,hc 4 _ rfl,⟨none,0,0⟩,hc 5 _ rfl,⟨none,0,0⟩,hc 6 _ rfl,?_⟩
    refine boxA (vs:=(ptV x).toArray) (zs:=pz) rfl (by rw[size128];rfl) rfl λw7 hp7 hz7 hb7=>⟨_,cl0 hb7,?_⟩
    -- the name is noted
    have note:∀{w8:World},Pu w7 w8->doE Tryz.prog (Instr.mapUpdate 129 (.map (some w3.heap.size)) (.string x.nm) (.bool true)) w8 λw13=>F70_2 R J s (some w3.heap.size) s5 ((s5.len:Nat):Int) (k:Int) [] w13:=λ{w8} hp8=>by
      have hp68:=hp7.trans hp8
      have hM8:=hM6.pu hp68
      obtain⟨w9,hrun,hM9,hf9,hz9⟩:=hM8.upd (P:=Tryz.prog) (kt:=9) (t:=129) (e:=4) (keys_str Tryz.underlying9) (by kernel_rfl) x.nm true
      obtain⟨es,clk,hmb,_⟩:=hM8
      refine⟨w9,hrun,?_⟩
      unfold F70_2
      rw[wrap_in (by omega) (by omega)]
      exact hJ _ _ (by omega) ⟨rfl,(hP6.trans hp68).andNew hf9 λi hi=>by rw[show i=_ from hi];exact hm0,rd_mapP hmb hf9 (hr6.pu hp68),rd_mapP hmb hf9 (hs6.pu hp68),_,hM9,k4⟩
    -- whether it stood there
    have name:∀{w8:World},Pu w7 w8->w8.heap[w6.heap.size]?=some (.cells (ptV x).toArray 128)->∃s67:ByteArray,w8.cell? ((⟨w6.heap.size,0,none⟩:Addr).add 4)=some (.string s67)/\Br (!(s67.toList == (⟨#[]⟩:ByteArray).toList)) (
        ∃s72:ByteArray,w8.cell? ((⟨w6.heap.size,0,none⟩:Addr).add 4)=some (.string s72)/\∃b73:Bool,∃w11:World,(Instr.lookup 129 (.map (some w3.heap.size)) (.string s72) false).run Tryz.prog w8=.ok (.bool b73) w11/\Br b73 (
          R (.returned (.tuple #[.slice none 0 0,.bool false])) w11) (∃s77:ByteArray,w11.cell? ((⟨w6.heap.size,0,none⟩:Addr).add 4)=some (.string s77)/\doE Tryz.prog (Instr.mapUpdate 129 (.map (some w3.heap.size)) (.string s77) (.bool true)) w11 λw13=>F70_2 R J s (some w3.heap.size) s5 ((s5.len:Nat):Int) (k:Int) [] w13)) (
        ∃s77:ByteArray,w8.cell? ((⟨w6.heap.size,0,none⟩:Addr).add 4)=some (.string s77)/\doE Tryz.prog (Instr.mapUpdate 129 (.map (some w3.heap.size)) (.string s77) (.bool true)) w8 λw14=>F70_2 R J s (some w3.heap.size) s5 ((s5.len:Nat):Int) (k:Int) [] w14):=λ{w8} hp8 hb8=>by
      refine⟨_,cl hb8 4,?_⟩
      rw[toList_beq]
      refine Br.of (λq2=>?_) (λq2=>⟨_,cl hb8 4,note hp8⟩)
      have q2:x.nm ≠ ⟨#[]⟩:=by simpa using q2
      have k3:(AL.get l x.nm).getD false=false:=by
        rcases k3 with h|h
        · exact absurd h q2
        · exact h
      have hlook:=(hM6.pu (hp7.trans hp8)).look (P:=Tryz.prog) (kt:=9) (t:=129) (e:=4) (keys_str Tryz.underlying9) (by kernel_rfl) (z:=.bool false) (Tryz.zeroValue4 _) x.nm false
      have e9:(AL.get l x.nm).elim (Value.bool false) bV=.bool false:=by
        cases hg:AL.get l x.nm with
        | none=>rfl
        | some b=>
            rw[hg]at k3;have:b=false:=k3
            subst this;rfl
      rw[if_neg (by decide),e9]at hlook
      exact⟨_,cl hb8 4,false,w8,hlook,Br.f rfl ⟨_,cl hb8 4,note hp8⟩⟩
    refine Br.of (λq1=>?_) (λq1=>?_)
    · have q1:x.kind=0:=btrue q1
      have hlit:isLit x=true:=by
        rcases k1 with h|h
        · exact absurd q1 h
        · exact h
      refine⟨_,cl hb7 0,_,cl hb7 1,_,cl hb7 2,_,cl hb7 3,_,cl hb7 4,⟨none,0,0⟩,cl hb7 5,⟨none,0,0⟩,cl hb7 6,(lit_c x w7).mono ?_⟩
      rintro e w8 ⟨rfl,hp8⟩
      rw[hlit]
      refine⟨_,rfl,Br.f rfl ⟨_,cl0 (hp8.blk hb7),Br.f (by rw[beq_dec];exact decide_eq_false k2) (name hp8 (hp8.blk hb7))⟩⟩
    · exact⟨_,cl0 hb7,Br.f (by rw[beq_dec];exact decide_eq_false k2) (name (Pu.refl _) hb7)⟩
  · have q:=dfalse q
    exact hR _ _ ⟨hP6,s,rfl,hr6⟩
theorem result_c(hL:Laid w0)(hM:MaxL w0)(hd:d.length<=4000)(hA:Asc d)(hF:Flat d){n:Nat}(hn:n<=1000){ps:List Pt}(hps:rowG d n 0=some ps)(hpl:ps.length<=1000):Calls Tryz.prog 71 #[.string (bs d)] w0 λe w'=>Pu w0 w'/\∃s:SV,e=.returned (.tuple #[.slice s.a s.len s.cap,.bool true])/\RdSl w' s ps:=by
  refine calls_by (F71_calls _ w0) λR hR=>alE_intro λw1 hw1=>?_
  have hS:Rdx w0 w1 w0.heap.size d 0 true:=⟨by rw[hw1];exact Pu.alloc _ _,Nat.le_refl _,by rw[hw1];exact alloc_new _ _,Nat.zero_le _,by omega⟩
  refine(row_c hL hM hd hA hF hS hn hps).mono ?_
  rintro e w2 ⟨hp2,s,rfl,hrow⟩
  exact⟨s,_,rfl,hR _ _ ⟨hp2,s,rfl,rd_pts hrow (by omega)⟩⟩
end Go.Proofs.YtjbfehippchniaaGreatDoor

/- Pre: a rule cut at its arrow. No condition but those stated. -/
set_option maxRecDepth 100000
set_option linter.unusedVariables false
set_option linter.unusedSimpArgs false
namespace Go.Proofs.YtjbfehippchniaaGreatDoor
open Go.Sh Go.Sh.Lx Go.Sh.Pr Go.RowKit Go.Shelf
attribute [local go_sem] Oper.semAt_some
def arrow(d:List UInt8)(i:Nat):Bool:=hasS d i [61,62]
def cutS(d:List UInt8):Option Nat:=(outS 0 0 d).find? (arrow d)
theorem find_no{α:Type}{p:α->Bool}{l:List α}(h:∀y ∈ l,p y=false):l.find? p=none:=List.find?_eq_none.2 λy hy=>by rw[h y hy];decide
theorem blk_kept {A B:World} {row:Option Nat} {k:Nat} {c:Array Value} {t:TypeId} (h:A.heap[k]?=some (.cells c t)) (hg:A.grownBy B row) (hr:∀r,row=some r->∃o:Obj,A.heap[r]?=some o/\o.isCells=false):B.heap[k]?=some (.cells c t):=by
  refine(hg.block k (blk_lt h) λe=>?_).trans h
  obtain⟨o,ho,hc⟩:=hr k e.symm
  rw[h]at ho;cases ho;cases hc
def Bx4(N:Nat)(s2 s3:ByteArray)(b4:Bool)(d:List UInt8)(W:World):Prop:=W.heap[N]?=some (.cells #[.string (bs d)] 9)/\W.heap[N+1]?=some (.cells #[.string s2] 9)/\W.heap[N+1+1]?=some (.cells #[.string s3] 9)/\W.heap[N+1+1+1]?=some (.cells #[.bool b4] 4)
theorem Bx4.kept {N:Nat} {s2 s3:ByteArray} {b4:Bool} {d:List UInt8} {A B:World} {row:Option Nat} (h:Bx4 N s2 s3 b4 d A) (hg:A.grownBy B row) (hr:∀r,row=some r->∃o:Obj,A.heap[r]?=some o/\o.isCells=false):Bx4 N s2 s3 b4 d B:=
  ⟨blk_kept h.1 hg hr,blk_kept h.2.1 hg hr,blk_kept h.2.2.1 hg hr,blk_kept h.2.2.2 hg hr⟩
set_option maxHeartbeats 4000000 in
theorem split_c(d:List UInt8)(hd:d.length<=4294967280){i:Nat}(hi:cutS d=some i)(w:World):Calls Tryz.prog 69 #[.string (bs d)] w λe w'=>e=.returned (.tuple #[.string (bs (d.take i)),.string (bs (d.drop (i+2))),.bool true])/\Pu w w':=by
  refine(callsIn_wide (n:=4)).1 ?_
  refine callsIn_of_wp_marks Tryz.func69 rfl trivial ?_ rfl
  simp only[Tryz.ntmps69,List.size_toArray,List.length_cons,List.length_nil,Nat.reduceAdd,Nat.reduceSub,Array.replicate_succ,Array.replicate_zero,List.push_toArray,List.append_toArray,List.nil_append,List.cons_append]
  gi_wp2_with (refine⟨trivial,?_⟩;gi_at_call 73;refine(callsIn_wide.2 (outside_c d _)).mono ?_;rintro e w' ⟨rfl,rfl⟩)
  generalize hw1:w.alloc (.cells #[.string (bs d)] 9)=w1
  generalize hw2:w1.alloc (.cells #[.string ⟨#[]⟩] 9)=w2
  generalize hw3:w2.alloc (.cells #[.string ⟨#[]⟩] 9)=w3
  generalize hw4:w3.alloc (.cells #[.bool false] 4)=w4
  generalize hw5:w4.alloc (.cells #[.string (bs d)] 9)=w5
  obtain⟨N,hN⟩:∃N,N=w.heap.size:=⟨_,rfl⟩
  have z1:w1.heap.size=N+1:=by rw[←hw1,hN];simp
  have z2:w2.heap.size=N+1+1:=by rw[←hw2];simp[z1]
  have z3:w3.heap.size=N+1+1+1:=by rw[←hw3];simp[z2]
  have z4:w4.heap.size=N+1+1+1+1:=by rw[←hw4];simp[z3]
  have z5:w5.heap.size=N+1+1+1+1+1:=by rw[←hw5];simp[z4]
  have p1:Pu w w1:=by rw[←hw1];exact Pu.alloc _ _
  have p2:Pu w1 w2:=by rw[←hw2];exact Pu.alloc _ _
  have p3:Pu w2 w3:=by rw[←hw3];exact Pu.alloc _ _
  have p4:Pu w3 w4:=by rw[←hw4];exact Pu.alloc _ _
  have p5:Pu w4 w5:=by rw[←hw5];exact Pu.alloc _ _
  have b0:w1.heap[N]?=some (.cells #[.string (bs d)] 9):=by rw[←hw1,hN];exact alloc_new _ _
  have b1:w2.heap[N+1]?=some (.cells #[.string ⟨#[]⟩] 9):=by rw[←hw2,←z1];exact alloc_new _ _
  have b2:w3.heap[N+1+1]?=some (.cells #[.string ⟨#[]⟩] 9):=by rw[←hw3,←z2];exact alloc_new _ _
  have b3:w4.heap[N+1+1+1]?=some (.cells #[.bool false] 4):=by rw[←hw4,←z3];exact alloc_new _ _
  have b4:w5.heap[N+1+1+1+1]?=some (.cells #[.string (bs d)] 9):=by rw[←hw5,←z4];exact alloc_new _ _
  have hB0:Below N w w5:=by rw[hN];exact p1.trans (p2.trans (p3.trans (p4.trans p5)))
  have hBx:Bx4 N ⟨#[]⟩ ⟨#[]⟩ false d w5:=⟨p5.blk (p4.blk (p3.blk (p2.blk b0))),p5.blk (p4.blk (p3.blk b1)),p5.blk (p4.blk b2),p5.blk b3⟩
  rw[←hN]
  have hsz:=bs_size d
  have hidx:∀pre:List (Pl d),vals pre <+: outS 0 0 d->(vals pre).find? (arrow d)=some i->True:=λ_ _ _=>trivial
  refine wpIn_rangeFunc_ownF rfl (by omega) (gf:=111) (lb:=#[.pointer (some ⟨N+1+1+1+1,0,none⟩)]) rfl trivial enters111
    (outside_stops 3 (by omega) (N+1+1+1+1) d hd w5 (by omega) (cl0 b4)) kpC_t kpC_b (Below.refl _ _) (λ_=>rfl)
    (λpre W=>((∀y ∈ vals pre,arrow d y=false)/\Bx4 N ⟨#[]⟩ ⟨#[]⟩ false d W)/\Below N w W)
    (λc pre W=>(c=.ret/\∃j,(vals pre).find? (arrow d)=some j/\Bx4 N (bs (d.take j)) (bs (d.drop (j+2))) true d W)/\Below N w W)
    (OwnFrom.and (Own.from (λs A B row hs hg hr=>⟨hs.1,hs.2.kept hg hr⟩) _) (ownFrom_below (by omega) (by omega)))
    (λc=>OwnFrom.and (Own.from (λs A B row hs hg hr=>⟨hs.1,let ⟨j,h1,h2⟩:=hs.2;⟨j,h1,h2.kept hg hr⟩⟩) _) (ownFrom_below (by omega) (by omega)))
    ⟨⟨λy hy=>(by cases hy),hBx⟩,hB0⟩
    (λx=>{ tmps:=#[.string (bs d),.pointer (some ⟨N,0,none⟩),.pointer (some ⟨N+1,0,none⟩),.pointer (some ⟨N+1+1,0,none⟩),.pointer (some ⟨N+1+1+1,0,none⟩),.int .i64 ((x.1:Nat):Int),.string (bs d),.func (.func 111) #[] #[.pointer (some ⟨N+1+1+1+1,0,none⟩)],.int .i64 ((x.1:Nat):Int),undef,undef,undef,undef,undef,undef,undef,undef,undef,undef,undef],defers:=[] }) ?assign ?body ?done ?stop
  case assign=>
    intro l x W K hK
    subst hN
    gi_wp2
    exact hK
  case body=>
    rintro l pre ⟨k,hk⟩ W ⟨⟨hp,hb⟩,hB⟩ _
    refine body_in (m:=20) (by kernel_rfl) (by kernel_rfl) (by rfl) ?_
    refine Eq.mpr (show _=(∃s9:ByteArray,W.cell? ⟨N,0,none⟩=some (.string s9)/\s9.size<=s9.size/\0<=(k:Int)/\(k:Int).toNat<=s9.size/\
      Calls Tryz.prog 41 #[.string (s9.extract (k:Int).toNat s9.size),.string (⟨#[61,62]⟩:ByteArray)] W λe w2=>∃b12:Bool,e=.returned (.bool b12)/\Br b12 (
        dwE w2 λw3=>∃S1:World->Prop,S1 w3/\∃s13:ByteArray,(∀w',S1 w'->w'.cell? ⟨N,0,none⟩=some (.string s13))/\0<=(k:Int)/\(k:Int).toNat<=s13.size/\0<=(k:Int).toNat/\
        ∃s16:ByteArray,(∀w',S1 w'->w'.cell? ⟨N,0,none⟩=some (.string s16))/\s16.size<=s16.size/\0<=(IntKind.i64.wrap ((k:Int)+2))/\(IntKind.i64.wrap ((k:Int)+2)).toNat<=s16.size/\
        st1 ⟨N+1,0,none⟩ (.string (s13.extract 0 (k:Int).toNat)) w3 λw7=>S1 w7/\
        st1 ⟨N+1+1,0,none⟩ (.string (s16.extract ((IntKind.i64.wrap ((k:Int)+2)).toNat) s16.size)) w7 λw9=>
        st1 ⟨N+1+1+1,0,none⟩ (.bool true) w9 λw11=>∀a',ownPostK (KpC (N+1+1+1+1) d) (λpre W=>((∀y ∈ vals pre,arrow d y=false)/\Bx4 N ⟨#[]⟩ ⟨#[]⟩ false d W)/\Below N w W) (λc pre W=>(c=.ret/\∃j,(vals pre).find? (arrow d)=some j/\Bx4 N (bs (d.take j)) (bs (d.drop (j+2))) true d W)/\Below N w W) (pre ++ [⟨k,hk⟩]) W .ret a' w11) (
        ∀a',ownPostK (KpC (N+1+1+1+1) d) (λpre W=>((∀y ∈ vals pre,arrow d y=false)/\Bx4 N ⟨#[]⟩ ⟨#[]⟩ false d W)/\Below N w W) (λc pre W=>(c=.ret/\∃j,(vals pre).find? (arrow d)=some j/\Bx4 N (bs (d.take j)) (bs (d.drop (j+2))) true d W)/\Below N w W) (pre ++ [⟨k,hk⟩]) W .normal a' w2))by kernel_rfl) ?_
    refine⟨bs d,cl0 hb.1,Nat.le_refl _,by omega,by rw[toNat_i,hsz];omega,?_⟩
    rw[toNat_i,extract_drop]
    refine(hasPrefix_c (d.drop k) [61,62] W).mono ?_
    rintro e w2 ⟨rfl,rfl⟩
    refine⟨_,rfl,?_⟩
    show Br (arrow d k) _ _
    cases ha:arrow d k with
    | false=>
      refine Br.f rfl λa'=>⟨KeepsOthers.refl _,λh=>h,⟨λy hy=>?_,hb⟩,hB⟩
      rw[vals_snoc]at hy
      rcases List.mem_append.1 hy with hy|hy
      · exact hp y hy
      · obtain rfl:y=k:=by simpa using hy
        exact ha
    | true=>
      have hk2:=(hasS_le (show hasS d k [61,62]=true from ha)).resolve_right (by simp)
      have hk2:k+2<=d.length:=hk2
      refine Br.t rfl (dwE_intro λw3 hp3 hh3=>?_)
      have c0:=hp3.blk hb.1
      refine⟨λw'=>w'.heap[N]?=some (.cells #[.string (bs d)] 9),c0,bs d,λw' h'=>cl0 h',by omega,by rw[hsz];omega,by omega,bs d,λw' h'=>cl0 h',Nat.le_refl _,?_⟩
      rw[wrap_in (by omega) (by omega),show(k:Int)+2=((k+2:Nat):Int)from rfl,toNat_i,extract_take,List.drop_zero,extract_drop]
      refine⟨by omega,by rw[hsz];omega,?_⟩
      refine st1_intro (o:=0) (hp3.blk hb.2.1) (by simp) λw5' hw5' h51=>?_
      have f5:Fr (·=N+1) w3 w5':=by rw[hw5'];exact Fr.setCell w3 ⟨_,0,none⟩ _
      refine⟨f5.blk c0 (by omega),?_⟩
      refine st1_intro (o:=0) (f5.blk (hp3.blk hb.2.2.1) (by omega)) (by simp) λw6' hw6' h62=>?_
      have f6:Fr (·=N+1+1) w5' w6':=by rw[hw6'];exact Fr.setCell w5' ⟨_,0,none⟩ _
      refine st1_intro (o:=0) (f6.blk (f5.blk (hp3.blk hb.2.2.2) (by omega)) (by omega)) (by simp) λw7' hw7' h73=>?_
      have f7:Fr (·=N+1+1+1) w6' w7':=by rw[hw7'];exact Fr.setCell w6' ⟨_,0,none⟩ _
      intro a'
      refine⟨?_,⟨rfl,k,?_,f7.blk (f6.blk (f5.blk c0 (by omega)) (by omega)) (by omega),f7.blk (f6.blk h51 (by omega)) (by omega),f7.blk h62 (by omega),h73⟩,?_⟩
      · have k0:KeepsOthers w2 w3:=⟨hp3.size,λj o hj _=>by rw[hh3];exact hj⟩
        rw[hw7',hw6',hw5']
        exact((k0.trans (KeepsOthers.setCell _ _ _)).trans (KeepsOthers.setCell _ _ _)).trans (KeepsOthers.setCell _ _ _)
      · rw[vals_snoc,List.find?_append,find_no hp,Option.none_or,List.find?_cons,ha]
      · have hB3:Below N w w3:=hB.trans (hp3.mono (by have:=blk_lt hb.1;omega))
        rw[hw7',hw6',hw5']
        exact((hB3.setCell (p:=⟨N+1,0,none⟩) (by simp) _).setCell (p:=⟨N+1+1,0,none⟩) (by show N<=N+1+1;omega) _).setCell (p:=⟨N+1+1+1,0,none⟩) (by show N<=N+1+1+1;omega) _
  case done=>
    rintro D ys W hD hys ⟨⟨hne,hb⟩,hB⟩ hK
    exfalso
    have:cutS d=none:=by unfold cutS;rw[←hys];exact find_no hne
    rw[this]at hi;cases hi
  case stop=>
    rintro D c pre W hD hpre ⟨⟨rfl,j,hj,hb⟩,hB⟩ hK
    have hij:j=i:=by
      obtain⟨t,ht⟩:=hpre
      have:cutS d=some j:=by unfold cutS;rw[←ht,List.find?_append,hj];rfl
      rw[this]at hi;exact Option.some.inj hi
    subst hij
    subst hN
    gi_wp2
    refine⟨by simp,.inl ⟨_,_,rfl,run_takeDeferred hK,?_⟩⟩
    have hg:=grownBy_putObj' W D (.deferred none)
    have hr:∀r,some D=some r->∃o:Obj,W.heap[r]?=some o/\o.isCells=false:=λr e=>by cases e;exact⟨_,hK,rfl⟩
    have hb2:=hb.kept hg hr
    have c2:=cl0 hb2.2.1
    have c3:=cl0 hb2.2.2.1
    have c4:=cl0 hb2.2.2.2
    refine⟨.tuple #[.string (bs (d.take j)),.string (bs (d.drop (j+2))),.bool true],?_,rfl,?_⟩
    · simp[results,Tryz.f69,go_sem,c2,c3,c4]
    · exact hB.trans (belowK_b (w:=w) (Nat.le_refl _) W D _ _ (by omega) hK rfl rfl)
end Go.Proofs.YtjbfehippchniaaGreatDoor

/- Pre: a command, read and learnt. No condition but those stated. -/
set_option maxRecDepth 100000
set_option linter.unusedVariables false
set_option linter.unusedSimpArgs false
namespace Go.Proofs.YtjbfehippchniaaGreatDoor
open Go.Sh Go.Sh.Lx Go.Sh.Pr Go.RowKit Go.Shelf
variable {w0 w w' : World}
structure RowOk(d:List UInt8)(ps:List Pt):Prop where
  asc:Asc d
  flat:Flat d
  row:∃n,n<=1000/\rowG d n 0=some ps
  len:ps.length<=1000
def cmdW:ByteArray:=⟨#[67,79,77,77,65,78,68]⟩
structure CmdR(x:List UInt8)(a b:List Pt):Prop where
  len:x.length<=200
  one:x.contains 10=false
  dir:(dirS x).1=cmdW/\(dirS x).2.2=true
  cut:∃i,cutS (dirS x).2.1=some i/\RowOk ((dirS x).2.1.take i) a/\RowOk ((dirS x).2.1.drop (i+2)) b
  pat:patB a=true
theorem size72:sizeB Tryz.prog 72=3:=by kernel_rfl
theorem info72:(Tryz.prog.info? 72).map (λi=>(i.zero,i.size,i.bytes))=some (some (.agg #[.bool false,.slice none 0 0,.slice none 0 0]),3,56):=by kernel_rfl
def ruV(b:Bool)(s1 s2:SV):List Value:=[.bool b,.slice s1.a s1.len s1.cap,.slice s2.a s2.len s2.cap]
theorem stR {b:Nat} {c:Array Value} (c1:Bool) (s1 s2:SV) (hb:w.heap[b]?=some (.cells c 72)) (hc:c.size=3) {K:World->Prop} (hK:∀w',w'.heap[b]?=some (.cells (ruV c1 s1 s2).toArray 72)->Fr (·=b) w w'->K w'):stA Tryz.prog 72 ⟨b,0,none⟩ (ruV c1 s1 s2).toArray w K:=by
  refine⟨by rw[size72];rfl,rfl,?_⟩
  refine stL_fill (ruV c1 s1 s2) 0 c w K hb (by rw[hc];rfl) λw' h1 h2 h3 h4 h5 h6=>hK w' ?_ ⟨h4,h5,h6,by omega,λk hk hn=>h3 k hn⟩
  rw[h1];rfl
theorem add_block(a:Addr)(n:Nat):(a.add n).block=a.block:=by
  unfold Addr.add;split <;> rfl
theorem add_off(a:Addr)(n:Nat):(a.add n).off=a.off+n:=by
  unfold Addr.add;split
  · omega
  · rfl
theorem rd_small {b:Nat} {c:Array Value} {t:TypeId} (hb:w.heap[b]?=some (.cells c t)) (hc:c.size<7) (hf:Fr (·=b) w w') {s:SV} {l:List Pt} (h:RdSl w s l):RdSl w' s l:=
  ⟨h.len,h.cap,h.lim,λi x hx=>by
    obtain⟨a,ha,vs,h1,h2⟩:=h.get i x hx
    refine⟨a,ha,vs,h1,λj v hv=>?_⟩
    have h6:=h2 6 (.slice none 0 0) (by rw[show vs=ptV x from h1];rfl)
    have hne:(a.add (i * Enc.sz Pt)).block ≠ b:=λe=>by
      unfold World.cell? at h6
      rw[add_block,e,hb]at h6
      simp only[]at h6
      split at h6
      · cases h6
      · rw[add_off]at h6
        have:=(Array.getElem?_eq_some_iff.1 h6).1
        omega
    have h3:=h2 j v hv
    have hlt:(a.add (i * Enc.sz Pt)).block<w.heap.size:=by
      rcases Nat.lt_or_ge (a.add (i * Enc.sz Pt)).block w.heap.size with h9|h9
      · exact h9
      · unfold World.cell? at h3
        rw[add_block,Array.getElem?_eq_none h9]at h3
        cases h3
    rw[show w'.cell? ((a.add (i * Enc.sz Pt)).add j)=w.cell? ((a.add (i * Enc.sz Pt)).add j)from by
      unfold World.cell?
      rw[add_block,hf.block _ hlt hne]]
    exact h3⟩
theorem readRule_c(hL:Laid w0)(hM:MaxL w0){x:List UInt8}{a b:List Pt}(h:CmdR x a b):Calls Tryz.prog 38 #[.string cmdW,.string (bs (dirS x).2.1)] w0 λe w'=>Pu w0 w'/\∃s1 s2:SV,e=.returned (.tuple #[.agg (ruV true s1 s2).toArray,.bool true])/\RdSl w' s1 a/\RdSl w' s2 b:=by
  obtain⟨i,hi,ha,hb⟩:=h.cut
  have hlen:=h.len
  have htl:=trim_le2 x
  refine calls_by (F38_calls _ _ w0) λR hR=>alB λw1 hp1 hb1=>(split_c _ (by omega) hi w1).mono ?_
  rintro e w2 ⟨rfl,hp2⟩
  have hP2:=hp1.trans hp2
  obtain⟨n1,hn1,hr1⟩:=ha.row
  obtain⟨n2,hn2,hr2⟩:=hb.row
  refine⟨_,_,_,rfl,Br.f rfl ((pattern_c (hL.pu hP2) (hM.pu hP2) (by rw[List.length_take];omega) ha.asc ha.flat hn1 hr1 ha.len h.pat).mono ?_)⟩
  rintro e w3 ⟨hp3,s1,rfl,hs1⟩
  have hP3:=hP2.trans hp3
  refine⟨s1,_,rfl,(result_c (hL.pu hP3) (hM.pu hP3) (by rw[List.length_drop];omega) hb.asc hb.flat hn2 hr2 hb.len).mono ?_⟩
  rintro e w4 ⟨hp4,s2,rfl,hs2⟩
  have hP4:=hP3.trans hp4
  have hb4:=hp4.blk (hp3.blk (hp2.blk hb1))
  have hc0:(cmdW.toList == (⟨#[67,79,77,77,65,78,68]⟩:ByteArray).toList)=true:=by rw[toList_beq];exact decide_eq_true rfl
  refine⟨s2,_,rfl,Br.t rfl ?_⟩
  rw[hc0]
  refine stR true s1 s2 hb4 rfl λw5 hb5 hf5=>?_
  have hs1':=rd_small hb4 (by decide) hf5 (hs1.pu hp4)
  have hs2':=rd_small hb4 (by decide) hf5 hs2
  refine⟨_,cl hb5 0,s1,cl hb5 1,s2,cl hb5 2,hR _ _ ⟨hP4.andNew hf5 λi hi=>by rw[show i=_ from hi];exact Nat.le_refl _,s1,s2,rfl,hs1',hs2'⟩⟩
end Go.Proofs.YtjbfehippchniaaGreatDoor

/- Pre: a command, checked and learnt. No condition but those stated. -/
set_option maxRecDepth 100000
set_option linter.unusedVariables false
set_option linter.unusedSimpArgs false
namespace Go.Proofs.YtjbfehippchniaaGreatDoor
open Go.Sh Go.Sh.Lx Go.Sh.Pr Go.RowKit Go.Shelf
variable {w0 w w' : World}
theorem check_cmd_c(hL:Laid w)(hM:MaxL w){x:List UInt8}{a b:List Pt}(h:CmdR x a b):Calls Tryz.prog 17 #[.string (bs x)] w λe w'=>e=.returned (.int .i64 0)/\Pu w w':=by
  have hlen:=h.len
  refine calls_by (F17_calls _ w) λR hR=>Br.f (by rw[bs_size];exact decide_eq_false (by omega)) ((dir_c hL x (by omega)).mono ?_)
  rintro e w1 ⟨rfl,hp1⟩
  refine⟨_,_,_,rfl,?_⟩
  rw[h.dir.2]
  refine Br.f rfl ((nl_c x w1).mono ?_)
  rintro e w2 ⟨rfl,rfl⟩
  rw[h.one,h.dir.1]
  refine⟨_,rfl,Br.f rfl (Br.f (by rw[toList_beq];exact decide_eq_false (by decide)) (Br.t (by rw[toList_beq];exact decide_eq_true rfl) (Br.t (by rw[toList_beq];exact decide_eq_true rfl) ((readRule_c (hL.pu hp1) (hM.pu hp1) h).mono ?_))))⟩
  rintro e w3 ⟨hp3,s1,s2,rfl,_,_⟩
  exact⟨_,s1,s2,_,rfl,Br.f rfl (hR _ _ ⟨rfl,hp1.trans hp3⟩)⟩
structure RuA(w:World)(s:SV)(a b:List Pt):Prop where
  len:s.len=1
  row:∃s1 s2:SV,RowAt w 72 3 s (ruV true s1 s2)/\RdSl w s1 a/\RdSl w s2 b
theorem RuA.pu{s:SV}{a b:List Pt}(h:RuA w s a b)(hp:Pu w w'):RuA w' s a b:=by
  obtain⟨h1,s1,s2,h2,h3,h4⟩:=h
  exact⟨h1,s1,s2,h2.pu hp,h3.pu hp,h4.pu hp⟩
theorem ruV_one(b:Bool)(s1 s2:SV):∀u ∈ ruV b s1 s2,u.oneCell'=true:=by
  intro u hu
  simp only[ruV,List.mem_cons,List.mem_nil_iff,or_false]at hu
  rcases hu with rfl|rfl|rfl <;> rfl
theorem learn_cmd_c (hL:Laid w) (hM:MaxL w) {b m:Nat} (hS:Stm w0 w b m [] (.slice none 0 0)) {x:List UInt8} {pa pb:List Pt} (h:CmdR x pa pb):Calls Tryz.prog 19 #[.pointer (some ⟨b,0,none⟩),.string (dirS x).1,.string (bs (dirS x).2.1)] w λe w'=>e=.returned (.int .i64 0)/\∃s:SV,Stm w0 w' b m [] (.slice s.a s.len s.cap)/\RuA w' s pa pb:=by
  refine calls_by (F19_calls _ _ _ w) λR hR=>?_
  rw[h.dir.1]
  refine Br.f (by rw[toList_beq];exact decide_eq_false (by decide)) (Br.f (by rw[toList_beq];exact decide_eq_false (by decide)) ((readRule_c hL hM h).mono ?_))
  rintro e w1 ⟨hp1,s1,s2,rfl,hs1,hs2⟩
  have h1:=hS.pu hp1
  have hblt:=blk_lt h1.blk
  have hz1:=h1.since.size
  refine⟨_,s1,s2,_,rfl,alB λw2 hp2 hb2=>?_⟩
  have h2:=h1.pu hp2
  refine stR true s1 s2 hb2 rfl λw3 hb3 hf3=>?_
  have hp3:Pu w0 w3:=h2.since.andNew hf3 λi hi=>by rw[show i=_ from hi];exact hz1
  have hk3:w3.heap[b]?=some (.cells #[.map (some m),.slice none 0 0] 46):=hf3.blk h2.blk (by omega)
  have hm3:Go.Sh.MapAt w3 ekS slV m (([]:Defs).map λx=>(x.1,x.2.1)):=by
    obtain⟨es,clk,hmb,_⟩:=h1.map
    have:=blk_lt hmb
    exact h2.map.fr hf3 (by omega)
  have hs13:=rd_small hb2 (by decide) hf3 (hs1.pu hp2)
  have hs23:=rd_small hb2 (by decide) hf3 (hs2.pu hp2)
  refine Br.f rfl (dwE_intro λw4 hp4 _=>⟨λu=>Pu w4 u,Pu.refl _,?_⟩)
  rw[ptrE_some]
  have hk4:=hp4.blk hk3
  have hb4:=hp4.blk hb3
  refine⟨⟨none,0,0⟩,λu hu=>cl (hu.blk hk4) 1,_,λu hu=>cl (hu.blk hb4) 0,s1,λu hu=>cl (hu.blk hb4) 1,s2,λu hu=>cl (hu.blk hb4) 2,alB λw5 hp5 hb5=>⟨hp5,?_⟩⟩
  obtain⟨s,w6,hrun,hrow,hf6,_,hsl⟩:=row_append_any (P:=Tryz.prog) (w:=w5) (t:=44) (ty:=44) Tryz.underlying44 info72 rfl (by decide) (RowAt.nil w5 72 3) (A:=some ⟨w4.heap.size,0,none⟩) (m:=1) (c:=1) (news:=ruV true s1 s2) rfl (λj u hu=>⟨_,rfl,by rw[cl hb5];simpa[ruV] using hu⟩) (ruV_one _ _ _) (by decide)
  have hp6:Pu w5 w6:=hf6.toPu λi hi=>by simp[blkOf]at hi
  refine⟨s,w6,hrun,?_⟩
  rw[ptrE_some]
  have hP36:=hp4.trans (hp5.trans hp6)
  have hk6:=hP36.blk hk3
  refine st1_intro (b:=b) (o:=1) hk6 (by show 1<2;omega) λw7 hw7 hb7=>hR _ _ ⟨rfl,s,?_,?_⟩
  all_goals have hf7:Fr (·=b) w6 w7:=by rw[hw7];exact Fr.setCell w6 ⟨b,1,none⟩ _
  · have hmb:m ≠ b:=λe=>by
      obtain⟨es,clk,hmb,_⟩:=h1.map
      rw[e,h1.blk]at hmb;cases hmb
    exact⟨(hp3.trans hP36).andNew hf7 λi hi=>by rw[show i=b from hi];exact h1.nb,h1.nb,h1.nm,hb7,(hm3.pu hP36).fr hf7 hmb,λy hy=>by cases hy⟩
  · refine⟨by simpa using hsl,s1,s2,?_,rd_small hk6 (by show 2<7;omega) hf7 (hs13.pu hP36),rd_small hk6 (by show 2<7;omega) hf7 (hs23.pu hP36)⟩
    exact(by simpa using hrow:RowAt w6 72 3 s (ruV true s1 s2)).fr hf7 λk hk e=>by
      rw[show k=b from e]at hk
      exact hrow.other hk6 (by decide) hk
end Go.Proofs.YtjbfehippchniaaGreatDoor

/- Pre: the matcher: is a token a part. No condition but those stated. -/
set_option maxRecDepth 100000
set_option linter.unusedVariables false
set_option linter.unusedSimpArgs false
namespace Go.Proofs.YtjbfehippchniaaGreatDoor
open Go.Sh Go.Sh.Lx Go.Sh.Pr Go.RowKit Go.Shelf
variable {w0 w w' : World}
def isP(full:Bool)(t:Tok)(p:Pt):Bool:=if t.kind ≠ p.t.kind then false else if t.kind=0/\full=true then(fullS (t.text.data.toList.map capU) [p.t.text]).2 else decide (t.text=p.t.text)
structure Mst (w0 w:World) (r m:Nat) (s:SV) (T:List (Tok × SV)) (i:Nat) (full:Bool):Prop where
  since:Pu w0 w
  nr:w0.heap.size<=r
  nm:w0.heap.size<=m
  blk:w.heap[r]?=some (.cells #[.slice s.a s.len s.cap,.int .i64 (i:Int),.bool full,.map (some m)] 186)
  cells0:CellsR w0 s T
theorem Mst.cells {r m i:Nat} {s:SV} {T:List (Tok × SV)} {f:Bool} (h:Mst w0 w r m s T i f):CellsR w s T:=h.cells0.pu h.since
theorem Mst.pu {r m i:Nat} {s:SV} {T:List (Tok × SV)} {f:Bool} (h:Mst w0 w r m s T i f) (hp:Pu w w'):Mst w0 w' r m s T i f:=⟨h.since.trans hp,h.nr,h.nm,hp.blk h.blk,h.cells0⟩
theorem mis_c {r m i:Nat} {s:SV} {T:List (Tok × SV)} {f:Bool} (h:Mst w0 w r m s T i f) (t:Tok × SV) (p:Pt) (ht:t.1.text.size<=140737488355328):Calls Tryz.prog 193 #[.pointer (some ⟨r,0,none⟩),.agg (ftV t).toArray,.agg (ptV p).toArray] w λe w'=>e=.returned (.bool (isP f t.1 p))/\Pu w w':=by
  refine calls_by (F193_calls _ _ _ _ _ _ _ _ _ _ ⟨none,0,0⟩ ⟨none,0,0⟩ w) λR hR=>alB λw1 hp1 hb1=>alB λw2 hp2 hb2=>?_
  have hb1:=hp2.blk hb1
  have hP:=hp1.trans hp2
  have h2:=h.pu hP
  refine⟨_,cl0 hb1,_,cl hb2 1,Br.of (λq=>hR _ _ ⟨?_,hP⟩) (λq=>⟨_,cl0 hb1,?_⟩)⟩
  · have q:t.1.kind ≠ p.t.kind:=by simpa using q
    unfold isP;rw[if_pos q]
  have q:t.1.kind=p.t.kind:=by simpa using q
  have same:∀{K:Prop},¬(t.1.kind=0/\f=true)->(R (.returned (.bool (t.1.text.toList == p.t.text.toList))) w2):=λ{K} hn=>hR _ _ ⟨by
    unfold isP;rw[if_neg (by simpa using q),if_neg hn,toList_beq],hP⟩
  have a2:w2.cell? (((⟨w1.heap.size,0,none⟩:Addr).add 1).add 2)=some (.string p.t.text):=cl hb2 3
  refine Br.of (λq1=>?_) (λq1=>⟨_,cl hb1 2,_,a2,same (K:=True) λh=>bfalse q1 h.1⟩)
  have q1:t.1.kind=0:=btrue q1
  rw[ptrE_some]
  refine⟨_,cl h2.blk 2,Br.of (λq3=>?_) (λq3=>⟨_,cl hb1 2,_,a2,same (K:=True) λh=>by rw[h.2]at q3;cases q3⟩)⟩
  refine⟨_,cl hb1 2,_,a2,alB λw3 hp3 hb3=>?_⟩
  have hs:RdSl w3 (⟨some ⟨w2.heap.size,0,none⟩,1,1⟩:SV) [p.t.text]:=⟨rfl,Nat.le_refl _,(by decide:(1:Nat)<=140737488355328),λj x hx=>by
    cases j with
    | zero=>
      cases hx
      exact⟨_,rfl,[.string p.t.text],rfl,λj v hv=>by
        cases j with
        | zero=>cases hv;exact cl0 hb3
        | succ j=>simp at hv⟩
    | succ j=>simp at hx⟩
  have hc:=full_c hs t.1.text.data.toList (by rw[size_list];exact ht)
  rw[list_bs]at hc
  refine hc.mono ?_
  rintro e w4 ⟨rfl,hp4⟩
  refine⟨_,_,rfl,hR _ _ ⟨?_,hP.trans (hp3.trans hp4)⟩⟩
  unfold isP;rw[if_neg (by simpa using q),if_pos ⟨q1,q3⟩]
theorem CellsR.at {s:SV} {T:List (Tok × SV)} (h:CellsR w s T) {i:Nat} {t:Tok × SV} (ht:T[i]?=some t):∃a,s.a=some a/\(0:Int)<=(i:Int)/\(i:Int)<((s.len:Nat):Int)/\∀(o:Nat) (v:Value),(ftV t)[o]?=some v->w.cell? ((a.add (((i:Int)).toNat * 4)).add o)=some v:=by
  have hlt:=(List.getElem?_eq_some_iff.1 ht).1
  have key:∀(o:Nat) (v:Value),(ftV t)[o]?=some v->(T.flatMap ftV)[i * 4+o]?=some v:=λo v hv=>by
    have ho:o<4:=by have:=(List.getElem?_eq_some_iff.1 hv).1;rwa [ftV_len]at this
    clear h
    induction T generalizing i with
    | nil=>cases ht
    | cons y T ih=>
      rw[List.flatMap_cons]
      cases i with
      | zero=>
        cases ht
        rw[List.getElem?_append_left (by rw[ftV_len];omega),Nat.zero_mul,Nat.zero_add];exact hv
      | succ i=>
        rw[List.getElem?_append_right (by rw[ftV_len];omega),ftV_len,show(i+1) * 4+o - 4=i * 4+o by omega]
        exact ih (by simpa using ht) (by simp at hlt;omega)
  obtain⟨a,ha,_⟩:=h.2 _ _ (key 0 _ rfl)
  rw[toNat_i]
  refine⟨a,ha,by omega,by rw[h.1];omega,λo v hv=>?_⟩
  obtain⟨a',ha',hc⟩:=h.2 _ _ (key o v hv)
  rw[ha]at ha';cases ha'
  rw[Addr.add_add];exact hc
def atP (f:Bool) (T:List (Tok × SV)) (i:Nat) (p:Pt):Bool:=match T[i]? with
  | some t=>isP f t.1 p
  | none=>false
theorem mnext_c {r m i:Nat} {s:SV} {T:List (Tok × SV)} {f:Bool} (h:Mst w0 w r m s T i f) (p:Pt) (ht:∀t ∈ T,t.1.text.size<=140737488355328):Calls Tryz.prog 171 #[.pointer (some ⟨r,0,none⟩),.agg (ptV p).toArray] w λe w'=>e=.returned (.bool (atP f T i p))/\Pu w w':=by
  refine calls_by (F171_calls _ _ _ _ _ _ ⟨none,0,0⟩ ⟨none,0,0⟩ w) λR hR=>alB λw1 hp1 hb1=>dwE_intro λw2 hp2 _=>?_
  have hP:=hp1.trans hp2
  have h2:=h.pu hP
  have hb2:=hp2.blk hb1
  have hl:=h.cells.1
  simp only[ptrE_some]
  refine⟨_,cl h2.blk 1,s,cl0 h2.blk,Br.of (λq=>?_) (λq=>hR _ _ ⟨?_,hP⟩)⟩
  · have q:=dtrue q
    obtain⟨t,hti⟩:=at_k (l:=T) (k:=i) (by omega)
    obtain⟨a,ha,k1,k2,hc⟩:=h2.cells.at hti
    refine⟨s,cl0 h2.blk,_,cl h2.blk 1,a,ha,k1,k2,_,hc 0 _ rfl,_,hc 1 _ rfl,_,hc 2 _ rfl,t.2,hc 3 _ rfl,_,cl hb2 0,_,cl hb2 1,_,cl hb2 2,_,cl hb2 3,_,cl hb2 4,⟨none,0,0⟩,cl hb2 5,⟨none,0,0⟩,cl hb2 6,(mis_c h2 t p (ht t (List.mem_of_getElem? hti))).mono ?_⟩
    rintro e w3 ⟨rfl,hp3⟩
    refine⟨_,rfl,hR _ _ ⟨by unfold atP;rw[hti],hP.trans hp3⟩⟩
  · have q:=dfalse q
    unfold atP;rw[List.getElem?_eq_none (by omega)]
def firstsP:List Pt->List Pt
  | []=>[]
  | p :: _=>if p.kind=0 then [p]else []
end Go.Proofs.YtjbfehippchniaaGreatDoor

/- Pre: the matcher: rows of parts put together, the first parts. No condition but those stated. -/
set_option maxRecDepth 100000
set_option linter.unusedVariables false
set_option linter.unusedSimpArgs false
namespace Go.Proofs.YtjbfehippchniaaGreatDoor
open Go.Sh Go.Sh.Lx Go.Sh.Pr Go.RowKit Go.Shelf
variable {w0 w w' : World}
def CellsP(w:World)(s:SV)(L:List Pt):Prop:=s.len=L.length/\∀j u,(L.flatMap ptV)[j]?=some u->∃a,s.a=some a/\w.cell? (a.add j)=some u
theorem CellsP.of{s:SV}{L:List Pt}(h:RdSl w s L):CellsP w s L:=⟨h.len,cells_flat ptV_len (by decide) λi x hx=>by
  obtain⟨a,ha,vs,rfl,hc⟩:=h.get i x hx
  exact⟨a,ha,λo v hv=>hc o v hv⟩⟩
theorem push_cellsP {s m:SV} {L M:List (Pt)} (h:RowAt w 128 7 s (L.flatMap ptV)) (hn:NewR w0 s) (hp:Pu w0 w) (hm:CellsP w0 m M) (hl:L.length+M.length<=100000) :
    ∃(s':SV) (w':World),(Builtin.append_ #[70,70] 70 #[.slice s.a s.len s.cap,.slice m.a m.len m.cap]).run Tryz.prog w=.ok (.slice s'.a s'.len s'.cap) w'/\RowAt w' 128 7 s' ((L ++ M).flatMap ptV)/\Pu w0 w'/\NewR w0 s':=by
  have hsl:=h.len ptV_len (by decide)
  have hml:=hm.1
  obtain⟨s',w',h1,h2,h3,h4,_⟩:=row_append_any (P:=Tryz.prog) (t:=70) (ty:=70) Tryz.underlying70 info128 rfl (by decide) h (A:=m.a) (m:=m.len) (c:=m.cap) (news:=M.flatMap ptV) (by rw[flatMap_len ptV_len];omega) (λj u hu=>by
    obtain⟨a,ha,hcc⟩:=hm.2 j u hu
    exact⟨a,ha,hp.cell hcc⟩) (λu hu=>by
    obtain⟨x,_,hx⟩:=List.mem_flatMap.1 hu
    exact ptV_one x u hx) (by omega)
  refine⟨s',w',h1,by rw[List.flatMap_append];exact h2,hp.andNew h3 λi hi=>hn i hi,λi hi=>?_⟩
  rcases h4 i hi with h|h
  · exact hn i h
  · have:=hp.size;omega
def Tryz.lays4p_ren:Go.Shelf.Ren:=⟨fun|4=>197|n=>n,fun|22=>70|25=>128|n=>n,fun|n=>n⟩
theorem Tryz.lays4p:Go.Proofs.Lays8.n4 Tryz.prog Tryz.lays4p_ren:={
  mixed:=by kernel_rfl
  f4:=⟨Tryz.f197.name,by kernel_rfl,Tryz.func197.trans (congrArg some (by kernel_rfl))⟩
  t0:=Tryz.underlying0
  a0:=Tryz.isAgg0
  z0:=Tryz.sizeOf0
  v0:=Tryz.zeroValue0
  t3:=Tryz.underlying3
  a3:=Tryz.isAgg3
  z3:=Tryz.sizeOf3
  v3:=Tryz.zeroValue3
  t4:=Tryz.underlying4
  a4:=Tryz.isAgg4
  z4:=Tryz.sizeOf4
  v4:=Tryz.zeroValue4
  t9:=Tryz.underlying9
  a9:=Tryz.isAgg9
  z9:=Tryz.sizeOf9
  v9:=Tryz.zeroValue9
  t20:=Tryz.underlying20
  a20:=Tryz.isAgg20
  z20:=Tryz.sizeOf20
  v20:=Tryz.zeroValue20
  t22:=Tryz.underlying70
  a22:=Tryz.isAgg70
  z22:=Tryz.sizeOf70
  v22:=Tryz.zeroValue70 }
theorem growP_c(n:Nat)(hn:n<=100000)(w:World):Calls Tryz.prog 197 #[.slice none 0 0,.int .i64 (n:Int)] w λe w'=>Pu w w'/\∃s:SV,e=.returned (.slice s.a s.len s.cap)/\RowAt w' 128 7 s []/\∀k ∈ blkOf s,w.heap.size<=k:=by
  by_cases h0:n=0
  · subst h0
    refine(Any8.slices_Grow_room Tryz.lays4p none 0 0 0 w (by omega) (by omega) (by omega) (by omega)).mono ?_
    rintro e w' ⟨rfl,rfl⟩
    exact⟨Pu.refl _,⟨none,0,0⟩,rfl,RowAt.nil _ _ _,by simp[blkOf]⟩
  · obtain⟨i,hi,hz,hs,hb⟩:=info_parts info128
    refine(Any8.slices_Grow_grow Tryz.lays4p i _ hi hz (by omega) none 0 0 n [] w (by omega) (by omega) (by rw[hb];omega) (by omega) (by simp) (λ_=>rfl) (by simp)).mono ?_
    rintro e w' ⟨rfl,rfl⟩
    have hG:=grownCap_ge w (0+n) 0 (Tryz.lays4p_ren.t 25)
    have hG2:=grownCap_le_maxLen w (0+n) 0 (Tryz.lays4p_ren.t 25) (by unfold maxLen;omega)
    have hb2:∀o,(w.drew.alloc o).heap[w.heap.size]?=some o:=λo=>alloc_new w.drew o
    refine⟨(Pu.drew w).trans (Pu.alloc _ _),⟨some ⟨w.heap.size,0,none⟩,0,_⟩,rfl,⟨rfl,.inr ⟨w.heap.size,_,rfl,hb2 _,Nat.zero_le _,hG2,?_,?_⟩⟩,by simp[blkOf]⟩
    · have e4:(Value.agg #[.int .i64 0,.int .i64 0,.int .i64 0,.string ⟨#[]⟩,.string ⟨#[]⟩,.slice none 0 0,.slice none 0 0]).cells.size=7:=rfl
      simp only[Array.size_append,size_zeroCells,e4]
      have h0:(#[]:Array Value).size=0:=rfl
      rw[h0]
      show 0+(0+n - 0) * 7+(grownCap w (0+n) 0 128 - (0+n)) * 7=grownCap w (0+n) 0 128 * 7
      have hG3:0+n<=grownCap w (0+n) 0 128:=hG
      omega
    · simp
theorem concatP_c {r:Nat} {rows:List (SV × List (Pt))} (hb:w0.heap[r]?=some (.cells (rows.map λx=>slV x.1).toArray 70)) (hr:∀x ∈ rows,CellsP w0 x.1 x.2) (hn:rows.length<=10) (hl:(rows.flatMap Prod.snd).length<=100000) :
    Calls Tryz.prog 173 #[.slice (some ⟨r,0,none⟩) rows.length rows.length] w0 λe w'=>Pu w0 w'/\∃s:SV,e=.returned (.slice s.a s.len s.cap)/\RowAt w' 128 7 s ((rows.flatMap Prod.snd).flatMap ptV)/\NewR w0 s:=by
  have hcell:∀{w:World},Pu w0 w->∀(k:Nat) (x:SV × List (Pt)),rows[k]?=some x->w.cell? ((⟨r,0,none⟩:Addr).add ((k:Int).toNat * 1))=some (.slice x.1.a x.1.len x.1.cap):=λ{w} hp k x hx=>by
    rw[toNat_i,Nat.mul_one,cl (hp.blk hb)]
    simp[hx,slV]
  have hpre:∀{k:Nat} {x:SV × List (Pt)},rows[k]?=some x->(rows.take (k+1)).flatMap Prod.snd=(rows.take k).flatMap Prod.snd ++ x.2:=λ{k x} hx=>by
    rw[take_at hx,List.flatMap_append];simp
  have hle:∀k,((rows.take k).flatMap Prod.snd).length<=(rows.flatMap Prod.snd).length:=λk=>by
    conv=>rhs;rw[←List.take_append_drop k rows,List.flatMap_append,List.length_append]
    omega
  refine calls_by (F173_calls ⟨some ⟨r,0,none⟩,rows.length,rows.length⟩ w0) λR hR=>?_
  refine loopUp rows.length (λk t w'=>t=(((((rows.take k).flatMap Prod.snd).length:Nat):Int),(k:Int))/\w'=w0) ⟨rfl,rfl⟩ ?_
  rintro k J t w1 hk ⟨rfl,rfl⟩ hJ
  dsimp only
  refine Br.of (λq=>?_) (λq=>?_)
  · have q:=dtrue q
    have hk2:k<rows.length:=by omega
    obtain⟨x,hx⟩:=at_k hk2
    have hxl:=(hr x (List.mem_of_getElem? hx)).1
    have e1:=congrArg List.length (hpre hx)
    rw[List.length_append]at e1
    have h2:=hle (k+1)
    refine⟨_,rfl,by omega,by omega,_,hcell (Pu.refl _) k x hx,?_⟩
    rw[wrap_in (by omega) (by omega),wrap_in (by omega) (by omega)]
    refine Br.f (decide_eq_false (by omega)) (hJ _ _ hk2 ⟨?_,rfl⟩)
    rw[e1,hxl]
    congr 1
  · have q:=dfalse q
    obtain rfl:k=rows.length:=by omega
    rw[List.take_length]
    refine(growP_c _ hl w1).mono ?_
    rintro e w2 ⟨hp2,s,rfl,hr2,hn2⟩
    refine⟨s,rfl,?_⟩
    refine loopUp rows.length (λk t w'=>∃s':SV,t=(s',(k:Int))/\Pu w1 w'/\RowAt w' 128 7 s' (((rows.take k).flatMap Prod.snd).flatMap ptV)/\NewR w1 s') ⟨s,rfl,hp2,hr2,hn2⟩ ?_
    rintro k J t w3 hk3 ⟨s',rfl,hp3,hr3,hn3⟩ hJ
    dsimp only
    refine Br.of (λq2=>?_) (λq2=>?_)
    · have q2:=dtrue q2
      have hk2:k<rows.length:=by omega
      obtain⟨x,hx⟩:=at_k hk2
      have hrx:=hr x (List.mem_of_getElem? hx)
      have e1:=congrArg List.length (hpre hx)
      rw[List.length_append]at e1
      have h2:=hle (k+1)
      refine⟨_,rfl,by omega,by dsimp only;omega,_,hcell hp3 k x hx,?_⟩
      obtain⟨s2,w4,hrun,hr4,hp4,hn4⟩:=push_cellsP hr3 hn3 hp3 hrx (by omega)
      refine⟨s2,w4,hrun,?_⟩
      rw[wrap_in (by omega) (by omega)]
      refine hJ _ _ hk2 ⟨s2,by rw[show(k:Int)+1=((k+1:Nat):Int)by omega],hp4,?_,hn4⟩
      rw[hpre hx];exact hr4
    · have q2:=dfalse q2
      obtain rfl:k=rows.length:=by omega
      rw[List.take_length]at hr3
      exact hR _ _ ⟨hp3,s',rfl,hr3,hn3⟩
end Go.Proofs.YtjbfehippchniaaGreatDoor

/- Pre: the matcher: the first parts; an expression's end. No condition but those stated. -/
set_option maxRecDepth 100000
set_option linter.unusedVariables false
set_option linter.unusedSimpArgs false
namespace Go.Proofs.YtjbfehippchniaaGreatDoor
open Go.Sh Go.Sh.Lx Go.Sh.Pr Go.RowKit Go.Shelf
variable {w0 w w' : World}
theorem firsts_c{s:SV}{ps:List Pt}(hs:RdSl w s ps)(hk:∀p ∈ ps,p.kind=0∨p.kind=1):Calls Tryz.prog 175 #[.slice s.a s.len s.cap] w λe w'=>Pu w w'/\∃s':SV,e=.returned (.slice s'.a s'.len s'.cap)/\RdSl w' s' (firstsP ps):=by
  have hsl:=hs.len
  refine calls_by (F175_calls _ w) λR hR=>?_
  intro J hJ
  refine hJ _ _ ?_
  cases ps with
  | nil=>exact Br.f (decide_eq_false (by simp at hsl;show ¬(0:Int)<_;omega)) (hR _ _ ⟨Pu.refl _,⟨none,0,0⟩,rfl,RdSl.nil _ _ _⟩)
  | cons p ps=>
    rw[List.length_cons]at hsl
    refine Br.t (decide_eq_true (by show(0:Int)<_;omega)) ?_
    obtain⟨a,ha,h1,h2,hc⟩:=RdSl.pt hs (i:=0) (p:=p) rfl
    refine⟨a,ha,h1,h2,_,hc 0 _ rfl,_,hc 1 _ rfl,_,hc 2 _ rfl,_,hc 3 _ rfl,_,hc 4 _ rfl,⟨none,0,0⟩,hc 5 _ rfl,⟨none,0,0⟩,hc 6 _ rfl,?_⟩
    refine boxA (vs:=(ptV p).toArray) (zs:=pz) rfl (by rw[size128];rfl) rfl λw2 hp2 hz2 hb2=>⟨_,cl0 hb2,Br.of (λq=>?_) (λq=>?_)⟩
    · have q:p.kind=0:=btrue q
      refine⟨_,cl hb2 0,_,cl hb2 1,_,cl hb2 2,_,cl hb2 3,_,cl hb2 4,⟨none,0,0⟩,cl hb2 5,⟨none,0,0⟩,cl hb2 6,alB λw3 hp3 hb3=>?_⟩
      obtain⟨s2,w4,hrun,hr4,hf4,hn4⟩:=push_pt (s:=⟨none,0,0⟩) (L:=[]) (RowAt.nil w3 128 7) (by simp) p hb3
      have hp4:Pu w3 w4:=hf4.toPu λi hi=>by simp[blkOf]at hi
      refine⟨s2,w4,hrun,hR _ _ ⟨hp2.trans (hp3.trans hp4),s2,rfl,?_⟩⟩
      rw[show firstsP (p :: ps)=[p]from if_pos q]
      exact rd_pts hr4 (by simp)
    · have q:¬p.kind=0:=bfalse q
      have h1:p.kind=1:=(hk p List.mem_cons_self).resolve_left q
      refine Br.f (by rw[h1];rfl) (hR _ _ ⟨hp2,⟨none,0,0⟩,rfl,?_⟩)
      rw[show firstsP (p :: ps)=[]from if_neg q]
      exact RdSl.nil _ _ _
theorem clos_c {r m i b1 b2:Nat} {s:SV} {T:List (Tok × SV)} {f:Bool} (h:Mst w0 w r m s T i f) (h1:w.heap[b1]?=some (.cells #[.pointer (some ⟨r,0,none⟩)] 184)) {t:Tok × SV} (h2:w.heap[b2]?=some (.cells (ftV t).toArray 112)) (ht:t.1.text.size<=140737488355328) (p:Pt) :
    Calls Tryz.prog 204 #[.agg (ptV p).toArray,.pointer (some ⟨b1,0,none⟩),.pointer (some ⟨b2,0,none⟩)] w λe w'=>e=.returned (.bool (isP f t.1 p))/\Pu w w':=by
  refine calls_by (F204_calls _ _ _ _ _ ⟨none,0,0⟩ ⟨none,0,0⟩ _ _ w) λR hR=>alB λw1 hp1 hb1=>?_
  have g1:=hp1.blk h1
  have g2:=hp1.blk h2
  refine⟨_,cl0 g1,_,cl g2 0,_,cl g2 1,_,cl g2 2,t.2,cl g2 3,_,cl hb1 0,_,cl hb1 1,_,cl hb1 2,_,cl hb1 3,_,cl hb1 4,⟨none,0,0⟩,cl hb1 5,⟨none,0,0⟩,cl hb1 6,(mis_c (h.pu hp1) t p ht).mono ?_⟩
  rintro e w2 ⟨rfl,hp2⟩
  exact⟨_,rfl,hR _ _ ⟨rfl,hp1.trans hp2⟩⟩
theorem any_drop {α:Type} {l:List α} {k:Nat} {x:α} (hx:l[k]?=some x) (g:α->Bool) (h:∀(j:Nat) (y:α),j<k->l[j]?=some y->g y=false):l.any g=(g x || (l.drop (k+1)).any g):=by
  have e:l.any g=((l.take k).any g || (l.drop k).any g):=by rw[←List.any_append,List.take_append_drop]
  have e1:(l.take k).any g=false:=by
    rw[List.any_eq_false]
    intro y hy
    obtain⟨j,hj⟩:=List.mem_iff_getElem?.1 hy
    rw[List.getElem?_take]at hj
    split at hj
    · rename_i hj2
      rw[h j y hj2 hj];decide
    · cases hj
  rw[e,e1,Bool.false_or,drop_at hx,List.any_cons]
theorem many_p {r m i b1 b2:Nat} {s:SV} {T:List (Tok × SV)} {f:Bool} (h:Mst w0 w r m s T i f) (h1:w.heap[b1]?=some (.cells #[.pointer (some ⟨r,0,none⟩)] 184)) {t:Tok × SV} (h2:w.heap[b2]?=some (.cells (ftV t).toArray 112)) (ht:t.1.text.size<=140737488355328) {q:SV} {ps:List Pt} (hq:RdSl w q ps) :
    Calls Tryz.prog 152 #[.slice q.a q.len q.cap,.func (.func 204) #[] #[.pointer (some ⟨b1,0,none⟩),.pointer (some ⟨b2,0,none⟩)]] w λe w'=>e=.returned (.bool (ps.any (isP f t.1)))/\Pu w w':=by
  have hql:=hq.len
  have hlim:=hq.lim
  have idx:Calls Tryz.prog 176 #[.slice q.a q.len q.cap,.func (.func 204) #[] #[.pointer (some ⟨b1,0,none⟩),.pointer (some ⟨b2,0,none⟩)]] w λe w'=>∃n:Int,e=.returned (.int .i64 n)/\decide (n ≥ 0)=ps.any (isP f t.1)/\Pu w w':=by
    refine calls_by (F176_calls _ _ w) λR hR=>loopUp ps.length (λk n w'=>n=(k:Int)/\Pu w w'/\∀(j:Nat) (y:Pt),j<k->ps[j]?=some y->isP f t.1 y=false) ⟨rfl,Pu.refl _,λj y h=>by omega⟩ ?_
    rintro k J n w1 hk ⟨rfl,hp1,hall⟩ hJ
    refine Br.of (λc=>?_) (λc=>?_)
    · have c:=dtrue c
      obtain⟨p,hp⟩:=at_k (l:=ps) (k:=k) (by omega)
      obtain⟨a,ha,k1,k2,hc⟩:=RdSl.pt (hq.pu hp1) hp
      refine⟨a,ha,k1,k2,_,hc 0 _ rfl,_,hc 1 _ rfl,_,hc 2 _ rfl,_,hc 3 _ rfl,_,hc 4 _ rfl,⟨none,0,0⟩,hc 5 _ rfl,⟨none,0,0⟩,hc 6 _ rfl,?_⟩
      rw[fnE_mk]
      refine⟨by decide +kernel,(clos_c (h.pu hp1) (hp1.blk h1) (hp1.blk h2) ht p).mono ?_⟩
      rintro e w2 ⟨rfl,hp2⟩
      refine⟨_,rfl,Br.of (λq2=>hR _ _ ⟨_,rfl,?_,hp1.trans hp2⟩) (λq2=>?_)⟩
      · rw[any_drop hp _ hall,q2,Bool.true_or]
        exact decide_eq_true (by omega)
      · rw[wrap_in (by omega) (by omega)]
        refine hJ _ _ (by omega) ⟨by omega,hp1.trans hp2,λj z hj hz=>?_⟩
        by_cases e:j=k
        · subst e;rw[hp]at hz;cases hz;exact q2
        · exact hall j z (by omega) hz
    · have c:=dfalse c
      refine hR _ _ ⟨_,rfl,?_,hp1⟩
      rw[show ps.any (isP f t.1)=false from by
        rw[List.any_eq_false]
        intro y hy
        obtain⟨j,hj⟩:=List.mem_iff_getElem?.1 hy
        rw[hall j y (by have:=(List.getElem?_eq_some_iff.1 hj).1;omega) hj];decide]
      decide
  refine calls_by (F152_calls _ _ w) λR hR=>idx.mono ?_
  rintro e w1 ⟨n,rfl,hn,hp⟩
  exact⟨_,rfl,hR _ _ ⟨by rw[hn],hp⟩⟩
end Go.Proofs.YtjbfehippchniaaGreatDoor
