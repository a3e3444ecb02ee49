import Derived.Test.YtjbfehippchniaaGreatDoorPrOwE
import Derived.Test.YtjbfehippchniaaGreatDoorPrPrA
import Derived.Shelf.Spec.SlicesGrow
import Derived.Test.YtjbfehippchniaaGreatDoorPrHead
import Derived.Test.YtjbfehippchniaaGreatDoorShTwentyNine
import Derived.Test.YtjbfehippchniaaGreatDoorShThirtyOne
import Derived.Test.YtjbfehippchniaaGreatDoorShEleven
/- Pre: rows copied and put together. No condition but those stated. -/
set_option maxRecDepth 100000
set_option linter.unusedVariables false
set_option linter.unusedSimpArgs false
namespace Go.Proofs.YtjbfehippchniaaGreatDoor
open Go.Sh Go.Sh.Lx Go.Sh.Pr Go.RowKit Go.Shelf
variable {w0 w w' : World}
def slV(s:SV):Value:=.slice s.a s.len s.cap
def CloneR(w:World)(e:TypeId)(sz:Nat)(news:List Value):Rt:=λx w'=>∃q:SV,x=.returned (slV q)/\RowAt w' e sz q news/\(∀b ∈ blkOf q,w.heap.size<=b)/\Pu w w'
theorem clone_any {t e:TypeId} {sz b:Nat} {z:Value} (ht:Tryz.prog.underlying t=some (.slice e)) (hi:(Tryz.prog.info? e).map (λi=>(i.zero,i.size,i.bytes))=some (some z,sz,b)) (hz:z.cells.size=sz) (hsz:0<sz)
    (s:SV) {news:List Value} (hl:news.length=s.len * sz) (hn:∀j u,news[j]?=some u->∃a,s.a=some a/\w.cell? (a.add j)=some u) (h1:∀u ∈ news,u.oneCell'=true) (hb:s.len * (b+1)<=140737488355328) :
    ∃b4:Bool,∃w1:World,(eqS .eql t (.tmp 3) (.const (.slice none 0 0)) (.slice s.a s.len s.cap) (.slice none 0 0)).run Tryz.prog w=.ok (.bool b4) w1/\
    Br b4 (CloneR w e sz news (.returned (.slice none 0 0)) w1) (alE (.cells #[] e) w1 λr5 w3=>
      ∃l7:SV,∃w4:World,(Builtin.append_ #[t,t] t #[.slice (some ⟨r5,0,none⟩) 0 0,.slice s.a s.len s.cap]).run Tryz.prog w3=.ok (.slice l7.a l7.len l7.cap) w4/\CloneR w e sz news (.returned (.slice l7.a l7.len l7.cap)) w4):=by
  refine⟨_,w,eqS_slice_nil ht _ _ _ _ _ w,Br.of (λhn'=>?_) (λhn'=>?_)⟩
  · have hl0:news=[]:=by
      cases news with
      | nil=>rfl
      | cons v l=>
        obtain⟨a,ha,_⟩:=hn 0 v rfl
        rw[ha]at hn';cases hn'
    subst hl0
    exact⟨⟨none,0,0⟩,rfl,RowAt.nil _ _ _,by simp[blkOf],Pu.refl w⟩
  · refine alE_intro λw1 hw1=>?_
    have hp1:Pu w w1:=by rw[hw1];exact Pu.alloc w _
    have hr0:RowAt w1 e sz ⟨some ⟨w.heap.size,0,none⟩,0,0⟩ []:=⟨by simp,.inr ⟨_,#[],rfl,by rw[hw1];exact alloc_new w _,Nat.le_refl _,Nat.zero_le _,by simp,by simp⟩⟩
    obtain⟨q,w2,hr,hrow,hf,hblk,_⟩:=row_append_any (P:=Tryz.prog) (ty:=t) ht hi hz hsz hr0 (A:=s.a) (m:=s.len) (c:=s.cap) (news:=news) hl (λj u hu=>by
      obtain⟨a,ha,hc⟩:=hn j u hu
      exact⟨a,ha,hp1.cell hc⟩) h1 (by show(0+s.len) * (b+1)<=_;rw[Nat.zero_add];exact hb)
    rw[List.nil_append]at hrow
    refine⟨q,w2,hr,q,rfl,hrow,λb hb=>?_,hp1.andNew hf λb hb=>by simp[blkOf]at hb;omega⟩
    rcases hblk b hb with h|h
    · simp[blkOf]at h;omega
    · have:=hp1.size;omega
theorem cells_flat {α:Type} {cells:α->List Value} {n:Nat} (hn:∀x,(cells x).length=n) (h0:0<n) {s:SV} {l:List α} (h:∀i x,l[i]?=some x->∃a,s.a=some a/\∀o v,(cells x)[o]?=some v->w.cell? ((a.add (i * n)).add o)=some v) :
    ∀j u,(l.flatMap cells)[j]?=some u->∃a,s.a=some a/\w.cell? (a.add j)=some u:=λj u hu=>by
  have hj:j<l.length * n:=by have:=(List.getElem?_eq_some_iff.1 hu).1;rwa [flatMap_len hn]at this
  have hd:j / n<l.length:=(Nat.div_lt_iff_lt_mul h0).2 hj
  have hm:j / n * n+j % n=j:=by have:=Nat.div_add_mod j n;rw[Nat.mul_comm]at this;exact this
  obtain⟨x,hx⟩:=at_k hd
  obtain⟨a,ha,hc⟩:=h _ x hx
  have h2:=flatMap_at hn hx (j % n) (Nat.mod_lt _ h0)
  rw[hm,hu]at h2
  have h3:=hc _ u h2.symm
  rw[Addr.add_add,hm]at h3
  exact⟨a,ha,h3⟩
theorem info9:(Tryz.prog.info? 9).map (λi=>(i.zero,i.size,i.bytes))=some (some (.string ⟨#[]⟩),1,16):=by kernel_rfl
theorem rd_str {s:SV} {l:List ByteArray} (h:RowAt w 9 1 s (l.map Value.string)) (hl:l.length<=100000000000):RdSl w s l:=by
  have h1:=h.1
  rw[List.length_map]at h1
  have hc:=h.le_cap
  refine⟨by omega,hc.1,by omega,λi x hx=>?_⟩
  obtain⟨a,ha,c,_⟩:=h.cell (j:=i) (v:=.string x) (by rw[List.getElem?_map,hx];rfl)
  refine⟨a,ha,[.string x],rfl,λj v hv=>?_⟩
  obtain rfl:j=0:=by
    cases j with
    | zero=>rfl
    | succ j=>simp at hv
  cases hv
  rw[add0]
  show w.cell? (a.add (i * 1))=_
  rw[Nat.mul_one];exact c
theorem cloneS_c{s:SV}{l:List ByteArray}(h:RdSl w s l)(hb:l.length<=1000000):Calls Tryz.prog 84 #[.slice s.a s.len s.cap] w (CloneR w 9 1 (l.map Value.string)):=by
  have hl:=h.len
  refine F84_calls s w _ (clone_any Tryz.underlying33 info9 rfl (by decide) s (by rw[List.length_map];omega) (λj u hu=>?_) (λu hu=>?_) (by omega))
  · rw[List.getElem?_map]at hu
    obtain⟨x,hx,rfl⟩:=Option.map_eq_some_iff.1 hu
    obtain⟨a,ha,_,hc⟩:=h.str hx
    rw[Nat.mul_one]at hc
    exact⟨a,ha,hc⟩
  · obtain⟨x,_,rfl⟩:=List.mem_map.1 hu
    rfl
def Ftz (w:World) (L:List (Tok × SV)) (l:List Ft):Prop:=L.length=l.length/\∀(i:Nat) (x:Tok × SV) (y:Ft),L[i]?=some x->l[i]?=some y->y.t=x.1/\RdSl w x.2 y.fr/\In64 x.1.kind/\In64 x.1.at_
theorem Ftz.pu {L:List (Tok × SV)} {l:List Ft} (h:Ftz w L l) (hp:Pu w w'):Ftz w' L l:=⟨h.1,λi x y hx hy=>by
  obtain⟨h1,h2,h3⟩:=h.2 i x y hx hy
  exact⟨h1,h2.pu hp,h3⟩⟩
theorem Ftz.app {L M:List (Tok × SV)} {l m:List Ft} (h:Ftz w L l) (k:Ftz w M m):Ftz w (L ++ M) (l ++ m):=by
  obtain⟨h1,h2⟩:=h
  obtain⟨k1,k2⟩:=k
  refine⟨by rw[List.length_append,List.length_append,h1,k1],λi x y hx hy=>?_⟩
  by_cases hi:i<L.length
  · rw[List.getElem?_append_left hi]at hx
    rw[List.getElem?_append_left (by omega)]at hy
    exact h2 i x y hx hy
  · rw[List.getElem?_append_right (by omega)]at hx hy
    rw[←h1]at hy
    exact k2 _ x y hx hy
theorem Ftz.rd {s:SV} {L:List (Tok × SV)} {l:List Ft} (h:Ftz w L l) (hr:RowAt w 112 4 s (L.flatMap ftV)) (hl:l.length<=100000):RdSl w s l:=rd_fts hr h.1 hl h.2
theorem Ftz.one{t:Tok}{f:SV}{fr:List ByteArray}(hf:RdSl w f fr)(h1:In64 t.kind)(h2:In64 t.at_):Ftz w [(t,f)] [⟨t,fr⟩]:=⟨rfl,λi x y hx hy=>by
  cases i with
  | zero=>cases hx;cases hy;exact⟨rfl,hf,h1,h2⟩
  | succ i=>simp at hx⟩
theorem Ftz.nil:Ftz w [] []:=⟨rfl,λi x y hx=>by simp at hx⟩
theorem rd_open{s:SV}{l:List Ft}(h:RdSl w s l):∃L,Ftz w L l/\∀j u,(L.flatMap ftV)[j]?=some u->∃a,s.a=some a/\w.cell? (a.add j)=some u:=by
  have key:∀n,n<=l.length->∃L:List (Tok × SV),L.length=n/\∀(i:Nat) (x:Tok × SV) (y:Ft),L[i]?=some x->l[i]?=some y->(y.t=x.1/\RdSl w x.2 y.fr/\In64 x.1.kind/\In64 x.1.at_)/\∃a,s.a=some a/\∀o v,(ftV x)[o]?=some v->w.cell? ((a.add (i * 4)).add o)=some v:=by
    intro n
    induction n with
    | zero=>exact λ_=>⟨[],rfl,λi x y hx=>by simp at hx⟩
    | succ n ih=>
      intro hn
      obtain⟨L,h1,h2⟩:=ih (by omega)
      obtain⟨y,hy⟩:=at_k (l:=l) (k:=n) (by omega)
      obtain⟨a,ha,vs,⟨f,rfl,k1,k2,k3⟩,hc⟩:=h.get n y hy
      refine⟨L ++ [(y.t,f)],by simp[h1],λi x z hx hz=>?_⟩
      rcases Nat.lt_trichotomy i n with hi|hi|hi
      · rw[List.getElem?_append_left (by omega)]at hx;exact h2 i x z hx hz
      · subst hi
        rw[List.getElem?_append_right (by omega),h1,Nat.sub_self]at hx
        simp at hx;subst hx
        rw[hy]at hz;cases hz
        exact⟨⟨rfl,k1,k2,k3⟩,a,ha,λo v hv=>hc o v hv⟩
      · rw[List.getElem?_eq_none (by rw[List.length_append,h1,List.length_singleton];omega)]at hx;cases hx
  obtain⟨L,h1,h2⟩:=key l.length (Nat.le_refl _)
  refine⟨L,⟨h1,λi x y hx hy=>(h2 i x y hx hy).1⟩,cells_flat ftV_len (by decide) λi x hx=>?_⟩
  obtain⟨y,hy⟩:=at_k (l:=l) (k:=i) (by have:=(List.getElem?_eq_some_iff.1 hx).1;omega)
  exact(h2 i x y hx hy).2
def CellsR (w:World) (s:SV) (L:List (Tok × SV)):Prop:=s.len=L.length/\∀j u,(L.flatMap ftV)[j]?=some u->∃a,s.a=some a/\w.cell? (a.add j)=some u
theorem CellsR.pu {s:SV} {L:List (Tok × SV)} (h:CellsR w s L) (hp:Pu w w'):CellsR w' s L:=⟨h.1,λj u hu=>by
  obtain⟨a,ha,hc⟩:=h.2 j u hu
  exact⟨a,ha,hp.cell hc⟩⟩
theorem CellsR.of {s:SV} {L:List (Tok × SV)} (h:RowAt w 112 4 s (L.flatMap ftV)):CellsR w s L:=⟨h.len ftV_len (by decide),λj u hu=>by
  obtain⟨a,ha,hc,_⟩:=h.cell hu
  exact⟨a,ha,hc⟩⟩
theorem rd_cells{s:SV}{l:List Ft}(h:RdSl w s l):∃L,Ftz w L l/\CellsR w s L:=by
  obtain⟨L,h1,h2⟩:=rd_open h
  exact⟨L,h1,by rw[h.len,h1.1],h2⟩
theorem push_cells {s m:SV} {L M:List (Tok × SV)} (h:RowAt w 112 4 s (L.flatMap ftV)) (hn:NewR w0 s) (hp:Pu w0 w) (hm:CellsR w0 m M) (hl:L.length+M.length<=100000) :
    ∃(s':SV) (w':World),(Builtin.append_ #[84,84] 84 #[.slice s.a s.len s.cap,.slice m.a m.len m.cap]).run Tryz.prog w=.ok (.slice s'.a s'.len s'.cap) w'/\RowAt w' 112 4 s' ((L ++ M).flatMap ftV)/\Pu w0 w'/\NewR w0 s':=by
  have hsl:=h.len ftV_len (by decide)
  have hml:=hm.1
  obtain⟨s',w',h1,h2,h3,h4,_⟩:=row_append_any (P:=Tryz.prog) (t:=84) (ty:=84) Tryz.underlying84 info112 rfl (by decide) h (A:=m.a) (m:=m.len) (c:=m.cap) (news:=M.flatMap ftV) (by rw[flatMap_len ftV_len];omega) (λj u hu=>by
    obtain⟨a,ha,hcc⟩:=hm.2 j u hu
    exact⟨a,ha,hp.cell hcc⟩) (λu hu=>by
    obtain⟨x,_,hx⟩:=List.mem_flatMap.1 hu
    exact ftV_one x u hx) (by omega)
  refine⟨s',w',h1,by rw[List.flatMap_append];exact h2,hp.andNew h3 λi hi=>hn i hi,λi hi=>?_⟩
  rcases h4 i hi with h|h
  · exact hn i h
  · have:=hp.size;omega
def Tryz.lays4_ren:Go.Shelf.Ren:=⟨fun|4=>122|n=>n,fun|22=>84|25=>112|n=>n,fun|n=>n⟩
theorem Tryz.lays4:Go.Proofs.Lays8.n4 Tryz.prog Tryz.lays4_ren:={
  mixed:=by kernel_rfl
  f4:=⟨Tryz.f122.name,by kernel_rfl,Tryz.func122.trans (congrArg some (by kernel_rfl))⟩
  t0:=Tryz.underlying0
  a0:=Tryz.isAgg0
  z0:=Tryz.sizeOf0
  v0:=Tryz.zeroValue0
  t3:=Tryz.underlying3
  a3:=Tryz.isAgg3
  z3:=Tryz.sizeOf3
  v3:=Tryz.zeroValue3
  t4:=Tryz.underlying4
  a4:=Tryz.isAgg4
  z4:=Tryz.sizeOf4
  v4:=Tryz.zeroValue4
  t9:=Tryz.underlying9
  a9:=Tryz.isAgg9
  z9:=Tryz.sizeOf9
  v9:=Tryz.zeroValue9
  t20:=Tryz.underlying20
  a20:=Tryz.isAgg20
  z20:=Tryz.sizeOf20
  v20:=Tryz.zeroValue20
  t22:=Tryz.underlying84
  a22:=Tryz.isAgg84
  z22:=Tryz.sizeOf84
  v22:=Tryz.zeroValue84 }
theorem grow_c(n:Nat)(hn:n<=100000)(w:World):Calls Tryz.prog 122 #[.slice none 0 0,.int .i64 (n:Int)] w λe w'=>Pu w w'/\∃s:SV,e=.returned (.slice s.a s.len s.cap)/\RowAt w' 112 4 s []/\∀k ∈ blkOf s,w.heap.size<=k:=by
  by_cases h0:n=0
  · subst h0
    refine(Any8.slices_Grow_room Tryz.lays4 none 0 0 0 w (by omega) (by omega) (by omega) (by omega)).mono ?_
    rintro e w' ⟨rfl,rfl⟩
    exact⟨Pu.refl _,⟨none,0,0⟩,rfl,RowAt.nil _ _ _,by simp[blkOf]⟩
  · obtain⟨i,hi,hz,hs,hb⟩:=info_parts info112
    refine(Any8.slices_Grow_grow Tryz.lays4 i _ hi hz (by omega) none 0 0 n [] w (by omega) (by omega) (by rw[hb];omega) (by omega) (by simp) (λ_=>rfl) (by simp)).mono ?_
    rintro e w' ⟨rfl,rfl⟩
    have hG:=grownCap_ge w (0+n) 0 (Tryz.lays4_ren.t 25)
    have hG2:=grownCap_le_maxLen w (0+n) 0 (Tryz.lays4_ren.t 25) (by unfold maxLen;omega)
    have hb2:∀o,(w.drew.alloc o).heap[w.heap.size]?=some o:=λo=>alloc_new w.drew o
    refine⟨(Pu.drew w).trans (Pu.alloc _ _),⟨some ⟨w.heap.size,0,none⟩,0,_⟩,rfl,⟨rfl,.inr ⟨w.heap.size,_,rfl,hb2 _,Nat.zero_le _,hG2,?_,?_⟩⟩,by simp[blkOf]⟩
    · have e4:(Value.agg #[.int .i64 0,.int .i64 0,.string ⟨#[]⟩,.slice none 0 0]).cells.size=4:=rfl
      simp only[Array.size_append,size_zeroCells,e4]
      have h0:(#[]:Array Value).size=0:=rfl
      rw[h0]
      show 0+(0+n - 0) * 4+(grownCap w (0+n) 0 112 - (0+n)) * 4=grownCap w (0+n) 0 112 * 4
      have hG3:0+n<=grownCap w (0+n) 0 112:=hG
      omega
    · simp
theorem concat_c {r:Nat} {rows:List (SV × List (Tok × SV))} (hb:w0.heap[r]?=some (.cells (rows.map λx=>slV x.1).toArray 84)) (hr:∀x ∈ rows,CellsR w0 x.1 x.2) (hn:rows.length<=10) (hl:(rows.flatMap Prod.snd).length<=100000) :
    Calls Tryz.prog 85 #[.slice (some ⟨r,0,none⟩) rows.length rows.length] w0 λe w'=>Pu w0 w'/\∃s:SV,e=.returned (.slice s.a s.len s.cap)/\RowAt w' 112 4 s ((rows.flatMap Prod.snd).flatMap ftV)/\NewR w0 s:=by
  have hcell:∀{w:World},Pu w0 w->∀(k:Nat) (x:SV × List (Tok × SV)),rows[k]?=some x->w.cell? ((⟨r,0,none⟩:Addr).add ((k:Int).toNat * 1))=some (.slice x.1.a x.1.len x.1.cap):=λ{w} hp k x hx=>by
    rw[toNat_i,Nat.mul_one,cl (hp.blk hb)]
    simp[hx,slV]
  have hpre:∀{k:Nat} {x:SV × List (Tok × SV)},rows[k]?=some x->(rows.take (k+1)).flatMap Prod.snd=(rows.take k).flatMap Prod.snd ++ x.2:=λ{k x} hx=>by
    rw[take_at hx,List.flatMap_append];simp
  have hle:∀k,((rows.take k).flatMap Prod.snd).length<=(rows.flatMap Prod.snd).length:=λk=>by
    conv=>rhs;rw[←List.take_append_drop k rows,List.flatMap_append,List.length_append]
    omega
  refine calls_by (F85_calls ⟨some ⟨r,0,none⟩,rows.length,rows.length⟩ w0) λR hR=>?_
  refine loopUp rows.length (λk t w'=>t=(((((rows.take k).flatMap Prod.snd).length:Nat):Int),(k:Int))/\w'=w0) ⟨rfl,rfl⟩ ?_
  rintro k J t w1 hk ⟨rfl,rfl⟩ hJ
  dsimp only
  refine Br.of (λq=>?_) (λq=>?_)
  · have q:=dtrue q
    have hk2:k<rows.length:=by omega
    obtain⟨x,hx⟩:=at_k hk2
    have hxl:=(hr x (List.mem_of_getElem? hx)).1
    have e1:=congrArg List.length (hpre hx)
    rw[List.length_append]at e1
    have h2:=hle (k+1)
    refine⟨_,rfl,by omega,by omega,_,hcell (Pu.refl _) k x hx,?_⟩
    rw[wrap_in (by omega) (by omega),wrap_in (by omega) (by omega)]
    refine Br.f (decide_eq_false (by omega)) (hJ _ _ hk2 ⟨?_,rfl⟩)
    rw[e1,hxl]
    congr 1
  · have q:=dfalse q
    obtain rfl:k=rows.length:=by omega
    rw[List.take_length]
    refine(grow_c _ hl w1).mono ?_
    rintro e w2 ⟨hp2,s,rfl,hr2,hn2⟩
    refine⟨s,rfl,?_⟩
    refine loopUp rows.length (λk t w'=>∃s':SV,t=(s',(k:Int))/\Pu w1 w'/\RowAt w' 112 4 s' (((rows.take k).flatMap Prod.snd).flatMap ftV)/\NewR w1 s') ⟨s,rfl,hp2,hr2,hn2⟩ ?_
    rintro k J t w3 hk3 ⟨s',rfl,hp3,hr3,hn3⟩ hJ
    dsimp only
    refine Br.of (λq2=>?_) (λq2=>?_)
    · have q2:=dtrue q2
      have hk2:k<rows.length:=by omega
      obtain⟨x,hx⟩:=at_k hk2
      have hrx:=hr x (List.mem_of_getElem? hx)
      have e1:=congrArg List.length (hpre hx)
      rw[List.length_append]at e1
      have h2:=hle (k+1)
      refine⟨_,rfl,by omega,by dsimp only;omega,_,hcell hp3 k x hx,?_⟩
      obtain⟨s2,w4,hrun,hr4,hp4,hn4⟩:=push_cells hr3 hn3 hp3 hrx (by omega)
      refine⟨s2,w4,hrun,?_⟩
      rw[wrap_in (by omega) (by omega)]
      refine hJ _ _ hk2 ⟨s2,by rw[show(k:Int)+1=((k+1:Nat):Int)by omega],hp4,?_,hn4⟩
      rw[hpre hx];exact hr4
    · have q2:=dfalse q2
      obtain rfl:k=rows.length:=by omega
      rw[List.take_length]at hr3
      exact hR _ _ ⟨hp3,s',rfl,hr3,hn3⟩
end Go.Proofs.YtjbfehippchniaaGreatDoor

/- Pre: a definition is replaced, once. No condition but those stated. -/
set_option maxRecDepth 100000
set_option linter.unusedVariables false
set_option linter.unusedSimpArgs false
namespace Go.Proofs.YtjbfehippchniaaGreatDoor
open Go.Sh Go.Sh.Lx Go.Sh.Pr Go.RowKit Go.Shelf
variable {w0 w w' : World}
def ekS(s:ByteArray):Value:=.string s
abbrev Defs:=List (ByteArray × (SV × List Tok))
def dg(D:Defs)(k:ByteArray):Option (List Tok):=(AL.get D k).map Prod.snd
theorem al_map(D:Defs)(k:ByteArray):AL.get (D.map λx=>(x.1,x.2.1)) k=(AL.get D k).map Prod.fst:=by
  induction D with
  | nil=>rfl
  | cons x D ih=>
    obtain⟨a,b⟩:=x
    simp only[List.map_cons,AL.get]
    split
    · rfl
    · exact ih
theorem al_mem{D:Defs}{k:ByteArray}{v:SV × List Tok}(h:AL.get D k=some v):∃x ∈ D,x.2=v:=by
  induction D with
  | nil=>cases h
  | cons x D ih=>
    obtain⟨a,b⟩:=x
    simp only[AL.get]at h
    split at h
    · cases h;exact⟨_,List.mem_cons_self ..,rfl⟩
    · obtain⟨y,hy,e⟩:=ih h;exact⟨y,List.mem_cons_of_mem _ hy,e⟩
structure StA(w:World)(p:Addr)(D:Defs)(rs:SV):Prop where
  map:∃m,w.cell? p=some (.map (some m))/\Go.Sh.MapAt w ekS slV m (D.map λx=>(x.1,x.2.1))
  rows:∀x ∈ D,RdSl w x.2.1 x.2.2/\x.2.2.length<=1200
  rules:w.cell? (p.add 1)=some (slV rs)
theorem StA.pu{p:Addr}{D:Defs}{rs:SV}(h:StA w p D rs)(hp:Pu w w'):StA w' p D rs:=by
  obtain⟨⟨m,h1,h2⟩,h3,h4⟩:=h
  exact⟨⟨m,hp.cell h1,h2.fr (Fr.pu hp:Fr (λ_=>False) w w') (λh=>h)⟩,λx hx=>⟨(h3 x hx).1.pu hp,(h3 x hx).2⟩,hp.cell h4⟩
def defAt (f:ByteArray->Option (List Tok)) (x:Ft):Option (List Tok):=if x.t.kind=0 then(match f x.t.text with
  | some d=>if memB x.t.text x.fr then none else some d
  | none=>none)else none
def defS (f:ByteArray->Option (List Tok)):List Ft->Option (List Ft)
  | []=>none
  | x :: l=>match defAt f x with
    | some d=>some (d.map (λt=>⟨t,x.fr ++ [x.t.text]⟩) ++ l)
    | none=>(defS f l).map (x :: ·)
theorem names_c{f:SV}{fr:List ByteArray}(hf:RdSl w f fr)(x:ByteArray)(hl:fr.length<=1000000):Calls Tryz.prog 84 #[.slice f.a f.len f.cap] w λe w1=>Pu w w1/\∃q:SV,e=.returned (.slice q.a q.len q.cap)/\
    ∀(w2:World) (r:Nat),Pu w1 w2->w2.heap[r]?=some (.cells #[.string x] 9)->∃(s':SV) (w3:World),(Builtin.append_ #[33,33] 33 #[.slice q.a q.len q.cap,.slice (some ⟨r,0,none⟩) 1 1]).run Tryz.prog w2=.ok (.slice s'.a s'.len s'.cap) w3/\
      RowAt w3 9 1 s' ((fr ++ [x]).map Value.string)/\Pu w w3/\NewR w s':=by
  refine(cloneS_c hf hl).mono ?_
  rintro e w1 ⟨q,rfl,hr,hn,hp⟩
  refine⟨hp,q,rfl,λw2 r hp2 hb=>?_⟩
  obtain⟨s',w3,h1,h2,h3,h4⟩:=push_str (hr.pu hp2) (by rw[List.length_map];omega) x hb
  refine⟨s',w3,h1,by rw[List.map_append];exact h2,(hp.trans hp2).andNew h3 λi hi=>hn i hi,λi hi=>?_⟩
  rcases h4 i hi with h|h
  · exact hn i h
  · have:=(hp.trans hp2).size;omega
def Ftn (w:World) (L:List (Tok × SV)) (l:List Ft):Prop:=L.length=l.length/\∀(i:Nat) (x:Tok × SV) (y:Ft),L[i]?=some x->l[i]?=some y->y.t=x.1/\RowAt w 9 1 x.2 (y.fr.map Value.string)/\In64 x.1.kind/\In64 x.1.at_/\y.fr.length<=1000000
theorem Ftn.ftz {L:List (Tok × SV)} {l:List Ft} (h:Ftn w L l):Ftz w L l:=⟨h.1,λi x y hx hy=>by
  obtain⟨h1,h2,h3,h4,h5⟩:=h.2 i x y hx hy
  exact⟨h1,rd_str h2 (by omega),h3,h4⟩⟩
theorem Ftn.pu {L:List (Tok × SV)} {l:List Ft} (h:Ftn w L l) (hp:Pu w w'):Ftn w' L l:=⟨h.1,λi x y hx hy=>by
  obtain⟨h1,h2,h3⟩:=h.2 i x y hx hy
  exact⟨h1,h2.pu hp,h3⟩⟩
theorem row_ne{s q:SV}{vs us:List Value}(h:RowAt w 112 4 s vs)(k:RowAt w 9 1 q us):∀i ∈ blkOf q,¬i ∈ blkOf s:=λi hi hs=>by
  obtain⟨_,rfl|⟨g,cur,h3,h4,_⟩⟩:=h
  · simp[blkOf]at hs
  · simp[blkOf,h3]at hs
    subst hs
    exact k.other h4 (by decide) hi
theorem push_ftn {s:SV} {L:List (Tok × SV)} {l:List Ft} (h:RowAt w 112 4 s (L.flatMap ftV)) (hn:NewR w0 s) (hp:Pu w0 w) (hL:Ftn w L l) (hl:l.length<=100000) {r:Nat} {t:Tok} {f:SV} {fr:List ByteArray} (hf:RowAt w 9 1 f (fr.map Value.string)) (hfl:fr.length<=1000000) (hk:In64 t.kind) (ha:In64 t.at_)
    (hb:w.heap[r]?=some (.cells #[.int .i64 t.kind,.int .i64 t.at_,.string t.text,.slice f.a f.len f.cap] 112)) :
    ∃(s':SV) (w':World),(Builtin.append_ #[84,84] 84 #[.slice s.a s.len s.cap,.slice (some ⟨r,0,none⟩) 1 1]).run Tryz.prog w=.ok (.slice s'.a s'.len s'.cap) w'/\RowAt w' 112 4 s' ((L ++ [(t,f)]).flatMap ftV)/\Ftn w' (L ++ [(t,f)]) (l ++ [⟨t,fr⟩])/\Pu w0 w'/\NewR w0 s':=by
  have hL1:=hL.1
  obtain⟨s',w',h1,h2,h3,h4⟩:=push_ft h (by omega) (t,f) hb
  refine⟨s',w',h1,h2,⟨by simp[hL1],λi x y hx hy=>?_⟩,hp.andNew h3 λi hi=>hn i hi,λi hi=>?_⟩
  · by_cases hi:i<L.length
    · rw[List.getElem?_append_left hi]at hx
      rw[List.getElem?_append_left (by omega)]at hy
      obtain⟨k1,k2,k3⟩:=hL.2 i x y hx hy
      exact⟨k1,k2.fr h3 (row_ne h k2),k3⟩
    · rw[List.getElem?_append_right (by omega)]at hx hy
      rw[←hL1]at hy
      cases hj:i - L.length with
      | zero=>
        rw[hj]at hx hy
        cases hx;cases hy
        exact⟨rfl,hf.fr h3 (row_ne h hf),hk,ha,hfl⟩
      | succ j=>rw[hj]at hx;simp at hx
  · rcases h4 i hi with h|h
    · exact hn i h
    · have:=hp.size;omega
theorem defS_step {f:ByteArray->Option (List Tok)} {l:List Ft} {k:Nat} {x:Ft} (hx:l[k]?=some x):(defS f (l.drop k)).map (l.take k ++ ·)=match defAt f x with
    | some d=>some (l.take k ++ (d.map (λt=>⟨t,x.fr ++ [x.t.text]⟩) ++ l.drop (k+1)))
    | none=>(defS f (l.drop (k+1))).map (l.take (k+1) ++ ·):=by
  rw[drop_at hx]
  conv=>lhs;unfold defS
  cases defAt f x with
  | some d=>rfl
  | none=>
    dsimp only
    rw[Option.map_map,take_at hx]
    congr 1
    funext y
    simp
structure OnB(w0 w:World)(s:SV):Prop where
  pu:Pu w0 w
  b3:w.heap[w0.heap.size]?=some (.cells #[.slice s.a s.len s.cap] 84)
  b4:w.heap[w0.heap.size+1]?=some (.cells #[.slice none 0 0] 84)
  b5:w.heap[w0.heap.size+1+1]?=some (.cells #[.bool false] 4)
  b6:w.heap[w0.heap.size+1+1+1]?=some (.cells #[.int .i64 0] 26)
theorem OnB.on{s:SV}(h:OnB w0 w s)(hp:Pu w w'):OnB w0 w' s:=⟨h.pu.trans hp,hp.blk h.b3,hp.blk h.b4,hp.blk h.b5,hp.blk h.b6⟩
set_option maxHeartbeats 2000000 in
theorem once_head{p:Addr}{D:Defs}{rs s:SV}{l:List Ft}(hS:StA w0 p D rs)(hl:RdSl w0 s l)(hn:l.length<=10000)(hf:∀x ∈ l,x.fr.length<=100000)(T:T49)(R:Rt)
    (hR:∀l',defS (dg D) l=some l'->∀(s':SV) w',RdSl w' s' l'->Pu w0 w'->R (.returned (.tuple #[.slice s'.a s'.len s'.cap,.bool true,.int .i64 0])) w')
    (hT:defS (dg D) l=none->∀w',OnB w0 w' s->T (some p) (some ⟨w0.heap.size,0,none⟩) (some ⟨w0.heap.size+1,0,none⟩) (some ⟨w0.heap.size+1+1,0,none⟩) (some ⟨w0.heap.size+1+1+1,0,none⟩) [] w'):F49_12 R T (some p) s [] w0:=by
  have hsl:=hl.len
  have hlim:=hl.lim
  refine alE_intro λw1 hw1=>alE_intro λw2 hw2=>alE_intro λw3 hw3=>alE_intro λw4 hw4=>?_
  have z1:w1.heap.size=w0.heap.size+1:=by rw[hw1];simp
  have z2:w2.heap.size=w0.heap.size+1+1:=by rw[hw2];simp[z1]
  have z3:w3.heap.size=w0.heap.size+1+1+1:=by rw[hw3];simp[z2]
  have p1:Pu w0 w1:=by rw[hw1];exact Pu.alloc _ _
  have p2:Pu w1 w2:=by rw[hw2];exact Pu.alloc _ _
  have p3:Pu w2 w3:=by rw[hw3];exact Pu.alloc _ _
  have p4:Pu w3 w4:=by rw[hw4];exact Pu.alloc _ _
  have c3:w1.heap[w0.heap.size]?=some (.cells #[.slice s.a s.len s.cap] 84):=by rw[hw1];exact alloc_new _ _
  have c4:w2.heap[w0.heap.size+1]?=some (.cells #[.slice none 0 0] 84):=by rw[hw2,←z1];exact alloc_new _ _
  have c5:w3.heap[w0.heap.size+1+1]?=some (.cells #[.bool false] 4):=by rw[hw3,←z2];exact alloc_new _ _
  have c6:w4.heap[w0.heap.size+1+1+1]?=some (.cells #[.int .i64 0] 26):=by rw[hw4,←z3];exact alloc_new _ _
  rw[z1,z2,z3]
  have hB:OnB w0 w4 s:=⟨p1.trans (p2.trans (p3.trans p4)),p4.blk (p3.blk (p2.blk c3)),p4.blk (p3.blk c4),p4.blk c5,c6⟩
  refine⟨s,cl0 hB.b3,?_⟩
  refine loopUp l.length (λk n w'=>n=(k:Int)/\OnB w0 w' s/\defS (dg D) l=(defS (dg D) (l.drop k)).map (l.take k ++ ·)) ⟨rfl,hB,by simp⟩ ?_
  rintro k J n w5 hk ⟨rfl,hB5,hd⟩ hJ
  refine Br.of (λq=>?_) (λq=>?_)
  · have q:=dtrue q
    have hk2:k<l.length:=by omega
    obtain⟨x,hx⟩:=at_k hk2
    rw[defS_step hx]at hd
    obtain⟨a,f,ha,h1,h2,hfr,hkd,hat,k0,k1,k2,k3⟩:=RdSl.ft (hl.pu hB5.pu) hx
    refine⟨a,ha,h1,h2,_,k0,_,k1,_,k2,_,k3,?_⟩
    refine boxA (zs:=#[.int .i64 0,.int .i64 0,.string (⟨#[]⟩:ByteArray),.slice none 0 0]) rfl (by kernel_rfl) rfl λw6 hp6 hz6 hb6=>dwE_intro λw7 hp7 _=>?_
    have hp57:=hp6.trans hp7
    have hb7:=hp7.blk hb6
    have hB7:=hB5.on hp57
    have hS7:=hS.pu hB7.pu
    obtain⟨m,hm,hM⟩:=hS7.map
    have hlook:=hM.look (P:=Tryz.prog) (kt:=9) (t:=43) (e:=25) (keys_str Tryz.underlying9) (by kernel_rfl) (z:=.slice none 0 0) (Tryz.zeroValue25 _) x.t.text true
    rw[al_map]at hlook
    obtain⟨g,hg⟩:∃g:SV,((AL.get D x.t.text).map Prod.fst).elim (Value.slice none 0 0) slV=slV g:=by
      cases AL.get D x.t.text with
      | none=>exact⟨⟨none,0,0⟩,rfl⟩
      | some v=>exact⟨v.1,rfl⟩
    rw[hg]at hlook
    have again:∀{w'},Pu w5 w'->defAt (dg D) x=none->F49_2 R T J (some p) (some ⟨w0.heap.size,0,none⟩) (some ⟨w0.heap.size+1,0,none⟩) (some ⟨w0.heap.size+1+1,0,none⟩) (some ⟨w0.heap.size+1+1+1,0,none⟩) s ((s.len:Nat):Int) (k:Int) [] w':=λ{w'} hp h=>by
      unfold F49_2
      rw[wrap_in (by omega) (by omega)]
      rw[h]at hd
      exact hJ _ _ hk2 ⟨by omega,hB5.on hp,hd⟩
    refine⟨_,hm,_,cl hb7 2,g,_,hlook,_,cl0 hb7,?_⟩
    refine Br.of (λq1=>again hp57 (by unfold defAt;rw[if_neg (bntrue q1)])) (λq1=>?_)
    have q1:x.t.kind=0:=bnfalse q1
    refine Br.of (λq2=>again hp57 ?_) (λq2=>?_)
    · have q2:AL.get D x.t.text=none:=by simpa using q2
      unfold defAt dg;rw[if_pos q1,q2];rfl
    · obtain⟨v,hv⟩:∃v,AL.get D x.t.text=some v:=by
        cases h:AL.get D x.t.text with
        | none=>rw[h]at q2;simp at q2
        | some v=>exact⟨v,rfl⟩
      have hgv:slV v.1=slV g:=by rw[hv]at hg;exact hg
      obtain⟨ea,el,ec⟩:v.1.a=g.a/\v.1.len=g.len/\v.1.cap=g.cap:=by unfold slV at hgv;injection hgv with e1 e2 e3;exact⟨e1,e2,e3⟩
      have egv:v.1=g:=by
        obtain⟨a1,b1,d1⟩:=g
        cases hv1:v.1 with
        | mk a2 b2 d2=>rw[hv1]at ea el ec;cases ea;cases el;cases ec;rfl
      obtain⟨y,hy,ey⟩:=al_mem hv
      obtain⟨hrd,hrl⟩:=hS7.rows y hy
      rw[ey,egv]at hrd
      rw[ey]at hrl
      refine⟨_,cl hb7 3,_,cl hb7 2,(contains_c (hfr.pu hp57) x.t.text).mono ?_⟩
      rintro e w8 ⟨rfl,hp8⟩
      refine⟨_,rfl,Br.of (λq3=>again (hp57.trans hp8) ?_) (λq3=>?_)⟩
      · unfold defAt dg;rw[if_pos q1,hv];dsimp only[Option.map_some];rw[if_pos q3]
      · have hda:defAt (dg D) x=some v.2:=by unfold defAt dg;rw[if_pos q1,hv];dsimp only[Option.map_some];rw[if_neg (by rw[q3];decide)]
        rw[hda]at hd
        have hp58:=hp57.trans hp8
        have hB8:=hB7.on hp8
        have hb8:=hp8.blk hb7
        have hrd8:=hrd.pu hp8
        have hfr8:=hfr.pu hp58
        have hxf:=hf x (List.mem_of_getElem? hx)
        have hgl:=hrd8.len
        have hglim:=hrd8.lim
        refine loopUp v.2.length (λi t w'=>∃(s':SV) (L:List (Tok × SV)),t=(s',(i:Int))/\Pu w8 w'/\RowAt w' 112 4 s' (L.flatMap ftV)/\NewR w8 s'/\Ftn w' L ((v.2.take i).map λt=>⟨t,x.fr ++ [x.t.text]⟩)) ⟨⟨none,0,0⟩,[],rfl,Pu.refl _,RowAt.nil _ _ _,by simp[NewR,blkOf],rfl,λi x y hx=>by simp at hx⟩ ?_
        rintro i J2 t w9 hi ⟨s',L,rfl,hp9,hr9,hn9,hL9⟩ hJ2
        dsimp only
        refine Br.of (λq4=>?_) (λq4=>?_)
        · have q4:=dtrue q4
          have hi2:i<v.2.length:=by omega
          obtain⟨u,hu⟩:=at_k hi2
          obtain⟨a2,ha2,_,uk,ua,_⟩:=tokAt (hrd8.pu hp9) hu
          obtain⟨a2,ha2,g1,g2,ck,u0,u1,u2⟩:=RdSl.tok (hrd8.pu hp9) hu
          refine⟨a2,ha2,g1,g2,_,u0,_,u1,_,u2,?_⟩
          refine boxA (zs:=#[.int .i64 0,.int .i64 0,.string (⟨#[]⟩:ByteArray)]) rfl (by kernel_rfl) rfl λw10 hp10 hz10 hb10=>dwE_intro λw11 hp11 _=>?_
          have hb11:=hp11.blk hb10
          have hp8_11:=hp9.trans (hp10.trans hp11)
          have hb8':=hp8_11.blk hb8
          -- the last steps, alike in both orders
          have fin:∀{q:SV} {w12:World},RowAt w12 9 1 q ((x.fr ++ [x.t.text]).map Value.string)->Pu w11 w12->alE (.cells #[.int .i64 u.kind,.int .i64 u.at_,.string u.text,.slice q.a q.len q.cap] 112) w12 λr72 w34=>
              ∃l73:SV,∃w35:World,(Builtin.append_ #[84,84] 84 #[.slice s'.a s'.len s'.cap,.slice (some ⟨r72,0,none⟩) 1 1]).run Tryz.prog w34=.ok (.slice l73.a l73.len l73.cap) w35/\J2 (l73,(IntKind.i64.wrap ((i:Int)+1))) w35:=λ{q w12} hq hp12=>by
            refine alB λw13 hp13 hb13=>?_
            have hp9_13:Pu w9 w13:=hp10.trans (hp11.trans (hp12.trans hp13))
            obtain⟨s2,w14,hrun,hr14,hL14,hp14,hn14⟩:=push_ftn (hr9.pu hp9_13) hn9 (hp9.trans hp9_13) (hL9.pu hp9_13) (by rw[List.length_map,List.length_take];omega) (hq.pu hp13) (by rw[List.length_append];simp;omega) uk ua hb13
            refine⟨s2,w14,hrun,?_⟩
            rw[wrap_in (by omega) (by omega)]
            refine hJ2 _ _ hi2 ⟨s2,_,by rw[show(i:Int)+1=((i+1:Nat):Int)by omega],hp14,hr14,hn14,?_⟩
            rw[take_at hu,List.map_append];exact hL14
          refine⟨λw'=>Pu w11 w',Pu.refl _,_,λw' h=>h.cell (cl hb11 0),_,λw' h=>h.cell (cl hb11 1),_,λw' h=>h.cell (cl hb11 2),f,λw' h=>h.cell (cl hb8' 3),_,λw' h=>h.cell (cl hb8' 2),?_,?_⟩
          · refine(names_c (hfr8.pu hp8_11) x.t.text (by omega)).mono ?_
            rintro e w12 ⟨hp12,q,rfl,hq⟩
            refine⟨q,rfl,hp12,alB λw13 hp13 hb13=>⟨hp12.trans hp13,?_⟩⟩
            obtain⟨q2,w14,hrun,hr14,hp14,hn14⟩:=hq w13 _ hp13 hb13
            exact⟨q2,w14,hrun,hp14,fin hr14 hp14⟩
          · refine alB λw12 hp12 hb12=>⟨hp12,(names_c (hfr8.pu (hp8_11.trans hp12)) x.t.text (by omega)).mono ?_⟩
            rintro e w13 ⟨hp13,q,rfl,hq⟩
            obtain⟨q2,w14,hrun,hr14,hp14,hn14⟩:=hq w13 _ (Pu.refl _) (hp13.blk hb12)
            exact⟨q,rfl,hp12.trans hp13,q2,w14,hrun,hp12.trans hp14,fin hr14 (hp12.trans hp14)⟩
        · have q4:=dfalse q4
          obtain rfl:i=v.2.length:=by omega
          rw[List.take_length]at hL9
          refine dwE_intro λw10 hp10 _=>?_
          have hB10:=(hB8.on hp9).on hp10
          have hcap:=hl.cap
          rw[wrap_in (n:=(k:Int)+1) (by omega) (by omega)]
          have e1:((k:Int)+1).toNat=k+1:=by omega
          refine⟨_,cl0 hB10.b3,by omega,by omega,by omega,_,cl0 hB10.b3,by omega,by omega,by omega,?_⟩
          rw[e1,toNat_i]
          obtain⟨sa,hsa⟩:∃sa:SV,sa=⟨if s.cap=0 then s.a else s.a.map (λx=>x.add (0 * 4)),k - 0,s.cap - 0⟩:=⟨_,rfl⟩
          obtain⟨sb,hsb⟩:∃sb:SV,sb=⟨if s.cap=k+1 then s.a else s.a.map (λx=>x.add ((k+1) * 4)),s.len - (k+1),s.cap - (k+1)⟩:=⟨_,rfl⟩
          have ra:RdSl w0 sa (l.take k):=by
            have:=rd_sub hl (lo:=0) (hi:=k) (by omega) (by omega) sa.a sa.len sa.cap (by rw[hsa];rfl) (by rw[hsa]) (by rw[hsa])
            rw[List.drop_zero]at this
            exact this
          have rb:RdSl w0 sb (l.drop (k+1)):=by
            have:=rd_sub hl (lo:=k+1) (hi:=l.length) (by omega) (Nat.le_refl _) sb.a sb.len sb.cap (by rw[hsb];rfl) (by rw[hsb];exact congrArg (· - (k+1)) hsl) (by rw[hsb])
            rw[List.take_length]at this
            exact this
          obtain⟨La,za,ca⟩:=rd_cells ra
          obtain⟨Lb,zb,cb⟩:=rd_cells rb
          have lza:=za.1
          have lzb:=zb.1
          have lL9:=hL9.1
          rw[List.length_take]at lza
          rw[List.length_drop]at lzb
          rw[List.length_map]at lL9
          have hcells:(#[.slice (if s.cap=0 then s.a else s.a.map (λx=>x.add (0 * 4))) (k - 0) (s.cap - 0),.slice s'.a s'.len s'.cap,.slice (if s.cap=k+1 then s.a else s.a.map (λx=>x.add ((k+1) * 4))) (s.len - (k+1)) (s.cap - (k+1))]:Array Value)=([(sa,La),(s',L),(sb,Lb)].map λx=>slV x.1).toArray:=by rw[hsa,hsb];rfl
          rw[hcells]
          refine alB λw11 hp11 hb11=>?_
          refine(concat_c (rows:=[(sa,La),(s',L),(sb,Lb)]) hb11 (λy hy=>?_) (by simp) ?_).mono ?_
          · simp only[List.mem_cons,List.not_mem_nil,or_false]at hy
            rcases hy with rfl|rfl|rfl
            · exact ca.pu (hB10.pu.trans hp11)
            · exact(CellsR.of hr9).pu (hp10.trans hp11)
            · exact cb.pu (hB10.pu.trans hp11)
          · simp;omega
          · rintro e w12 ⟨hp12,s3,rfl,hr3,hn3⟩
            have hB12:=(hB10.on hp11).on hp12
            refine⟨s3,rfl,?_⟩
            have hz0:=blk_lt hB12.b3
            rw[ptrE_some]
            refine st1_intro (o:=0) hB12.b4 (by simp) λw13 hw13 hb13=>?_
            have f13:Fr (·=w0.heap.size+1) w12 w13:=by rw[hw13];exact Fr.setCell w12 ⟨_,0,none⟩ _
            have b5:=f13.blk hB12.b5 (by omega)
            have b6:=f13.blk hB12.b6 (by omega)
            rw[ptrE_some]
            refine st1_intro (o:=0) b5 (by simp) λw14 hw14 hb14=>?_
            have f14:Fr (·=w0.heap.size+1+1) w13 w14:=by rw[hw14];exact Fr.setCell w13 ⟨_,0,none⟩ _
            have b6:=f14.blk b6 (by omega)
            have b4:=f14.blk hb13 (by omega)
            rw[ptrE_some]
            refine st1_intro (o:=0) b6 (by simp) λw15 hw15 hb15=>?_
            have f15:Fr (·=w0.heap.size+1+1+1) w14 w15:=by rw[hw15];exact Fr.setCell w14 ⟨_,0,none⟩ _
            have b4:=f15.blk b4 (by omega)
            have b5:=f15.blk hb14 (by omega)
            refine⟨s3,cl0 b4,true,cl0 b5,0,cl0 hb15,?_⟩
            have hp15:Pu w0 w15:=((hB12.pu.andNew f13 λi hi=>by rw[show i=_ from hi];omega).andNew f14 λi hi=>by rw[show i=_ from hi];omega).andNew f15 λi hi=>by rw[show i=_ from hi];omega
            refine hR _ hd s3 w15 ?_ hp15
            have e3:([(sa,La),(s',L),(sb,Lb)]:List (SV × List (Tok × SV))).flatMap Prod.snd=La ++ (L ++ Lb):=by simp
            rw[e3]at hr3
            have hz11:=(hB10.on hp11).pu.size
            have hlt6:=blk_lt (hB10.on hp11).b6
            have keep:∀{q:SV} {us:List Value} {e:TypeId},e ≠ 84->e ≠ 4->e ≠ 26->∀{sz:Nat},RowAt w12 e sz q us->RowAt w15 e sz q us:=λ{q us e} n1 n2 n3 {sz} h=>by
              have o4:=h.other hB12.b4 n1
              have o5:=h.other hB12.b5 n2
              have o6:=h.other hB12.b6 n3
              exact((h.fr f13 λi hi e=>o4 (by rw[←show i=_ from e];exact hi)).fr f14 λi hi e=>o5 (by rw[←show i=_ from e];exact hi)).fr f15 λi hi e=>o6 (by rw[←show i=_ from e];exact hi)
            have zL:Ftn w12 L (v.2.map λt=>(⟨t,x.fr ++ [x.t.text]⟩:Ft)):=hL9.pu (hp10.trans (hp11.trans hp12))
            have zL15:Ftn w15 L (v.2.map λt=>(⟨t,x.fr ++ [x.t.text]⟩:Ft)):=⟨zL.1,λi x y hx hy=>by
              obtain⟨k1,k2,k3⟩:=zL.2 i x y hx hy
              exact⟨k1,keep (by decide) (by decide) (by decide) k2,k3⟩⟩
            exact((za.pu hp15).app (zL15.ftz.app (zb.pu hp15))).rd (keep (by decide) (by decide) (by decide) hr3) (by simp;omega)
  · have q:=dfalse q
    obtain rfl:k=l.length:=by omega
    rw[List.drop_length]at hd
    exact hT (by simpa[defS] using hd) w5 hB5
end Go.Proofs.YtjbfehippchniaaGreatDoor

/- Pre: rules gone through backward. No condition but those stated. -/
set_option maxRecDepth 100000
set_option linter.unusedVariables false
set_option linter.unusedSimpArgs false
namespace Go.Proofs.YtjbfehippchniaaGreatDoor
open Go.Sh Go.Sh.Lx Go.Sh.Pr Go.RowKit Go.Shelf
attribute [local go_sem] Oper.semAt_some
variable {w0 w w' : World}
theorem enters123:∀args w,(callFunc 123 args).run Tryz.prog w=.ok (.enter 123 args) w:=λargs w=>run_callFunc (by kernel_rfl) args w
theorem back_nil (n:Nat) (c:Nat) (a:Option Addr) (k:Nat) (w:World) (hc:c<w.heap.size) (hcw:w.cell? ⟨c,0,none⟩=some (.slice a 0 k)) :
    SeqStopsK Fence.wide n Tryz.prog 123 #[.pointer (some ⟨c,0,none⟩)] (Empty.elim:Empty->Array Value) (λ_ _=>True) (λys=>ys=[]) (λ_=>False) 1 w:=λl J Jx W hW hJ _ hY h0=>by
  have hcW:W.cell? ⟨c,0,none⟩=some (.slice a 0 k):=(hW.cell (p:=⟨c,0,none⟩) hc).trans hcw
  refine callsIn_wide.2 (F123_calls _ _ W _ ?_)
  refine⟨⟨a,0,k⟩,hcW,?_⟩
  intro J2 hJ2
  refine hJ2 _ _ ?_
  have e1:IntKind.i64.wrap (((0:Nat):Int) - 1)=-1:=by decide
  refine Br.f (by show decide (IntKind.i64.wrap (((0:Nat):Int) - 1) ≥ 0)=false;rw[e1];decide) ?_
  exact⟨⟨_,rfl⟩,.inl ⟨[],rfl,h0⟩⟩
def encR(b:Bool)(s1 s2:SV)(_:Unit):Array Value:=#[.int .i64 0,.agg #[.bool b,.slice s1.a s1.len s1.cap,.slice s2.a s2.len s2.cap]]
set_option maxHeartbeats 2000000 in
theorem back_one (n:Nat) (hn:1<=n) (c g:Nat) (o:Nat) (k:Nat) (b:Bool) (s1 s2:SV) (w:World) (hc:c<w.heap.size) (hg:g<w.heap.size) (hcw:w.cell? ⟨c,0,none⟩=some (.slice (some ⟨g,o,none⟩) 1 k))
    (h0:w.cell? ⟨g,o,none⟩=some (.bool b)) (h1:w.cell? ⟨g,o+1,none⟩=some (.slice s1.a s1.len s1.cap)) (h2:w.cell? ⟨g,o+2,none⟩=some (.slice s2.a s2.len s2.cap)) :
    SeqStopsK Fence.wide n Tryz.prog 123 #[.pointer (some ⟨c,0,none⟩)] (encR b s1 s2) (λ_ _=>True) (λys=>ys=[()]) (λpre=>pre=[()]) 1 w:=λl J Jx W hW hJ _ hY hJ0=>by
  have hcW:W.cell? ⟨c,0,none⟩=some (.slice (some ⟨g,o,none⟩) 1 k):=(hW.cell (p:=⟨c,0,none⟩) hc).trans hcw
  have k0:W.cell? ⟨g,o,none⟩=some (.bool b):=(hW.cell (p:=⟨g,o,none⟩) hg).trans h0
  have k1:W.cell? ⟨g,o+1,none⟩=some (.slice s1.a s1.len s1.cap):=(hW.cell (p:=⟨g,o+1,none⟩) hg).trans h1
  have k2:W.cell? ⟨g,o+2,none⟩=some (.slice s2.a s2.len s2.cap):=(hW.cell (p:=⟨g,o+2,none⟩) hg).trans h2
  show CallsIn Fence.wide n Tryz.prog 123 #[.func (.yield l) #[] #[],.pointer (some ⟨c,0,none⟩)] W _
  refine callsIn_of_wp Tryz.func123 rfl trivial ?_ rfl
  simp only[Tryz.ntmps123,List.size_toArray,List.length_cons,List.length_nil,Nat.reduceAdd,Nat.reduceSub,Array.replicate_succ,Array.replicate_zero,List.push_toArray,List.append_toArray,List.nil_append,List.cons_append]
  gi_wp2
  refine wpIn_loop_rounds 2 ?_
  rw[roundsIn_succ]
  have hy0:=hY [] () W hJ0 (by simp)
  unfold encR at hy0
  obtain⟨fn,tmps,assign,body,hy,hR⟩:=hy0
  gi_wp2
  refine hR.mono ?_
  rintro e W3 (⟨rfl,hJ3,hk3⟩|⟨rfl,hJx3⟩)
  · gi_wp2
    rw[roundsIn_succ]
    gi_wp2
    exact⟨rfl,_,results_none rfl _ _ _,⟨_,rfl⟩,.inl ⟨[()],rfl,hJ3⟩⟩
  · gi_wp2
    refine bodyPost_ret (results_none rfl _ _ _) rfl ?_
    exact⟨⟨_,rfl⟩,.inr ⟨[()],rfl,hJx3⟩⟩
def T49n(w0:World)(p:Addr)(s:SV)(X:Prop):T49:=λp0 p3 p4 p5 p6 ds w=>p0=some p/\p3=some ⟨w0.heap.size,0,none⟩/\p4=some ⟨w0.heap.size+1,0,none⟩/\p5=some ⟨w0.heap.size+1+1,0,none⟩/\p6=some ⟨w0.heap.size+1+1+1,0,none⟩/\ds=[]/\OnB w0 w s/\X
theorem T49n_open {w0 w:World} {p:Addr} {s:SV} {X:Prop} {ρ:Env} (h:Kof [pS 0,pS 3,pS 4,pS 5,pS 6] (T49n w0 p s X) ρ [] w):ρ 0=.pointer (some p)/\ρ 3=.pointer (some ⟨w0.heap.size,0,none⟩)/\ρ 4=.pointer (some ⟨w0.heap.size+1,0,none⟩)/\ρ 5=.pointer (some ⟨w0.heap.size+1+1,0,none⟩)/\ρ 6=.pointer (some ⟨w0.heap.size+1+1+1,0,none⟩)/\OnB w0 w s/\X:=by
  have h:dPtr (ρ 0) λp0=>dPtr (ρ 3) λp3=>dPtr (ρ 4) λp4=>dPtr (ρ 5) λp5=>dPtr (ρ 6) λp6=>T49n w0 p s X p0 p3 p4 p5 p6 [] w:=h
  obtain⟨p0,e0,h⟩:=dPtr_elim h
  obtain⟨p3,e3,h⟩:=dPtr_elim h
  obtain⟨p4,e4,h⟩:=dPtr_elim h
  obtain⟨p5,e5,h⟩:=dPtr_elim h
  obtain⟨p6,e6,h⟩:=dPtr_elim h
  obtain⟨rfl,rfl,rfl,rfl,rfl,_,hb,hx⟩:=h
  exact⟨e0,e3,e4,e5,e6,hb,hx⟩
theorem back_c(s:SV)(w:World):Calls Tryz.prog 86 #[.slice s.a s.len s.cap] w λe w'=>e=.returned (.func (.func 123) #[] #[.pointer (some ⟨w.heap.size,0,none⟩)])/\w'=w.alloc (.cells #[.slice s.a s.len s.cap] 44):=
  calls_by (F86_calls s w) λR hR=>alE_intro λw1 hw1=>hR _ _ ⟨rfl,hw1⟩
end Go.Proofs.YtjbfehippchniaaGreatDoor

/- Pre: once, where there are no rules. No condition but those stated. -/
set_option maxRecDepth 100000
set_option linter.unusedVariables false
set_option linter.unusedSimpArgs false
namespace Go.Proofs.YtjbfehippchniaaGreatDoor
open Go.Sh Go.Sh.Lx Go.Sh.Pr Go.RowKit Go.Shelf
variable {w0 w w' : World}
structure Slt(w0:World)(p:Addr)(ρ:Env):Prop where
  s0:ρ 0=.pointer (some p)
  s3:ρ 3=.pointer (some ⟨w0.heap.size,0,none⟩)
  s4:ρ 4=.pointer (some ⟨w0.heap.size+1,0,none⟩)
  s5:ρ 5=.pointer (some ⟨w0.heap.size+1+1,0,none⟩)
  s6:ρ 6=.pointer (some ⟨w0.heap.size+1+1+1,0,none⟩)
theorem Slt.on {p:Addr} {ρ ρ':Env} {f:Nat->Bool} (h:Slt w0 p ρ) (hk:∀t,f t=false->ρ' t=ρ t) (hf:(f 0 || (f 3 || (f 4 || (f 5 || f 6))))=false):Slt w0 p ρ':=by
  simp only[Bool.or_eq_false_iff]at hf
  obtain⟨f0,f3,f4,f5,f6⟩:=hf
  exact⟨(hk 0 f0).trans h.s0,(hk 3 f3).trans h.s3,(hk 4 f4).trans h.s4,(hk 5 f5).trans h.s5,(hk 6 f6).trans h.s6⟩
def unb:Code->Code
  | .block _ c=>c
  | .loop c=>c
  | c=>c
def sq1:Code->Code
  | .seq a _=>a
  | c=>c
def sq2:Code->Code
  | .seq _ b=>b
  | c=>c
noncomputable def tail49 : Code := sq2 (sq2 (bodyOf Tryz.f49))
noncomputable def rnd49 : Code := unb (unb (sq2 (sq1 tail49)))
noncomputable def in49 : Code := unb (sq1 (sq2 (sq2 rnd49)))
def Mks(w:World):List Deferred->Prop
  | []=>True
  | d :: ds=>(∃D,d={ target:=.collected D,args:=#[] }/\w.heap[D]?=some (.deferred (some []))/\∀d' ∈ ds,d' ≠ d)/\Mks w ds
def mkB(ds:List Deferred)(k:Nat):Prop:=({ target:=.collected k,args:=#[] }:Deferred) ∈ ds
theorem Mks.fr{B:Nat->Prop}:∀{ds:List Deferred},Mks w ds->Fr B w w'->(∀k,mkB ds k->¬B k)->Mks w' ds
  | [],_,_,_=>trivial
  | d :: ds,⟨⟨D,e,h1,h2⟩,h3⟩,hf,hB=>⟨⟨D,e,hf.blk h1 (hB D (by unfold mkB;rw[←e];exact List.mem_cons_self ..)),h2⟩,Mks.fr h3 hf λk hk=>hB k (List.mem_cons_of_mem _ hk)⟩
theorem Mks.pu{ds:List Deferred}(h:Mks w ds)(hp:Pu w w'):Mks w' ds:=h.fr (Fr.pu hp:Fr (λ_=>False) w w') λ_ _ h=>h
theorem Mks.lt:∀{ds:List Deferred},Mks w ds->∀k,mkB ds k->k<w.heap.size
  | [],_,k,hk=>by cases hk
  | d :: ds,⟨⟨D,e,h1,h2⟩,h3⟩,k,hk=>by
    rcases List.mem_cons.1 hk with h|h
    · rw[e]at h
      cases h
      exact blk_lt h1
    · exact Mks.lt h3 k h
theorem leave_mks{n:Nat}{fn:Func}{tm:Array Value}{R:Ending->World->Prop}:∀(ds:List Deferred) {w:World},Mks w ds->
    (∀w',Fr (mkB ds) w w'->∃v,(results fn tm).run Tryz.prog w'=.ok v w'/\R (.returned v) w')->LeavesInM Fence.wide n Tryz.prog fn tm R ds .returning w
  | [],w,_,h=>by
    obtain⟨v,h1,h2⟩:=h w (Fr.refl _ _)
    exact⟨v,h1,h2⟩
  | d :: ds,w,⟨⟨D,e,h1,h2⟩,h3⟩,h=>by
    subst e
    refine⟨by simp,.inl ⟨_,_,rfl,run_takeDeferred h1,?_⟩⟩
    have hf:=Fr.putObj w D (.deferred none)
    refine leave_mks ds (h3.fr hf λk hk e=>?_) λw' hw'=>h w' ((hf.mono λi hi _=>?_).trans hw' λi hi _=>List.mem_cons_of_mem _ hi)
    · rw[show k=D from e]at hk
      exact h2 _ hk rfl
    · rw[show i=D from hi];exact List.mem_cons_self ..
structure Stt(w0:World)(p:Addr)(s:SV)(i:Nat)(b:Nat)(a:Act)(w:World):Prop where
  sz:a.tmps.size=119
  sl:Slt w0 p (envOf a)
  t86:envOf a 86=.slice (some ⟨b,0,none⟩) 2 2
  t87:envOf a 87=.int .i64 2
  t88:envOf a 88=.int .i64 (i:Int)
  on:OnB w0 w s
  bx:w.heap[b]?=some (.cells #[.bool false,.bool true] 4)
  mks:Mks w a.defers/\∀k,mkB a.defers k->w0.heap.size+1+1+1<k
theorem tail_enter {p:Addr} {s:SV} {a:Act} {w:World} {X:Exit->Act->World->Prop} (hs:a.tmps.size=119) (hd:a.defers=[]) (hl:Slt w0 p (envOf a)) (hB:OnB w0 w s)
    (h:∀b a' w',Stt w0 p s 0 b a' w'->(unb (sq2 (sq1 tail49))).wpIn Fence.wide 4 Tryz.prog (Exit.inBlock 4 (Exit.then ((sq2 tail49).wpIn Fence.wide 4 Tryz.prog X) X)) a' w'):tail49.wpIn Fence.wide 4 Tryz.prog X a w:=by
  refine wpIn_seq (wpIn_seq (rg_in (n:=119) (l:=[]) (K:=λρ _ w'=>ρ 86=.slice (some ⟨w.heap.size,0,none⟩) 2 2/\ρ 87=.int .i64 2/\ρ 88=.int .i64 0/\w'=w.alloc (.cells #[.bool false,.bool true] 4))
    (F:=λds w1=>alE (.cells #[.bool false,.bool true] 4) w1 λr86 w2=>((Value.slice (some ⟨r86,0,none⟩) 2 2:Value)=.slice (some ⟨w.heap.size,0,none⟩) 2 2/\(Value.int .i64 ((2:Nat):Int):Value)=.int .i64 2/\(Value.int .i64 0:Value)=.int .i64 0/\w2=w.alloc (.cells #[.bool false,.bool true] 4))) rfl hs (by kernel_rfl) (kof_nil (alE_intro λw1 hw1=>⟨rfl,rfl,rfl,hw1⟩)) ?_))
  rintro a' w' hs' hk hd' ⟨h86,h87,h88,rfl⟩
  refine wpIn_block (h w.heap.size a' _ ⟨hs',hl.on hk (by kernel_rfl),h86,h87,h88,hB.on (Pu.alloc _ _),alloc_new _ _,by rw[hd',hd];trivial,λk hk=>by rw[hd',hd]at hk;cases hk⟩)
theorem rnd_head{p:Addr}{s:SV}{i b:Nat}{a:Act}{w:World}{X:Exit->Act->World->Prop}(h:Stt w0 p s i b a w)
    (hgo:i<2->∀a',Stt w0 p s i b a' w->(sq2 (sq2 rnd49)).wpIn Fence.wide 4 Tryz.prog X a' w) (hend:¬i<2->∀a',Stt w0 p s i b a' w->X (.exit 4) a' w):rnd49.wpIn Fence.wide 4 Tryz.prog X a w:=by
  refine wpIn_seq (rg_in (n:=119) (l:=[iS 87,iS 88]) (K:=λρ _ w'=>ρ 89=.bool (decide ((i:Int)<2))/\w'=w) (F:=λ(n87 n88:Int) (ds:Ds) (w':World)=>(Value.bool (decide (n88<n87)):Value)=.bool (decide ((i:Int)<2))/\w'=w) rfl h.sz (by kernel_rfl)
    (kof_t (ty:=.int .i64) (2:Int) h.t87 (kof_t (ty:=.int .i64) (i:Int) h.t88 (kof_nil ⟨rfl,rfl⟩))) ?_)
  rintro a' w' hs' hk hd' ⟨h89,rfl⟩
  have hS:Stt w0 p s i b a' w':=⟨hs',h.sl.on hk (by kernel_rfl),(hk 86 (by kernel_rfl)).trans h.t86,(hk 87 (by kernel_rfl)).trans h.t87,(hk 88 (by kernel_rfl)).trans h.t88,h.on,h.bx,by rw[hd'];exact h.mks⟩
  by_cases hi:i<2
  · rw[decide_eq_true (by omega)]at h89
    exact wpIn_seq (wpIn_cond_true (eval_env h89) (wpIn_skip (hgo hi a' hS)))
  · rw[decide_eq_false (by omega)]at h89
    exact wpIn_seq (wpIn_cond_false (eval_env h89) (wpIn_exit (hend hi a' hS)))
structure Sti(w0:World)(p:Addr)(s:SV)(i:Nat)(b:Nat)(c q:Nat)(rs:SV)(a:Act)(w:World):Prop where
  st:Stt w0 p s i b a w
  t15:envOf a 15=.pointer (some ⟨q,0,none⟩)
  t96:envOf a 96=.func (.func 123) #[] #[.pointer (some ⟨c,0,none⟩)]
  bq:w.heap[q]?=some (.cells #[.bool (decide (i=1))] 4)
  bc:w.heap[c]?=some (.cells #[.slice rs.a rs.len rs.cap] 44)
theorem rnd_in{p:Addr}{D:Defs}{s rs:SV}{i b:Nat}{a:Act}{w:World}{X:Exit->Act->World->Prop}(hi:i<2)(h:Stt w0 p s i b a w)(hR:StA w0 p D rs)
    (hgo:∀a' w' c q,Sti w0 p s i b c q rs a' w'->(unb (sq2 (sq2 in49))).wpIn Fence.wide 4 Tryz.prog (Exit.inBlock 6 X) a' w'):in49.wpIn Fence.wide 4 Tryz.prog X a w:=by
  have hcell:w.cell? ((⟨b,0,none⟩:Addr).add (((i:Int)).toNat * 1))=some (.bool (decide (i=1))):=by
    rw[toNat_i,Nat.mul_one,cl h.bx]
    match i,hi with
    | 0,_=>rfl
    | 1,_=>rfl
  refine wpIn_seq (rg_in (n:=119) (l:=[lS 86,iS 88]) (K:=λρ _ w'=>ρ 15=.pointer (some ⟨w.heap.size,0,none⟩)/\Pu w w'/\w'.heap[w.heap.size]?=some (.cells #[.bool (decide (i=1))] 4))
    (F:=λ(l86:SV) (n88:Int) (ds:Ds) (w1:World)=>∃a11:Addr,l86.a=some a11/\0<=n88/\n88<((l86.len:Nat):Int)/\∃b91:Bool,w1.cell? (a11.add (n88.toNat * 1))=some (.bool b91)/\
      alE (.cells #[.bool false] 4) w1 λr15 w12=>st1 (⟨r15,0,none⟩:Addr) (.bool b91) w12 λw13=>(Value.pointer (some ⟨r15,0,none⟩)=.pointer (some ⟨w.heap.size,0,none⟩)/\Pu w w13/\w13.heap[w.heap.size]?=some (.cells #[.bool (decide (i=1))] 4))) rfl h.sz (by kernel_rfl)
    (kof_t (ty:=.slice) (⟨some ⟨b,0,none⟩,2,2⟩:SV) h.t86 (kof_t (ty:=.int .i64) (i:Int) h.t88 (kof_nil ?_))) ?_)
  · refine⟨_,rfl,by omega,by show(i:Int)<2;omega,_,hcell,alE_intro λw1 hw1=>?_⟩
    have hb1:w1.heap[w.heap.size]?=some (.cells #[.bool false] 4):=by rw[hw1];exact alloc_new _ _
    refine st1_intro (o:=0) hb1 (by simp) λw2 hw2 hb2=>⟨rfl,?_,hb2⟩
    have hp1:Pu w w1:=by rw[hw1];exact Pu.alloc _ _
    exact hp1.andNew (by rw[hw2];exact Fr.setCell w1 ⟨w.heap.size,0,none⟩ _:Fr (·=w.heap.size) w1 w2) λk hk=>by rw[show k=_ from hk];exact Nat.le_refl _
  rintro a1 w1 hs1 hk1 hd1 ⟨h15,hp1,hb1⟩
  have hrules:=(hR.pu (h.on.on hp1).pu).rules
  have hl1:=h.sl.on hk1 (by kernel_rfl)
  refine wpIn_seq (rg_in (n:=119) (l:=[pS 0]) (K:=λρ _ w'=>ρ 96=.func (.func 123) #[] #[.pointer (some ⟨w1.heap.size,0,none⟩)]/\w'=w1.alloc (.cells #[.slice rs.a rs.len rs.cap] 44))
    (F:=λ(p0:Option Addr) (ds:Ds) (w13:World)=>ptrE p0 λa14=>∃l95:SV,w13.cell? (a14.add 1)=some (.slice l95.a l95.len l95.cap)/\Calls Tryz.prog 86 #[.slice l95.a l95.len l95.cap] w13 λe w15=>∃v96:Value,e=.returned (v96)/\(v96=.func (.func 123) #[] #[.pointer (some ⟨w1.heap.size,0,none⟩)]/\w15=w1.alloc (.cells #[.slice rs.a rs.len rs.cap] 44))) rfl hs1 (by kernel_rfl)
    (kof_t (ty:=.ptr) (some p:Option Addr) hl1.s0 (kof_nil ⟨rs,hrules,(back_c rs w1).mono λe w' ⟨h1,h2⟩=>⟨_,h1,rfl,h2⟩⟩)) ?_)
  rintro a2 w2 hs2 hk2 hd2 ⟨h96,rfl⟩
  have hp2:Pu w1 (w1.alloc (.cells #[.slice rs.a rs.len rs.cap] 44)):=Pu.alloc _ _
  have hP:=hp1.trans hp2
  refine wpIn_block (hgo a2 _ w1.heap.size w.heap.size ⟨⟨hs2,hl1.on hk2 (by kernel_rfl),?_,?_,?_,h.on.on hP,hP.blk h.bx,?_⟩,(hk2 15 (by kernel_rfl)).trans h15,h96,hp2.blk hb1,alloc_new _ _⟩)
  · exact(hk2 86 (by kernel_rfl)).trans ((hk1 86 (by kernel_rfl)).trans h.t86)
  · exact(hk2 87 (by kernel_rfl)).trans ((hk1 87 (by kernel_rfl)).trans h.t87)
  · exact(hk2 88 (by kernel_rfl)).trans ((hk1 88 (by kernel_rfl)).trans h.t88)
  · rw[hd2,hd1];exact⟨h.mks.1.pu hP,h.mks.2⟩
theorem rnd_end {p:Addr} {s:SV} {i b:Nat} {a:Act} {w:World} {X:Exit->Act->World->Prop} (hi:i<2) (h:Stt w0 p s i b a w) (hX:∀a',Stt w0 p s (i+1) b a' w->X .normal a' w):(sq2 (sq2 (sq2 rnd49))).wpIn Fence.wide 4 Tryz.prog X a w:=by
  refine rg_in (n:=119) (l:=[iS 88]) (K:=λρ _ w'=>ρ 88=.int .i64 (((i+1:Nat)):Int)/\w'=w) (F:=λ(n88:Int) (ds:Ds) (w':World)=>(Value.int .i64 (IntKind.i64.wrap (n88+1)):Value)=.int .i64 (((i+1:Nat)):Int)/\w'=w) rfl h.sz (by kernel_rfl)
    (kof_t (ty:=.int .i64) (i:Int) h.t88 (kof_nil ⟨by rw[wrap_in (by omega) (by omega)];rfl,rfl⟩)) ?_
  rintro a' w' hs' hk hd' ⟨h88,rfl⟩
  exact hX a' ⟨hs',h.sl.on hk (by kernel_rfl),(hk 86 (by kernel_rfl)).trans h.t86,(hk 87 (by kernel_rfl)).trans h.t87,h88,h.on,h.bx,by rw[hd'];exact h.mks⟩
theorem res49 {p:Addr} {a:Act} {w:World} {s4:SV} {b5:Bool} {n6:Int} (hl:Slt w0 p (envOf a)) (c4:w.cell? ⟨w0.heap.size+1,0,none⟩=some (.slice s4.a s4.len s4.cap)) (c5:w.cell? ⟨w0.heap.size+1+1,0,none⟩=some (.bool b5)) (c6:w.cell? ⟨w0.heap.size+1+1+1,0,none⟩=some (.int .i64 n6)) :
    (results Tryz.f49 a.tmps).run Tryz.prog w=.ok (.tuple #[.slice s4.a s4.len s4.cap,.bool b5,.int .i64 n6]) w:=by
  obtain⟨v,h1,h2⟩:=results_sound (P:=Tryz.prog) (fn:=Tryz.f49) (a:=a) (w:=w) (K:=λv=>v=.tuple #[.slice s4.a s4.len s4.cap,.bool b5,.int .i64 n6]) (by
    show addrE (envOf a 4) λad4=>loadE Tryz.prog 84 ad4 w λv4=>addrE (envOf a 5) λad5=>loadE Tryz.prog 4 ad5 w λv5=>addrE (envOf a 6) λad6=>loadE Tryz.prog 26 ad6 w λv6=>(resV [v4,v5,v6]=_)
    rw[hl.s4,hl.s5,hl.s6]
    refine Eq.mpr (show _=(∃lR:SV,w.cell? ⟨w0.heap.size+1,0,none⟩=some (.slice lR.a lR.len lR.cap)/\∃bR:Bool,w.cell? ⟨w0.heap.size+1+1,0,none⟩=some (.bool bR)/\∃nR:Int,w.cell? ⟨w0.heap.size+1+1+1,0,none⟩=some (.int .i64 nR)/\
      ((.tuple #[.slice lR.a lR.len lR.cap,.bool bR,.int .i64 nR]:Value)=.tuple #[.slice s4.a s4.len s4.cap,.bool b5,.int .i64 n6]))by kernel_rfl) ⟨s4,c4,b5,c5,n6,c6,rfl⟩)
  rw[h2]at h1;exact h1
theorem tail_end {p:Addr} {s:SV} {i b:Nat} {a:Act} {w:World} {R:Ending->World->Prop} (h:Stt w0 p s i b a w) (hR:∀w',Pu w0 w'->R (.returned (.tuple #[.slice none 0 0,.bool false,.int .i64 0])) w') :
    (sq2 tail49).wpIn Fence.wide 4 Tryz.prog (bodyPostM Fence.wide 4 Tryz.prog Tryz.f49 R) a w:=by
  have hz:=blk_lt h.on.b3
  refine wpIn_seq (rg_in (n:=119) (l:=[pS 4,pS 5,pS 6]) (K:=λ_ _ w'=>∃w2,Fr (λk=>w0.heap.size<=k/\k<=w0.heap.size+1+1+1) w w2/\w'=w2/\w2.heap[w0.heap.size+1]?=some (.cells #[.slice none 0 0] 84)/\w2.heap[w0.heap.size+1+1]?=some (.cells #[.bool false] 4)/\w2.heap[w0.heap.size+1+1+1]?=some (.cells #[.int .i64 0] 26))
    (F:=λ(p4 p5 p6:Option Addr) (ds:Ds) (w9:World)=>ptrE p4 λa1=>st1 a1 (.slice none 0 0) w9 λw2=>ptrE p5 λa3=>st1 a3 (.bool false) w2 λw4=>ptrE p6 λa5=>st1 a5 (.int .i64 0) w4 λw6=>(∃w2,Fr (λk=>w0.heap.size<=k/\k<=w0.heap.size+1+1+1) w w2/\w6=w2/\w2.heap[w0.heap.size+1]?=some (.cells #[.slice none 0 0] 84)/\w2.heap[w0.heap.size+1+1]?=some (.cells #[.bool false] 4)/\w2.heap[w0.heap.size+1+1+1]?=some (.cells #[.int .i64 0] 26))) rfl h.sz (by kernel_rfl)
    (kof_t (ty:=.ptr) (some ⟨w0.heap.size+1,0,none⟩:Option Addr) h.sl.s4 (kof_t (ty:=.ptr) (some ⟨w0.heap.size+1+1,0,none⟩:Option Addr) h.sl.s5 (kof_t (ty:=.ptr) (some ⟨w0.heap.size+1+1+1,0,none⟩:Option Addr) h.sl.s6 (kof_nil ?_)))) ?_)
  · rw[ptrE_some]
    refine st1_intro (b:=w0.heap.size+1) (o:=0) h.on.b4 (by simp) λw1 hw1 hb1=>?_
    have f1:Fr (·=w0.heap.size+1) w w1:=by rw[hw1];exact Fr.setCell w ⟨_,0,none⟩ _
    rw[ptrE_some]
    refine st1_intro (b:=w0.heap.size+1+1) (o:=0) (f1.blk h.on.b5 (by omega)) (by simp) λw2 hw2 hb2=>?_
    have f2:Fr (·=w0.heap.size+1+1) w1 w2:=by rw[hw2];exact Fr.setCell w1 ⟨_,0,none⟩ _
    rw[ptrE_some]
    refine st1_intro (b:=w0.heap.size+1+1+1) (o:=0) (f2.blk (f1.blk h.on.b6 (by omega)) (by omega)) (by simp) λw3 hw3 hb3=>?_
    have f3:Fr (·=w0.heap.size+1+1+1) w2 w3:=by rw[hw3];exact Fr.setCell w2 ⟨_,0,none⟩ _
    refine⟨w3,?_,rfl,f3.blk (f2.blk hb1 (by omega)) (by omega),f3.blk hb2 (by omega),hb3⟩
    exact((f1.mono λi hi _=>by rw[show i=_ from hi];omega).trans f2 λi hi _=>by rw[show i=_ from hi];omega).trans f3 λi hi _=>by rw[show i=_ from hi];omega
  rintro a' w' hs' hk hd' ⟨w2,hf,rfl,b4,b5,b6⟩
  refine wpIn_ret ?_
  have hl':=h.sl.on hk (by kernel_rfl)
  show LeavesInM Fence.wide 4 Tryz.prog Tryz.f49 a'.tmps R a'.defers .returning w'
  rw[hd']
  refine leave_mks _ (h.mks.1.fr hf λk hk' hk2=>by have:=h.mks.2 k hk';omega) λw3 h3=>?_
  have keep:∀{k:Nat} {o:Obj},w'.heap[k]?=some o->k<=w0.heap.size+1+1+1->w3.heap[k]?=some o:=λ{k o} hb hle=>h3.blk hb λhk'=>by have:=h.mks.2 k hk';omega
  have c4:=keep b4 (by omega)
  have c5:=keep b5 (by omega)
  have c6:=keep b6 (by omega)
  refine⟨_,res49 hl' (s4:=⟨none,0,0⟩) (cl0 c4) (cl0 c5) (cl0 c6),hR w3 ?_⟩
  exact((h.on.pu.andNew hf λi hi=>hi.1)).andNew h3 λi hi=>by have:=h.mks.2 i hi;omega
def asgOf:Code->Code
  | .rangeFunc _ _ a _=>a
  | c=>c
def bdyOf:Code->Code
  | .rangeFunc _ _ _ b=>b
  | c=>c
noncomputable def rng49 : Code := unb (sq2 (sq2 in49))
theorem rng49_eq:rng49=Code.rangeFunc (.tmp 96) #[97,98] (asgOf rng49) (bdyOf rng49):=by kernel_rfl
theorem Stt.mark {p:Addr} {s:SV} {i b D:Nat} {a:Act} {w W:World} (h:Stt w0 p s i b a w) (hp:Pu w W) (hD:w.heap.size<=D) (hK:W.heap[D]?=some (.deferred (some []))):Stt w0 p s i b { a with defers:={ target:=.collected D,args:=#[] } :: a.defers } W:=by
  refine⟨h.sz,h.sl,h.t86,h.t87,h.t88,h.on.on hp,hp.blk h.bx,⟨⟨D,rfl,hK,λd' hd' e=>?_⟩,h.mks.1.pu hp⟩,λk hk=>?_⟩
  · have:=h.mks.1.lt D (by unfold mkB;rw[←e];exact hd')
    omega
  · rcases List.mem_cons.1 hk with e|hk
    · cases e
      have:=blk_lt h.on.b6
      omega
    · exact h.mks.2 k hk
theorem range_nil{p:Addr}{s:SV}{i b c q:Nat}{ra:Option Addr}{rk:Nat}{a:Act}{w:World}{X:Exit->Act->World->Prop}(h:Sti w0 p s i b c q ⟨ra,0,rk⟩ a w)(hX:∀a' w',Stt w0 p s i b a' w'->X .normal a' w') :
    rng49.wpIn Fence.wide 4 Tryz.prog (Exit.inBlock 6 X) a w:=by
  rw[rng49_eq]
  refine wpIn_rangeFunc_ownH (α:=Empty) rfl (by omega) (gf:=123) (lb:=#[.pointer (some ⟨c,0,none⟩)]) (eval_env h.t96) trivial enters123 (back_nil 3 c ra rk w (blk_lt h.bc) (cl0 h.bc)) (λ_ _=>trivial) (λ_ _ _ _ _ _ _ _=>trivial) (Below.refl _ w) (λx=>x.elim)
    (λ_ W=>Pu w W) (λ_ _ _=>False) (ownFrom_below (Nat.le_refl _) (Nat.le_refl _)) (λ_ _ _ _ _ hs _ _=>hs) (Pu.refl _) (λx _ _=>x.elim) (λx=>x.elim) (λ_ _ x=>x.elim) (λ_ _ x=>x.elim) ?_ (λ_ _ _ _ _ _ h _=>h.elim)
  intro D xs W hD _ hp hK
  exact hX _ _ (h.st.mark hp hD hK)
theorem tail_nil {p:Addr} {D:Defs} {s:SV} {ra:Option Addr} {rk:Nat} {a:Act} {w:World} {R:Ending->World->Prop} (hS:StA w0 p D ⟨ra,0,rk⟩) (hs:a.tmps.size=119) (hd:a.defers=[]) (hl:Slt w0 p (envOf a)) (hB:OnB w0 w s) (hR:∀w',Pu w0 w'->R (.returned (.tuple #[.slice none 0 0,.bool false,.int .i64 0])) w') :
    tail49.wpIn Fence.wide 4 Tryz.prog (bodyPostM Fence.wide 4 Tryz.prog Tryz.f49 R) a w:=by
  refine tail_enter hs hd hl hB λb a' w' h0=>?_
  show(Code.loop rnd49).wpIn Fence.wide 4 Tryz.prog _ a' w'
  have fin:∀{i:Nat} {a:Act} {w:World},¬i<2->Stt w0 p s i b a w->(Exit.inBlock 4 (Exit.then ((sq2 tail49).wpIn Fence.wide 4 Tryz.prog (bodyPostM Fence.wide 4 Tryz.prog Tryz.f49 R)) (bodyPostM Fence.wide 4 Tryz.prog Tryz.f49 R))) (.exit 4) a w:=λ{i a w} _ h=>by
    simp only[Exit.inBlock,if_true]
    exact tail_end h hR
  have step:∀{i:Nat} {a:Act} {w:World} {X Y:Exit->Act->World->Prop},i<2->Stt w0 p s i b a w->(∀a' w',Stt w0 p s (i+1) b a' w'->X .normal a' w')->(sq2 (sq2 rnd49)).wpIn Fence.wide 4 Tryz.prog X a w:=λ{i a w X Y} hi h hX=>by
    refine wpIn_seq (wpIn_block ?_)
    refine rnd_in hi h hS λa1 w1 c q h1=>range_nil h1 λa2 w2 h2=>?_
    exact rnd_end hi h2 λa3 h3=>hX a3 w2 h3
  refine wpIn_loop_rounds 3 ?_
  refine rnd_head h0 (λhi a1 h1=>step (Y:=λ_ _ _=>True) hi h1 λa2 w2 h2=>?_) λhi=>absurd (by decide) hi
  refine rnd_head h2 (λhi a3 h3=>step (Y:=λ_ _ _=>True) hi h3 λa4 w4 h4=>?_) λhi=>absurd (by decide) hi
  exact rnd_head h4 (λhi=>absurd hi (by decide)) λhi a5 h5=>fin hi h5
theorem once_nil_c{p:Addr}{D:Defs}{ra:Option Addr}{rk:Nat}{s:SV}{l:List Ft}(hS:StA w0 p D ⟨ra,0,rk⟩)(hl:RdSl w0 s l)(hn:l.length<=10000)(hf:∀x ∈ l,x.fr.length<=100000) :
    Calls Tryz.prog 49 #[.pointer (some p),.slice s.a s.len s.cap] w0 λe w'=>Pu w0 w'/\match defS (dg D) l with
      | some l'=>∃s':SV,e=.returned (.tuple #[.slice s'.a s'.len s'.cap,.bool true,.int .i64 0])/\RdSl w' s' l'
      | none=>e=.returned (.tuple #[.slice none 0 0,.bool false,.int .i64 0]):=by
  refine(callsIn_wide (n:=4)).1 (head_calls Tryz.func49 rfl (by show 2<=119;decide) (by kernel_rfl) (by kernel_rfl) (F49_p _ (T49n w0 p s (defS (dg D) l=none))) (once_head hS hl hn hf _ _ (λl' hd s' w' hr hp=>?_) (λhd w' hB=>?_)) ?_)
  · rw[hd];exact⟨hp,s',rfl,hr⟩
  · exact⟨rfl,rfl,rfl,rfl,rfl,rfl,hB,hd⟩
  · intro a w1 hsz hdf hK
    obtain⟨z0,z3,z4,z5,z6,hB,hd⟩:=T49n_open hK
    refine tail_nil hS hsz hdf ⟨z0,z3,z4,z5,z6⟩ hB λw' hp=>?_
    rw[hd];exact⟨hp,rfl⟩
end Go.Proofs.YtjbfehippchniaaGreatDoor

/- Pre: a line in which all is replaced, where there are no rules. No condition but those stated. -/
set_option maxRecDepth 100000
set_option linter.unusedVariables false
set_option linter.unusedSimpArgs false
namespace Go.Proofs.YtjbfehippchniaaGreatDoor
open Go.Sh Go.Sh.Lx Go.Sh.Pr Go.RowKit Go.Shelf
variable {w0 w w' : World}
def repG (f:ByteArray->Option (List Tok)):Nat->List Ft->List UInt8 × Int
  | k,l=>match defS f l with
    | none=>(lineT (tks l),0)
    | some l'=>match k with
      | 0=>([],3)
      | k+1=>if 4000<(joinP (tks l')).length then([],3)else repG f k l'
def replS (f:ByteArray->Option (List Tok)) (d:List UInt8):List UInt8 × Int:=match tokP d with
  | none=>([],2)
  | some ts=>repG f 40 (ts.map hid)
theorem repG_none {f:ByteArray->Option (List Tok)} {k:Nat} {l:List Ft} (h:defS f l=none):repG f k l=(lineT (tks l),0):=by unfold repG;rw[h]
theorem repG_zero {f:ByteArray->Option (List Tok)} {l l':List Ft} (h:defS f l=some l'):repG f 0 l=([],3):=by unfold repG;rw[h]
theorem repG_succ {f:ByteArray->Option (List Tok)} {k:Nat} {l l':List Ft} (h:defS f l=some l'):repG f (k+1) l=if 4000<(joinP (tks l')).length then([],3)else repG f k l':=by
  conv=>lhs;unfold repG
  rw[h]
def okT(t:Tok):Prop:=dateOk t/\t.text.size<=5000
theorem wrt_le(t:Tok):(wrtP t).length<=t.text.size+5:=by
  obtain⟨k,a,s⟩:=t
  obtain⟨x,rfl,hx⟩:=text_bs s
  rw[wrtP_bs]
  show _<=(bs x).size+5
  rw[bs_size]
  unfold wrtL
  split
  · split <;> simp <;> omega
  · split
    · split
      · simp
      · simp;omega
    · omega
theorem join_up:∀l:List Tok,(∀t ∈ l,t.text.size<=5000)->(joinP l).length<=l.length * 5006:=by
  intro l h
  cases l with
  | nil=>simp[joinP]
  | cons t l=>
    unfold joinP
    have h1:=wrt_le t
    have h2:=h t (List.mem_cons_self ..)
    have key:∀l:List Tok,(∀t ∈ l,t.text.size<=5000)->(l.flatMap λu=>32 :: wrtP u).length<=l.length * 5006:=by
      intro l
      induction l with
      | nil=>intro _;simp
      | cons u l ih=>
        intro h
        have g1:=wrt_le u
        have g2:=h u (List.mem_cons_self ..)
        have g3:=ih λt ht=>h t (List.mem_cons_of_mem _ ht)
        rw[List.flatMap_cons,List.length_append,List.length_cons,List.length_cons]
        omega
    have h3:=key l λt ht=>h t (List.mem_cons_of_mem _ ht)
    rw[List.length_append,List.length_cons]
    omega
theorem join_low:∀l:List Tok,l.length<=(joinP l).length+1:=by
  intro l
  cases l with
  | nil=>simp
  | cons t l=>
    unfold joinP
    have key:∀l:List Tok,l.length<=(l.flatMap λu=>32 :: wrtP u).length:=by
      intro l
      induction l with
      | nil=>simp
      | cons u l ih=>
        rw[List.flatMap_cons,List.length_append,List.length_cons,List.length_cons]
        omega
    have:=key l
    rw[List.length_append,List.length_cons]
    omega
def OkF(n:Nat)(x:Ft):Prop:=okT x.t/\x.fr.length<=n
theorem defS_ok{D:Defs}(hD:∀x ∈ D,x.2.2.length<=1200/\∀t ∈ x.2.2,okT t){n:Nat}:∀{l l':List Ft},(∀x ∈ l,OkF n x)->defS (dg D) l=some l'->(∀x ∈ l',OkF (n+1) x)/\l'.length<=l.length+1200
  | [],l',_,h=>by cases h
  | x :: l,l',hl,h=>by
    unfold defS at h
    cases hx:defAt (dg D) x with
    | some d=>
      rw[hx]at h
      dsimp only at h
      cases h
      have hd:∃y ∈ D,y.2.2=d:=by
        unfold defAt at hx
        split at hx
        · cases hg:dg D x.t.text with
          | none=>rw[hg]at hx;cases hx
          | some d2=>
            rw[hg]at hx
            dsimp only at hx
            split at hx
            · cases hx
            · cases hx
              unfold dg at hg
              cases hv:AL.get D x.t.text with
              | none=>rw[hv]at hg;cases hg
              | some v=>
                rw[hv]at hg
                cases hg
                obtain⟨y,hy,e⟩:=al_mem hv
                exact⟨y,hy,by rw[e]⟩
        · cases hx
      obtain⟨y,hy,rfl⟩:=hd
      obtain⟨h1,h2⟩:=hD y hy
      have hx1:=hl x (List.mem_cons_self ..)
      refine⟨λz hz=>?_,by rw[List.length_append,List.length_map,List.length_cons];omega⟩
      rcases List.mem_append.1 hz with hz|hz
      · obtain⟨t,ht,rfl⟩:=List.mem_map.1 hz
        exact⟨h2 t ht,by show(x.fr ++ [x.t.text]).length<=n+1;rw[List.length_append];have:=hx1.2;simp;omega⟩
      · have:=hl z (List.mem_cons_of_mem _ hz)
        exact⟨this.1,Nat.le_succ_of_le this.2⟩
    | none=>
      rw[hx]at h
      dsimp only at h
      obtain⟨m,hm,rfl⟩:=Option.map_eq_some_iff.1 h
      obtain⟨h1,h2⟩:=defS_ok hD (λz hz=>hl z (List.mem_cons_of_mem _ hz)) hm
      have hx1:=hl x (List.mem_cons_self ..)
      refine⟨λz hz=>?_,by rw[List.length_cons,List.length_cons];omega⟩
      rcases List.mem_cons.1 hz with rfl|hz
      · exact⟨hx1.1,Nat.le_succ_of_le hx1.2⟩
      · exact h1 z hz
theorem tokP_len{d:List UInt8}{ts:List Tok}(h:tokP d=some ts):ts.length<=1200:=by
  unfold tokP at h
  split at h
  · cases h
  · have:=lexF_len d
    split at h
    · cases h;simp
    · split at h
      · cases h
        have hz:(Z (lexF d).1).length=(lexF d).1.length:=List.length_map _
        rw[List.length_take];omega
      · cases h
theorem step_size{x:UInt8}{r:List UInt8}{b:Bool}{k:Int}{t:List UInt8}{m:Nat}(h:stepS x r b=.tok k t m):t.length<=r.length+24:=by
  unfold stepS at h
  split at h
  · cases h
  split at h
  · cases h
  split at h
  · split at h <;> cases h
  split at h
  · split at h <;> cases h
  unfold tokS at h
  split at h
  · dsimp only at h
    split at h
    · cases h
    · cases h
      rw[List.length_map];omega
  split at h
  · dsimp only at h
    split at h
    · cases h
    · cases h;omega
  split at h
  · unfold quoteS at h
    dsimp only at h
    split at h
    · split at h
      · cases h
      · cases h
        have:=tw_le (λb=>!nlB b && !decide (b=x)) r
        omega
    · cases h
  split at h
  · rename_i d n hd
    cases h
    unfold dateL at hd
    split at hd
    · cases hd;simp
    · split at hd
      · cases hd
      · split at hd
        · cases hd
          unfold datesD
          simp only[List.length_append,List.length_take]
          omega
        · cases hd
  · split at h
    · rename_i w hw
      cases h
      unfold signS at hw
      have:=(signs_len _ (List.mem_of_find?_eq_some hw)).2
      omega
    · cases h
theorem lexS_sizes:∀(n:Nat) (d:List UInt8) (p:Nat) (b:Bool),d.length<=n->∀t ∈ (lexS d p b).1,t.text.size<=n+24:=by
  have hend:∀(n p:Nat) (b:Bool),∀t ∈ (if b then [endT p]else []),t.text.size<=n+24:=by
    intro n p b t ht
    cases b with
    | false=>cases ht
    | true=>
      obtain rfl:t=endT p:=by simpa using ht
      exact Nat.zero_le _
  intro n
  induction n with
  | zero=>
    intro d p b h
    obtain rfl:d=[]:=List.eq_nil_of_length_eq_zero (by omega)
    rw[lexS_nil];exact hend 0 p b
  | succ n ih=>
    intro d p b h
    cases d with
    | nil=>rw[lexS_nil];exact hend _ p b
    | cons x r=>
      have hr:r.length<=n:=by simpa using h
      have hd:∀m,(r.drop m).length<=n:=λm=>by rw[List.length_drop];omega
      have up:∀{u:Tok},u.text.size<=n+24->u.text.size<=n+1+24:=λh=>by omega
      cases hs:stepS x r b with
      | go m=>rw[lexS_go hs];exact λt ht=>up (ih _ _ _ (hd m) t ht)
      | eol=>
        rw[lexS_eol hs]
        intro t ht
        rcases List.mem_append.1 ht with ht|ht
        · exact hend _ p b t ht
        · exact up (ih _ _ _ hr t ht)
      | tok k t m=>
        rw[lexS_tok hs]
        intro u hu
        rcases List.mem_cons.1 hu with rfl|hu
        · have:=step_size hs
          show(bs t).size<=_
          rw[bs_size];omega
        · exact up (ih _ _ _ (hd m) u hu)
      | bad i=>rw[lexS_bad hs];intro t ht;cases ht
theorem tokP_ok{d:List UInt8}{ts:List Tok}(h:tokP d=some ts):∀t ∈ ts,okT t:=by
  unfold tokP at h
  split at h
  · cases h
  · rename_i h0
    obtain⟨h1,h2,_⟩:=lexF_at (d:=d) (by omega)
    have key:∀t ∈ Z (lexF d).1,okT t:=λt ht=>by
      obtain⟨u,hu,rfl⟩:=List.mem_map.1 ht
      have hu2:u ∈ (lexS d 0 false).1:=by rw[h2];exact hu
      have k1:=lexS_dates d.length d 0 false (Nat.le_refl _) u hu2
      have k2:=lexS_sizes d.length d 0 false (Nat.le_refl _) u hu2
      exact⟨k1,by show u.text.size<=5000;omega⟩
    split at h
    · cases h;intro t ht;cases ht
    · split at h
      · cases h;exact λt ht=>key t (List.mem_of_mem_take ht)
      · cases h
theorem replaced_nil_c(hL:Laid w0){p:Addr}{D:Defs}{ra:Option Addr}{rk:Nat}(hS:StA w0 p D ⟨ra,0,rk⟩)(hD:∀x ∈ D,x.2.2.length<=1200/\∀t ∈ x.2.2,okT t)(d:List UInt8)(hd:d.length<=140737488355328) :
    Calls Tryz.prog 20 #[.pointer (some p),.string (bs d)] w0 λe w'=>Pu w0 w'/\e=.returned (.tuple #[.string (bs (replS (dg D) d).1),.int .i64 (replS (dg D) d).2]):=by
  refine calls_by (F20_calls _ _ w0) λR hR=>(tokens_c hL d hd).mono ?_
  rintro e w1 ⟨hp1,s,b,rfl,rfl,hrd⟩
  refine⟨s,_,rfl,?_⟩
  cases ht:tokP d with
  | none=>
    have e1:replS (dg D) d=([],2):=by unfold replS;rw[ht]
    refine Br.t rfl (hR _ _ ⟨hp1,by rw[e1]⟩)
  | some ts=>
    have e1:replS (dg D) d=repG (dg D) 40 (ts.map hid):=by unfold replS;rw[ht]
    rw[ht]at hrd
    have hrd:=hrd rfl
    have e2:tokV2 d=ts:=by unfold tokV2;rw[ht];rfl
    rw[e2]at hrd
    have hlen:=tokP_len ht
    refine Br.f rfl ((hidden_c hrd hlen).mono ?_)
    rintro e w2 ⟨s2,rfl,hr2,hp2⟩
    refine⟨s2,rfl,?_⟩
    have ok0:∀x ∈ ts.map hid,OkF 0 x:=λx hx=>by
      obtain⟨t,ht2,rfl⟩:=List.mem_map.1 hx
      exact⟨tokP_ok ht t ht2,Nat.le_refl _⟩
    refine loopUp 41 (λk t w'=>∃(s':SV) (l:List Ft),t=(s',(k:Int))/\k<=40/\Pu w0 w'/\RdSl w' s' l/\(∀x ∈ l,OkF k x)/\l.length<=4100/\replS (dg D) d=repG (dg D) (40 - k) l) ⟨s2,ts.map hid,rfl,by omega,hp1.trans hp2,hr2,ok0,by rw[List.length_map];omega,e1⟩ ?_
    rintro k J t w3 hk ⟨s',l,rfl,hk40,hp3,hr3,hok,hl,he⟩ hJ
    dsimp only
    have tdate:∀{n:Nat} {l:List Ft},(∀x ∈ l,OkF n x)->∀t ∈ tks l,dateOk t:=λh t ht=>by
      obtain⟨x,hx,rfl⟩:=List.mem_map.1 ht
      exact(h x hx).1.1
    have tsize:∀{n:Nat} {l:List Ft},(∀x ∈ l,OkF n x)->∀t ∈ tks l,t.text.size<=5000:=λh t ht=>by
      obtain⟨x,hx,rfl⟩:=List.mem_map.1 ht
      exact(h x hx).1.2
    refine(once_nil_c (hS.pu hp3) hr3 (by omega) (λx hx=>by have:=(hok x hx).2;omega)).mono ?_
    rintro e w4 ⟨hp4,h4⟩
    have hp04:=hp3.trans hp4
    cases hds:defS (dg D) l with
    | none=>
      rw[hds]at h4
      dsimp only at h4
      subst h4
      refine⟨⟨none,0,0⟩,false,0,rfl,Br.f rfl (Br.t rfl ?_)⟩
      rw[repG_none hds]at he
      have hsl:=hr3.len
      refine Br.of (λq=>?_) (λq=>?_)
      · have q:((s'.len:Nat):Int)=0:=btrue q
        have h0:l=[]:=List.eq_nil_of_length_eq_zero (by omega)
        subst h0
        exact hR _ _ ⟨hp04,by rw[he];rfl⟩
      · have q:¬((s'.len:Nat):Int)=0:=bfalse q
        have hne:tks l ≠ []:=λh=>q (by have:=congrArg List.length h;rw[show(tks l).length=l.length from List.length_map _]at this;have h2:l.length=0:=this;omega)
        have hup:=join_up (tks l) (tsize hok)
        have htl:(tks l).length=l.length:=List.length_map _
        refine(joinedText_c (hr3.pu hp4) (by omega) (tdate hok) (by omega)).mono ?_
        rintro e w5 ⟨rfl,hp5⟩
        have e10:(⟨#[10]⟩:ByteArray)=bs [10]:=rfl
        refine⟨_,rfl,?_,?_⟩
        · rw[e10,cat_bs];simp;omega
        · rw[e10,bs_append]
          refine hR _ _ ⟨hp04.trans hp5,?_⟩
          rw[he]
          unfold lineT
          rw[if_neg hne]
    | some l'=>
      rw[hds]at h4
      dsimp only at h4
      obtain⟨s3,rfl,hr4⟩:=h4
      obtain⟨ok1,hl1⟩:=defS_ok hD hok hds
      refine⟨s3,true,0,rfl,Br.f rfl (Br.f rfl ?_)⟩
      refine Br.of (λq=>?_) (λq=>?_)
      · have q:(k:Int)=40:=btrue q
        obtain rfl:k=40:=by omega
        rw[Nat.sub_self,repG_zero hds]at he
        exact hR _ _ ⟨hp04,by rw[he]⟩
      · have q:¬(k:Int)=40:=bfalse q
        obtain⟨j,hj⟩:∃j,40 - k=j+1:=⟨39 - k,by omega⟩
        rw[hj,repG_succ hds]at he
        have hup:=join_up (tks l') (tsize ok1)
        have hlo:=join_low (tks l')
        have htl:(tks l').length=l'.length:=List.length_map _
        refine(joinedText_c hr4 (by omega) (tdate ok1) (by omega)).mono ?_
        rintro e w5 ⟨rfl,hp5⟩
        refine⟨_,rfl,?_⟩
        rw[bs_size_i]
        refine Br.of (λq2=>?_) (λq2=>?_)
        · have q2:=dtrue q2
          rw[if_pos (by omega)]at he
          exact hR _ _ ⟨hp04.trans hp5,by rw[he]⟩
        · have q2:=dfalse q2
          rw[if_neg (by omega)]at he
          rw[wrap_in (by omega) (by omega)]
          exact hJ _ _ (by omega) ⟨s3,l',by rw[show(k:Int)+1=((k+1:Nat):Int)by omega],by omega,hp04.trans hp5,hr4.pu hp5,ok1,by omega,by rw[he,show 40 - (k+1)=j by omega]⟩
end Go.Proofs.YtjbfehippchniaaGreatDoor

/- Pre: a text split at its line feeds. No condition but those stated. -/
set_option maxRecDepth 100000
set_option linter.unusedVariables false
set_option linter.unusedSimpArgs false
namespace Go.Proofs.YtjbfehippchniaaGreatDoor
open Go.Sh Go.Sh.Lx Go.Sh.Pr Go.RowKit Go.Shelf
variable {w0 w w' : World}
theorem nl_dec(b:UInt8):Lx.nlB b=decide (b=10):=by
  unfold Lx.nlB
  refine dec_eq ⟨λh=>UInt8.toNat_inj.1 (by show b.toNat=10;omega),λh=>by rw[h];rfl⟩
theorem split_ne(d:List UInt8):splitNl d ≠ []:=by
  cases d with
  | nil=>simp[splitNl]
  | cons b r=>
    unfold splitNl
    split
    · simp
    · split <;> simp
theorem split_cut:∀r:List UInt8,splitNl r=if (r.takeWhile λb=>!decide (b=10)).length<r.length then r.take (r.takeWhile λb=>!decide (b=10)).length :: splitNl (r.drop ((r.takeWhile λb=>!decide (b=10)).length+1))else [r]
  | []=>rfl
  | b :: r=>by
    have ih:=split_cut r
    by_cases h:b=10
    · subst h
      have e:((10:UInt8) :: r).takeWhile (λb=>!decide (b=10))=[]:=by rw[List.takeWhile_cons,if_neg (by decide)]
      rw[e]
      have:splitNl ((10:UInt8) :: r)=[] :: splitNl r:=by
        conv=>lhs;unfold splitNl
        rw[if_pos (by decide)]
      rw[this];simp
    · have e:(b :: r).takeWhile (λb=>!decide (b=10))=b :: r.takeWhile (λb=>!decide (b=10)):=by rw[List.takeWhile_cons,if_pos (by simp[h])]
      rw[e]
      have h2:splitNl (b :: r)=match splitNl r with
          | []=>[[b]]
          | x :: xs=>(b :: x) :: xs:=by
        conv=>lhs;unfold splitNl
        rw[if_neg (by rw[nl_dec];simp[h])]
        cases splitNl r <;> rfl
      rw[h2,ih]
      by_cases hl:(r.takeWhile λb=>!decide (b=10)).length<r.length
      · rw[if_pos hl,if_pos (by simp;omega)];rfl
      · rw[if_neg hl,if_neg (by simp;omega)]
theorem split_count(d:List UInt8):((Lib.countByte d 10:Nat):Int)+1=((splitNl d).length:Int):=by
  induction d with
  | nil=>rfl
  | cons b r ih=>
    unfold splitNl
    unfold Lib.countByte at ih ⊢
    rw[nl_dec]
    by_cases h:b=10
    · subst h
      simp at ih ⊢
      omega
    · have hne:=split_ne r
      rw[if_neg (by simp[h])]
      cases hs:splitNl r with
      | nil=>exact absurd hs hne
      | cons x xs=>
        rw[hs]at ih
        simp[List.countP_cons,h]at ih ⊢
        omega
theorem split_le(d:List UInt8):(splitNl d).length<=d.length+1:=by
  have h:=split_count d
  have h2:Lib.countByte d 10<=d.length:=by unfold Lib.countByte;exact List.count_le_length
  omega
theorem strs_set {L:List (List UInt8)} {n i:Nat} (hi:L.length=i) (x:List UInt8) (hn:i<n):((L.map λx=>Value.string (bs x)) ++ List.replicate (n - i) (Value.string ⟨#[]⟩)).set i (Value.string (bs x))=((L ++ [x]).map λx=>Value.string (bs x)) ++ List.replicate (n - (i+1)) (Value.string ⟨#[]⟩):=by
  obtain⟨m,hm⟩:∃m,n - i=m+1:=⟨n - i - 1,by omega⟩
  have e:(L.map λx=>Value.string (bs x)).length=i:=by rw[List.length_map,hi]
  rw[List.set_append_right _ _ (by omega),e,Nat.sub_self,hm,List.replicate_succ,List.set_cons_zero,List.map_append,List.append_assoc,show n - (i+1)=m by omega]
  rfl
theorem index_c(l:List UInt8)(w:World):Calls Tryz.prog 67 #[.string (bs l),.string (⟨#[10]⟩:ByteArray)] w λe w'=>e=.returned (.int .i64 (Lib.indexByte l 10))/\w'=w:=by
  have:=Any.strings_Index_one Tryz.lays143 (bs l) 10 w
  rw[bs_list]at this
  exact this
theorem count_c(l:List UInt8)(w:World):Calls Tryz.prog 178 #[.string (bs l),.string (⟨#[10]⟩:ByteArray)] w λe w'=>e=.returned (.int .i64 ((Lib.countByte l 10:Nat):Int))/\w'=w:=by
  have:=Any.strings_Count_one Tryz.lays138 (bs l) 10 w
  rw[bs_list]at this
  exact this
theorem genSplit_c(d:List UInt8)(hd:d.length<=100000)(w0:World):Calls Tryz.prog 154 #[.string (bs d),.string (⟨#[10]⟩:ByteArray),.int .i64 0,.int .i64 (-1)] w0 λe w'=>Pu w0 w'/\∃s:SV,e=.returned (.slice s.a s.len s.cap)/\RdSl w' s ((splitNl d).map bs):=by
  refine calls_by (F154_calls _ _ _ _ w0) λR hR=>Br.f (by decide) (Br.f (by rw[toList_beq];decide +kernel) (Br.t (by decide) ((count_c d w0).mono ?_)))
  rintro e w1 ⟨rfl,rfl⟩
  have hc:=split_count d
  have hle:=split_le d
  have hne:1<=(splitNl d).length:=List.length_pos_iff.2 (split_ne d)
  obtain⟨n,hn⟩:∃n,n=(splitNl d).length:=⟨_,rfl⟩
  rw[←hn]at hc hle hne
  refine⟨_,rfl,_,_,min_run _ _ _ _ _ _,?_⟩
  rw[bs_size_i,wrap_in (by omega) (by omega),wrap_in (by omega) (by omega),hc,show min ((n:Nat):Int) ((d.length:Int)+1)=((n:Nat):Int)by omega]
  obtain⟨i9,hi9,hz,hs,hb⟩:=info_parts info9
  obtain⟨w2,hrun,hrow,hp2,_⟩:=row_make (P:=Tryz.prog) (w:=w1) (t:=33) (e:=9) (sz:=1) Tryz.underlying33 hi9 hz (by omega) .i64 .i64 n (by rw[hb];omega) (by omega)
  refine⟨⟨some ⟨w1.heap.size,0,none⟩,n,n⟩,w2,hrun,?_⟩
  obtain⟨s,hs'⟩:∃s:SV,s=⟨some ⟨w1.heap.size,0,none⟩,n,n⟩:=⟨_,rfl⟩
  rw[←hs']at hrow ⊢
  have hsl:s.len=n:=by rw[hs']
  have hsc:s.cap=n:=by rw[hs']
  have hnew:∀k ∈ blkOf s,w1.heap.size<=k:=by rw[hs'];simp[blkOf]
  have hz0:(madeCells (Value.string ⟨#[]⟩).cells (n * 1)).toList=List.replicate n (Value.string ⟨#[]⟩):=by
    rw[show(Value.string ⟨#[]⟩).cells=#[.string ⟨#[]⟩]from rfl,toList_madeCells_one,Nat.mul_one]
  rw[hz0]at hrow
  rw[wrap_in (by omega) (by omega)]
  refine loopUp (n - 1) (λi t w'=>∃(r:List UInt8) (L:List (List UInt8)),t=(bs r,(i:Int))/\Pu w1 w'/\r.length<=d.length/\L.length=i/\splitNl d=L ++ splitNl r/\RowAt w' 9 1 s ((L.map λx=>Value.string (bs x)) ++ List.replicate (n - i) (Value.string ⟨#[]⟩))) ⟨d,[],rfl,hp2,Nat.le_refl _,rfl,rfl,by simpa using hrow⟩ ?_
  rintro i J t w3 hi ⟨r,L,rfl,hp3,hrd,hL,hsp,hr3⟩ hJ
  dsimp only
  have hrl:(splitNl r).length=n - i:=by have:=congrArg List.length hsp;rw[List.length_append]at this;omega
  have hcut:=split_cut r
  have fin:i=n - 1->splitNl r=[r]:=λh=>by
    rw[hcut]at hrl ⊢
    split at hrl
    · rename_i h9
      have:=List.length_pos_iff.2 (split_ne (r.drop ((r.takeWhile λb=>!decide (b=10)).length+1)))
      rw[List.length_cons]at hrl
      omega
    · rename_i h9
      rw[if_neg h9]
  refine Br.of (λq=>?_) (λq=>?_)
  · have q:=dtrue q
    have hi2:i<n - 1:=by omega
    have hlt:(r.takeWhile λb=>!decide (b=10)).length<r.length:=by
      rcases Nat.lt_or_ge (r.takeWhile λb=>!decide (b=10)).length r.length with h|h
      · exact h
      · rw[hcut,if_neg (by omega)]at hrl
        simp at hrl;omega
    refine(index_c r w3).mono ?_
    rintro e w4 ⟨rfl,rfl⟩
    have hix:=indexByte_tw 10 r
    rw[if_pos hlt]at hix
    rw[if_pos hlt]at hcut
    generalize (r.takeWhile λb=>!decide (b=10)).length=k at *
    rw[hix]
    have e1:((⟨#[10]⟩:ByteArray).size:Int)=1:=rfl
    obtain⟨a,ha,hst⟩:=hr3.st1 (j:=i) (by simp;omega) (.string (bs (r.take k))) (K:=λw6=>(bs r).size<=(bs r).size/\0<=(IntKind.i64.wrap ((k:Int)+(((⟨#[10]⟩:ByteArray).size:Nat):Int)))/\(IntKind.i64.wrap ((k:Int)+(((⟨#[10]⟩:ByteArray).size:Nat):Int))).toNat<=(bs r).size/\
        J (((bs r).extract ((IntKind.i64.wrap ((k:Int)+(((⟨#[10]⟩:ByteArray).size:Nat):Int))).toNat) (bs r).size),(IntKind.i64.wrap ((i:Int)+1))) w6) λw5 h5 hf5 _=>by
      have e2:(k:Int)+(((⟨#[10]⟩:ByteArray).size:Nat):Int)=((k+1:Nat):Int):=by rw[e1];omega
      rw[e2,wrap_in (by omega) (by omega),wrap_in (by omega) (by omega),toNat_i,extract_drop]
      refine⟨Nat.le_refl _,by omega,by rw[bs_size];omega,?_⟩
      refine hJ _ _ hi2 ⟨r.drop (k+1),L ++ [r.take k],by rw[show(i:Int)+1=((i+1:Nat):Int)by omega],hp3.andNew hf5 (λx hx=>hnew x hx),by rw[List.length_drop];omega,by rw[List.length_append,hL];rfl,by rw[hsp,hcut,List.append_assoc];rfl,?_⟩
      rw[←strs_set hL (r.take k) (by omega)]
      exact h5
    refine⟨_,rfl,Br.f (decide_eq_false (by omega)) ?_⟩
    rw[Int.add_zero,wrap_in (by omega) (by omega),toNat_i]
    refine⟨by omega,by rw[bs_size];omega,by omega,a,ha,by omega,by omega,?_⟩
    rw[toNat_i,Nat.mul_one,extract_take,List.drop_zero]
    exact hst
  · have q:=dfalse q
    obtain rfl:i=n - 1:=by omega
    rw[fin rfl]at hsp
    obtain⟨a,ha,hst⟩:=hr3.st1 (j:=n - 1) (by simp;omega) (.string (bs r)) (K:=λw2=>0<=(IntKind.i64.wrap (((n - 1:Nat):Int)+1))/\(IntKind.i64.wrap (((n - 1:Nat):Int)+1)).toNat<=s.cap/\0<=(IntKind.i64.wrap (((n - 1:Nat):Int)+1)).toNat/\
        R (.returned (.slice (if s.cap=0 then s.a else s.a.map (λx=>x.add (0 * 1))) ((IntKind.i64.wrap (((n - 1:Nat):Int)+1)).toNat - 0) (s.cap - 0))) w2) λw5 h5 hf5 _=>by
      have e2:((n - 1:Nat):Int)+1=(n:Int):=by omega
      rw[e2,wrap_in (by omega) (by omega),toNat_i]
      refine⟨by omega,by omega,by omega,?_⟩
      rw[strs_set hL r (by omega),←hsp,show n - (n - 1+1)=0 by omega,List.replicate_zero,List.append_nil]at h5
      have e3:(splitNl d).map (λx=>Value.string (bs x))=((splitNl d).map bs).map Value.string:=by rw[List.map_map];rfl
      rw[e3]at h5
      have hrd:=rd_str h5 (by rw[List.length_map];omega)
      have:=rd_sub hrd (lo:=0) (hi:=((splitNl d).map bs).length) (by omega) (Nat.le_refl _) _ _ _ rfl rfl rfl
      rw[List.take_length,List.drop_zero]at this
      rw[List.length_map,←hn]at this
      exact hR _ _ ⟨hp3.andNew hf5 (λx hx=>hnew x hx),⟨_,_,_⟩,rfl,this⟩
    refine⟨a,ha,by omega,by omega,?_⟩
    rw[toNat_i,Nat.mul_one]
    exact hst
theorem splitF_c(d:List UInt8)(hd:d.length<=100000)(w0:World):Calls Tryz.prog 126 #[.string (bs d),.string (⟨#[10]⟩:ByteArray)] w0 λe w'=>Pu w0 w'/\∃s:SV,e=.returned (.slice s.a s.len s.cap)/\RdSl w' s ((splitNl d).map bs):=by
  refine calls_by (F126_calls _ _ w0) λR hR=>(genSplit_c d hd w0).mono ?_
  rintro e w1 ⟨hp,s,rfl,hs⟩
  exact⟨s,rfl,hR _ _ ⟨hp,s,rfl,hs⟩⟩
end Go.Proofs.YtjbfehippchniaaGreatDoor

/- Pre: a text's lines, those that go on with what follows them. No condition but those stated. -/
set_option maxRecDepth 100000
set_option linter.unusedVariables false
set_option linter.unusedSimpArgs false
namespace Go.Proofs.YtjbfehippchniaaGreatDoor
open Go.Sh Go.Sh.Lx Go.Sh.Pr Go.RowKit Go.Shelf
variable {w0 w w' : World}
theorem split_mem:∀(d:List UInt8),∀x ∈ splitNl d,x.length<=d.length
  | [],x,hx=>by
    have:x=[]:=by simpa[splitNl] using hx
    subst this;exact Nat.le_refl _
  | b :: r,x,hx=>by
    unfold splitNl at hx
    split at hx
    · rcases List.mem_cons.1 hx with rfl|hx
      · exact Nat.zero_le _
      · have:=split_mem r x hx
        rw[List.length_cons];omega
    · cases hs:splitNl r with
      | nil=>exact absurd hs (split_ne r)
      | cons y ys=>
        rw[hs]at hx
        rcases List.mem_cons.1 hx with rfl|hx
        · have:=split_mem r y (by rw[hs];exact List.mem_cons_self ..)
          simpa using this
        · have:=split_mem r x (by rw[hs];exact List.mem_cons_of_mem _ hx)
          rw[List.length_cons];omega
theorem hashA_c(d:List UInt8)(w:World):Calls Tryz.prog 41 #[.string (bs (trimS d)),.string (⟨#[35]⟩:ByteArray)] w λe w'=>e=.returned (.bool (hashS d))/\w'=w:=hash_c (trimS d) w
set_option maxHeartbeats 1000000 in
theorem logical_c(d:List UInt8)(hd:d.length<=4000)(w0:World):Calls Tryz.prog 94 #[.string (bs d)] w0 λe w'=>Pu w0 w'/\∃s:SV,e=.returned (.slice s.a s.len s.cap)/\RowAt w' 9 1 s (((linesS d).map bs).map Value.string)/\(linesS d).length<=10000:=by
  refine calls_by (F94_calls _ w0) λR hR=>(splitF_c d (by omega) w0).mono ?_
  rintro e w1 ⟨hp1,sl,rfl,hsl⟩
  refine⟨sl,rfl,?_⟩
  have hlen:=hsl.len
  rw[List.length_map]at hlen
  have hle:=split_le d
  obtain⟨LS,hLS⟩:∃LS,LS=splitNl d:=⟨_,rfl⟩
  rw[←hLS]at hlen hle hsl
  have hline:∀x ∈ LS,x.length<=4000:=λx hx=>by have:=split_mem d x (by rw[←hLS];exact hx);omega
  have e0:(⟨#[]⟩:ByteArray)=bs []:=rfl
  have e10:(⟨#[10]⟩:ByteArray)=bs [10]:=rfl
  have e59:(⟨#[59]⟩:ByteArray)=bs [59]:=rfl
  refine loopUp LS.length (λk t w'=>∃(s':SV) (out:List (List UInt8)) (now:List UInt8) (op bg:Bool),t=(s',bs now,op,bg,(k:Int))/\Pu w1 w'/\RowAt w' 9 1 s' ((out.map bs).map Value.string)/\NewR w1 s'/\linesS d=out ++ logG (LS.drop k) now op bg/\now.length<=k * 4001/\out.length<=k)
    ⟨⟨none,0,0⟩,[],[],false,false,rfl,Pu.refl _,RowAt.nil _ _ _,by simp[NewR,blkOf],by rw[hLS];rfl,by simp,Nat.le_refl _⟩ ?_
  rintro k J t w2 hk ⟨s',out,now,op,bg,rfl,hp2,hr2,hn2,he,hnow,hout⟩ hJ
  dsimp only
  -- a line put behind those that are there
  have push:∀{x:List UInt8} {w3:World} {K:SV->World->Prop},Pu w2 w3->(∀s3 w4,Pu w1 w4->RowAt w4 9 1 s3 (((out ++ [x]).map bs).map Value.string)->NewR w1 s3->K s3 w4)->alE (.cells #[.string (bs x)] 9) w3 λr w4=>∃l:SV,∃w5:World,(Builtin.append_ #[33,33] 33 #[.slice s'.a s'.len s'.cap,.slice (some ⟨r,0,none⟩) 1 1]).run Tryz.prog w4=.ok (.slice l.a l.len l.cap) w5/\K l w5:=λ{x w3 K} hp3 hK=>by
    refine alB λw4 hp4 hb4=>?_
    obtain⟨s3,w5,hrun,hr5,hf5,hn5⟩:=push_str (hr2.pu (hp3.trans hp4)) (by rw[List.length_map,List.length_map];omega) (bs x) hb4
    have hP:=hp2.trans (hp3.trans hp4)
    refine⟨s3,w5,hrun,hK s3 w5 (hP.andNew hf5 λi hi=>hn2 i hi) ?_ λi hi=>?_⟩
    · rw[List.map_append,List.map_append];exact hr5
    · rcases hn5 i hi with h|h
      · exact hn2 i h
      · have:=hP.size;omega
  refine Br.of (λq=>?_) (λq=>?_)
  · have q:=dtrue q
    have hk2:k<LS.length:=by omega
    obtain⟨x,hx⟩:=at_k hk2
    have hxl:=hline x (List.mem_of_getElem? hx)
    obtain⟨a,ha,h1,h2,hc⟩:=RdSl.wd (hsl.pu hp2) (i:=k) (x:=bs x) (by rw[List.getElem?_map,hx];rfl)
    rw[drop_at hx]at he
    unfold logG at he
    refine⟨a,ha,h1,h2,_,hc,?_⟩
    have hkk:(k+1) * 4001=k * 4001+4001:=Nat.succ_mul ..
    have hklim:k * 4001<=5000 * 4001:=Nat.mul_le_mul_right _ (by omega)
    have hul:=uncS_len x
    have htl:=trimS_len (uncS x)
    -- behind the line: whether it goes on
    have rest:∀{w3:World} {nw:List UInt8},Pu w2 w3->nw=(if op then now ++ [10]else now) ++ x->((!op && hashS x)=false)->Calls Tryz.prog 40 #[.string (bs x)] w3 λe w13=>∃s35:ByteArray,e=.returned (.string s35)/\Calls Tryz.prog 39 #[.string s35] w13 λe w14=>∃s36:ByteArray,e=.returned (.string s36)/\
        Calls Tryz.prog 68 #[.string (bs x),.bool bg] w14 λe w15=>∃b39:Bool,e=.returned (.bool b39)/\F94_4 R J s' (bs nw) b39 bg s36 sl ((sl.len:Nat):Int) (k:Int) [] w15:=λ{w3 nw} hp3 hnw hno=>by
      rw[hno]at he
      rw[←hnw]at he
      have hnwl:nw.length<=(k+1) * 4001:=by
        rw[hnw]
        split
        · rw[List.length_append,List.length_append,List.length_singleton];omega
        · rw[List.length_append];omega
      refine(uncommented_c x (by omega) w3).mono ?_
      rintro e w4 ⟨rfl,hp4⟩
      refine⟨_,rfl,(trimmed_c (uncS x) (by omega) w4).mono ?_⟩
      rintro e w5 ⟨rfl,hp5⟩
      refine⟨_,rfl,(pgoes_c x (by omega) bg w5).mono ?_⟩
      rintro e w6 ⟨rfl,hp6⟩
      refine⟨_,rfl,?_⟩
      have hP:Pu w2 w6:=hp3.trans (hp4.trans (hp5.trans hp6))
      -- the end of a round
      have fin:∀{bg':Bool} {w7:World},bg'=(bg || begS x bg)->Pu w2 w7->F94_3 R J s' (bs nw) (goesS x bg) bg' sl ((sl.len:Nat):Int) (k:Int) (!(goesS x bg)) [] w7:=λ{bg' w7} hbg hp7=>by
        unfold F94_3 F94_2
        rw[wrap_in (by omega) (by omega),show(k:Int)+1=((k+1:Nat):Int)by omega]
        cases hg:goesS x bg with
        | true=>
          rw[hg]at he
          refine Br.f rfl (hJ _ _ hk2 ⟨s',out,nw,true,bg',rfl,hp2.trans hp7,hr2.pu hp7,hn2,?_,hnwl,by omega⟩)
          rw[he,hbg];rfl
        | false=>
          rw[hg]at he
          refine Br.t rfl (push hp7 λs3 w8 hp8 hr8 hn8=>?_)
          rw[e0]
          refine hJ _ _ hk2 ⟨s3,out ++ [nw],[],false,false,rfl,hp8,hr8,hn8,?_,by simp,by rw[List.length_append];simp;omega⟩
          rw[he,List.append_assoc];rfl
      unfold F94_4
      refine Br.of (λq1=>fin (by rw[q1];rfl) hP) (λq1=>?_)
      subst q1
      rw[toList_beq,toList_beq,e0,e59]
      have hb:begS x false=(decide (trimS (uncS x) ≠ []) && decide (trimS (uncS x) ≠ [59]) && !(starS (trimS (uncS x)) && !false)):=rfl
      by_cases h9:trimS (uncS x)=[]
      · rw[h9,decide_eq_true rfl]
        exact Br.f rfl (fin (by rw[hb,h9];rfl) hP)
      · rw[decide_eq_false λh=>h9 (bs_inj.1 h)]
        refine Br.t rfl ?_
        by_cases h8:trimS (uncS x)=[59]
        · rw[h8,decide_eq_true rfl]
          exact Br.f rfl (fin (by rw[hb,h8];rfl) hP)
        · rw[decide_eq_false λh=>h8 (bs_inj.1 h)]
          refine Br.t rfl ((starA_c (trimS (uncS x)) w6).mono ?_)
          rintro e w7 ⟨rfl,rfl⟩
          refine⟨_,rfl,?_⟩
          rw[decide_eq_true h9,decide_eq_true h8]at hb
          refine Br.of (λq2=>fin (by rw[hb,q2];rfl) hP) (λq2=>fin (by rw[hb,q2];rfl) hP)
    refine Br.of (λq1=>?_) (λq1=>?_)
    · have q1:op=false:=by simpa using q1
      subst q1
      refine(trimmed_c x (by omega) w2).mono ?_
      rintro e w3 ⟨rfl,hp3⟩
      refine⟨_,rfl,(hashA_c x w3).mono ?_⟩
      rintro e w4 ⟨rfl,rfl⟩
      refine⟨_,rfl,Br.of (λq2=>?_) (λq2=>?_)⟩
      · rw[q2]at he
        refine push hp3 λs3 w5 hp5 hr5 hn5=>?_
        unfold F94_2
        rw[wrap_in (by omega) (by omega),show(k:Int)+1=((k+1:Nat):Int)by omega]
        refine hJ _ _ hk2 ⟨s3,out ++ [x],now,false,bg,rfl,hp5,hr5,hn5,?_,by omega,by rw[List.length_append];simp;omega⟩
        rw[he,List.append_assoc];rfl
      · refine Br.f rfl ⟨by rw[bs_size,bs_size];omega,?_⟩
        rw[bs_append]
        exact rest hp3 rfl (by rw[q2];rfl)
    · have q1:op=true:=by simpa using q1
      subst q1
      refine Br.t rfl ⟨?_,?_,?_⟩
      · rw[e10,bs_size,bs_size,List.length_singleton];omega
      · rw[e10,bs_append,bs_size,bs_size,List.length_append,List.length_singleton];omega
      · rw[e10,bs_append,bs_append]
        exact rest (Pu.refl _) rfl rfl
  · have q:=dfalse q
    obtain rfl:k=LS.length:=by omega
    rw[List.drop_length]at he
    unfold logG at he
    cases op with
    | true=>
      refine Br.t rfl (push (Pu.refl _) λs3 w4 hp4 hr4 hn4=>hR _ _ ⟨hp1.trans hp4,s3,rfl,?_,?_⟩)
      · rw[he]
        exact hr4
      · rw[he,List.length_append];simp;omega
    | false=>
      refine Br.f rfl (hR _ _ ⟨hp1.trans hp2,s',rfl,?_,?_⟩)
      · rw[he]
        simp only[Bool.false_eq_true,if_false,List.append_nil]
        exact hr2
      · rw[he,List.length_append];simp;omega
end Go.Proofs.YtjbfehippchniaaGreatDoor
