import Derived.Test.YtjbfehippchniaaGreatDoorPrOwF
import Derived.Lib.Builder
import Derived.Lib.UnsafeStr
import Derived.Lib.AppendStr
import Derived.Test.YtjbfehippchniaaGreatDoorPrOwA
import Derived.Test.YtjbfehippchniaaGreatDoorPrOwD
import Derived.Test.YtjbfehippchniaaGreatDoorPrPrA
import Derived.Test.YtjbfehippchniaaGreatDoorPrOwB
import Derived.Test.YtjbfehippchniaaGreatDoorPrPrB
/- Pre: the builder within the worker. No condition but those stated. -/
set_option maxRecDepth 100000
set_option linter.unusedVariables false
set_option linter.unusedSimpArgs false
namespace Go.Proofs.YtjbfehippchniaaGreatDoor
open Go.Sh Go.Sh.Lx Go.Sh.Pr Go.RowKit Go.Shelf
attribute [local go_sem] Oper.semAt_some
variable {w0 w w' : World}
theorem sizeBld:∃j,Tryz.prog.info? 59=some j/\j.size=2:=by
  obtain⟨j,h1,h2⟩:=Option.map_eq_some_iff.1 (show(Tryz.prog.info? 59).map (·.size)=some 2 by kernel_rfl)
  exact⟨j,h1,h2⟩
theorem check_used {b:Nat} (w:World) (h0:w.cell? ⟨b,2,none⟩=some (.pointer (some ⟨b,2,none⟩))):Calls Tryz.prog 142 #[.pointer (some ⟨b,2,none⟩)] w λe w'=>e=.returned (.tuple #[])/\w'=w:=by
  obtain⟨j,hj,_⟩:=sizeBld
  have u56:Tryz.prog.underlying 56=some (.pointer 59):=Tryz.underlying56
  refine(callsIn_wide (n:=4)).1 ?_
  refine callsIn_of_wp Tryz.func142 rfl trivial ?_ rfl
  simp only[Tryz.ntmps142,List.size_toArray,List.length_cons,List.length_nil,Nat.reduceAdd,Nat.reduceSub,Array.replicate_succ,Array.replicate_zero,List.push_toArray,List.append_toArray,List.nil_append,List.cons_append]
  gi_wp2
  rw[Lib.run_neq_ptr_same w _ u56 hj]
  gi_wp2
  exact⟨rfl,_,results_none rfl _ _ _,rfl,rfl⟩
theorem check_fresh {b:Nat} {c:Array Value} (w:World) (hb:w.heap[b]?=some (.cells c 62)) (hc:c.size=5) (h0:c[2]?=some (.pointer none)):Calls Tryz.prog 142 #[.pointer (some ⟨b,2,none⟩)] w λe w'=>e=.returned (.tuple #[])/\w'=w.setCell ⟨b,2,none⟩ (.pointer (some ⟨b,2,none⟩)):=by
  obtain⟨j,hj,hjs⟩:=sizeBld
  have hc0:w.cell? ⟨b,2,none⟩=some (.pointer none):=by rw[cell_blk hb];exact h0
  have hfz:w.frozen? ⟨b,2,none⟩=false:=frozen_blk hb 2
  have hsh:w.shape? b=some (62,5):=by simp[World.shape?,hb,hc]
  have u56:Tryz.prog.underlying 56=some (.pointer 59):=Tryz.underlying56
  have u197:Tryz.prog.underlying 197=some .unsafePointer:=Tryz.underlying197
  refine(callsIn_wide (n:=4)).1 ?_
  refine callsIn_of_wp Tryz.func142 rfl trivial ?_ rfl
  simp only[Tryz.ntmps142,List.size_toArray,List.length_cons,List.length_nil,Nat.reduceAdd,Nat.reduceSub,Array.replicate_succ,Array.replicate_zero,List.push_toArray,List.append_toArray,List.nil_append,List.cons_append]
  gi_wp2
  rw[Lib.run_to_unsafe w ⟨b,2,none⟩ u56 u197 hj (by rw[hjs];decide) hsh (by show 2<5;decide)]
  gi_wp2
  refine⟨trivial,?_⟩
  rw[run_callFunc_extern Tryz.func162 (by kernel_rfl) (by kernel_rfl) (by kernel_rfl) (e:=Extern.AbiNoEscape.same) (by kernel_rfl),Lib.run_noEscape]
  gi_wp2
  rw[Lib.run_from_unsafe w ⟨b,2,none⟩ u197 u56 hj hsh (by kernel_rfl)]
  gi_wp2
  exact⟨rfl,_,results_none rfl _ _ _,rfl,rfl⟩
def u8V(b:UInt8):Value:=.int .u8 ((b.toNat:Nat):Int)
theorem info5:(Tryz.prog.info? 5).map (λi=>(i.zero,i.size,i.bytes))=some (some (.int .u8 0),1,1):=by kernel_rfl
structure Wk(w0 w:World)(b m:Nat)(acc:List UInt8):Prop where
  since:Pu w0 w
  nb:w0.heap.size<=b
  nm:w0.heap.size<=m
  map:Go.Sh.MapAt w ekS slV m ([]:List (ByteArray × SV))
  blk:∃(v:Value) (q:SV),w.heap[b]?=some (.cells #[.map (some m),.slice none 0 0,v,.slice q.a q.len q.cap,.slice none 0 0] 62)/\(v=.pointer none∨v=.pointer (some ⟨b,2,none⟩))/\RowAt w 5 1 q (acc.map u8V)/\(∀k ∈ blkOf q,w0.heap.size<=k)/\(acc=[]->q=⟨none,0,0⟩)
theorem Wk.pu{b m:Nat}{acc:List UInt8}(h:Wk w0 w b m acc)(hp:Pu w w'):Wk w0 w' b m acc:=by
  obtain⟨h1,h2,h3,h4,v,q,h5,h6,h7,h8,h9⟩:=h
  exact⟨h1.trans hp,h2,h3,h4.pu hp,v,q,hp.blk h5,h6,h7.pu hp,h8,h9⟩
theorem Wk.sta{b m:Nat}{acc:List UInt8}(h:Wk w0 w b m acc):StA w ⟨b,0,none⟩ [] ⟨none,0,0⟩:=by
  obtain⟨h1,h2,h3,h4,v,q,h5,h6,h7,h8,h9⟩:=h
  exact⟨⟨m,cl0 h5,h4⟩,(λx hx=>by cases hx),cl h5 1⟩
theorem Wk.open_{b m:Nat}{acc:List UInt8}(h:Wk w0 w b m acc):w.cell? ((⟨b,0,none⟩:Addr).add 4)=some (.slice none 0 0):=by
  obtain⟨h1,h2,h3,h4,v,q,h5,h6,h7,h8,h9⟩:=h
  exact cl h5 4
theorem row_str {s:SV} {l:List UInt8} (h:RowAt w 5 1 s (l.map u8V)) (hn:∀k ∈ blkOf s,w0.heap.size<=k) (hz:w0.heap.size<=w.heap.size) (news:List UInt8) (hb:l.length+news.length<=70368744177664) :
    ∃(s':SV) (w':World),(Builtin.append_ #[57,9] 57 #[.slice s.a s.len s.cap,.string (bs news)]).run Tryz.prog w=.ok (.slice s'.a s'.len s'.cap) w'/\RowAt w' 5 1 s' ((l ++ news).map u8V)/\Fr (· ∈ blkOf s) w w'/\(∀k ∈ blkOf s',w0.heap.size<=k)/\(s=⟨none,0,0⟩->news=[]->s'=⟨none,0,0⟩):=by
  have h1:s.len=l.length:=by have:=h.1;simp at this;omega
  obtain⟨i,h2,h3,h4,h5⟩:=info_parts info5
  have own:w.ownsRow w0.heap.size 5 1 (.slice s.a s.len s.cap) s.len (l.map u8V):=by
    obtain⟨q1,q2⟩:=h.owns
    refine⟨q1,?_⟩
    rcases q2 with q2|⟨g,cap,cur,q3,_,q4⟩
    · exact .inl q2
    · refine .inr ⟨g,cap,cur,q3,hn g ?_,q4⟩
      simp only[Value.slice.injEq]at q3
      simp[blkOf,q3.1]
  obtain⟨v2,w2,hr2,ho2,hg,hnil⟩:=Lib.run_append_own_string (P:=Tryz.prog) w w0.heap.size 57 9 57 5 i Tryz.underlying57 Tryz.underlying9 h2 h3 h4 h5 _ _ _ own (bs news) (by rw[bs_size];unfold maxLen;omega) (by rw[bs_size];omega) hz
  have hs:Lib.strCells (bs news)=news.map u8V:=by unfold Lib.strCells;rw[bs_list];rfl
  rw[hs,←List.map_append]at ho2
  have hfr:Fr (· ∈ blkOf s) w w2:=⟨hg.os,hg.tape,hg.output,hg.size,λk hk hn=>hg.block k hk (λe=>hn (by
    cases ha:s.a with
    | none=>rw[ha]at e;simp[Value.ownBlock]at e
    | some a=>rw[ha]at e;simp only[Value.ownBlock,Option.some.injEq]at e;simp[blkOf,ha,e]))⟩
  obtain⟨q1,q2⟩:=ho2
  rcases q2 with⟨q2,q3⟩|⟨g,cap,cur,q2,q3,q4,q5,q6,q7,q8⟩
  · refine⟨⟨none,0,0⟩,w2,by rw[hr2,q2],⟨by rw[q1,q3],.inl rfl⟩,hfr,by simp[blkOf],λ_ _=>rfl⟩
  · refine⟨⟨some ⟨g,0,none⟩,s.len+(bs news).size,cap⟩,w2,by rw[hr2,q2],⟨q1,.inr ⟨g,cur,rfl,q4,q5,q6,q7,q8⟩⟩,hfr,λk hk=>?_,λe1 e2=>?_⟩
    · have hk:k=g:=by simpa[blkOf] using hk
      subst hk
      exact q3
    · subst e1 e2
      have:=hnil.2 ⟨rfl,rfl⟩
      rw[q2]at this;cases this
def Kr(w w':World):Prop:=∀{s:SV} {vs:List Value},RowAt w 9 1 s vs->RowAt w' 9 1 s vs
theorem write_c{b m:Nat}{acc:List UInt8}(h:Wk w0 w b m acc)(s:List UInt8)(hl:acc.length+s.length<=70368744177664):Calls Tryz.prog 115 #[.pointer (some ⟨b,2,none⟩),.string (bs s)] w λe w'=>e=.returned (.tuple #[.int .i64 (s.length:Nat),.nilIface])/\Wk w0 w' b m (acc ++ s)/\Kr w w':=by
  have hz:=h.since.size
  have hmap:=h.map
  obtain⟨h1,h2,h3,h4,v,q,h5,h6,h7,h8,h9⟩:=h
  have hqb:b ∉ blkOf q:=h7.other h5 (by decide)
  obtain⟨es,clk,hmb,_⟩:=h4
  have hmq:m ∉ blkOf q:=λhk=>by
    obtain⟨_,rfl|⟨g,cur,g3,g4,_⟩⟩:=h7
    · simp[blkOf]at hk
    · have hk:m=g:=by simpa[blkOf,g3] using hk
      subst hk
      rw[hmb]at g4;cases g4
  have hmbne:m ≠ b:=λe=>by subst e;rw[hmb]at h5;cases h5
  refine calls_by (F115_calls _ _ w) λR hR=>?_
  have key:∀w1,Fr (·=b) w w1->w1.heap[b]?=some (.cells #[.map (some m),.slice none 0 0,.pointer (some ⟨b,2,none⟩),.slice q.a q.len q.cap,.slice none 0 0] 62)->
      (ptrE (some (⟨b,2,none⟩:Addr)) λa2=>∃l12:SV,w1.cell? (a2.add 1)=some (.slice l12.a l12.len l12.cap)/\∃l14:SV,∃w3:World,(Builtin.append_ #[57,9] 57 #[.slice l12.a l12.len l12.cap,.string (bs s)]).run Tryz.prog w1=.ok (.slice l14.a l14.len l14.cap) w3/\
        ptrE (some (⟨b,2,none⟩:Addr)) λa4=>st1 (a4.add 1) (.slice l14.a l14.len l14.cap) w3 λw5=>R (.returned (.tuple #[.int .i64 (((bs s).size:Nat):Int),.nilIface])) w5):=λw1 f1 b1=>by
    rw[ptrE_some]
    have r1:=h7.fr f1 λk hk e=>hqb (by rw[←show k=b from e];exact hk)
    obtain⟨s',w3,hrun,hr3,hf3,hn3,hnil3⟩:=row_str (w0:=w0) r1 h8 (by have:=f1.size;omega) s hl
    refine⟨q,by rw[add_def,cell_blk b1];rfl,s',w3,hrun,?_⟩
    rw[ptrE_some,add_def]
    have b3:=hf3.blk b1 hqb
    refine st1_intro (o:=2+1) b3 (by simp) λw5 hw5 b5=>?_
    have f5:Fr (·=b) w3 w5:=by rw[hw5];exact Fr.setCell w3 ⟨b,3,none⟩ _
    have hq3:b ∉ blkOf s':=hr3.other b3 (by decide)
    rw[bs_size]
    refine hR _ _ ⟨rfl,⟨?_,h2,h3,?_,_,s',b5,.inr rfl,?_,hn3,λe=>?_⟩,λ{z vs} hz9=>?_⟩
    · exact((h1.andNew f1 λi hi=>by rw[show i=b from hi];exact h2).andNew hf3 λi hi=>h8 i hi).andNew f5 λi hi=>by rw[show i=b from hi];exact h2
    · exact((hmap.fr f1 hmbne).fr hf3 hmq).fr f5 hmbne
    · exact hr3.fr f5 λk hk e=>hq3 (by rw[←show k=b from e];exact hk)
    · obtain⟨e1,e2⟩:=List.append_eq_nil_iff.1 e
      exact hnil3 (h9 e1) e2
    · have n1:=hz9.other h5 (by decide)
      have n2:∀k ∈ blkOf z,¬k ∈ blkOf q:=λk hk hq=>by
        obtain⟨_,rfl|⟨g,cur,g3,g4,_⟩⟩:=h7
        · simp[blkOf]at hq
        · have hq:k=g:=by simpa[blkOf,g3] using hq
          subst hq
          exact hz9.other g4 (by decide) hk
      exact((hz9.fr f1 λk hk e=>n1 (by rw[←show k=b from e];exact hk)).fr hf3 n2).fr f5 λk hk e=>n1 (by rw[←show k=b from e];exact hk)
  rcases h6 with rfl|rfl
  · refine(check_fresh w h5 rfl rfl).mono ?_
    rintro e w1 ⟨rfl,rfl⟩
    have f1:Fr (·=b) w (w.setCell ⟨b,2,none⟩ (.pointer (some ⟨b,2,none⟩))):=Fr.setCell w ⟨b,2,none⟩ _
    exact⟨rfl,key _ f1 (setCell_blk h5 2 _)⟩
  · refine(check_used w (by rw[cell_blk h5];rfl)).mono ?_
    rintro e w1 ⟨rfl,rfl⟩
    exact⟨rfl,key _ (Fr.refl _ _) h5⟩
theorem len_c{b m:Nat}{acc:List UInt8}(h:Wk w0 w b m acc):Calls Tryz.prog 57 #[.pointer (some ⟨b,2,none⟩)] w λe w'=>e=.returned (.int .i64 (acc.length:Nat))/\w'=w:=by
  obtain⟨h1,h2,h3,h4,v,q,h5,h6,h7,h8,h9⟩:=h
  have hl:q.len=acc.length:=by have:=h7.1;simp at this;omega
  refine calls_by (F57_calls _ w) λR hR=>?_
  refine⟨q,by rw[add_def,cell_blk h5];rfl,?_⟩
  rw[hl]
  exact hR _ _ ⟨rfl,rfl⟩
theorem u93:Tryz.prog.underlying 93=some (.pointer 5):=by kernel_rfl
theorem wtext_c{b m:Nat}{acc:List UInt8}(h:Wk w0 w b m acc):Calls Tryz.prog 25 #[.pointer (some ⟨b,2,none⟩)] w λe w'=>e=.returned (.string (bs acc))/\Pu w0 w':=by
  obtain⟨h1,h2,h3,h4,v,q,h5,h6,h7,h8,h9⟩:=h
  have hl:q.len=acc.length:=by have:=h7.1;simp at this;omega
  refine calls_by (F25_calls _ w) λR hR=>dwE_intro λw1 hp1 hh1=>?_
  have hb1:=hp1.blk h5
  have hc:w1.cell? ((⟨b,2,none⟩:Addr).add 1)=some (.slice q.a q.len q.cap):=by rw[add_def,cell_blk hb1];rfl
  have r1:=h7.pu hp1
  refine⟨λu=>u=w1,rfl,q,λu hu=>by subst hu;exact hc,q,λu hu=>by subst hu;exact hc,?_⟩
  by_cases h0:acc=[]
  · subst h0
    have hl0:q.len=0:=hl
    obtain rfl:=h9 rfl
    exact⟨none,w1,rfl,rfl,bs [],w1,Lib.run_unsafeString_none w1 93 3 9 none,hR _ _ ⟨rfl,h1.trans hp1⟩⟩
  · obtain⟨g,hg,hcl,hgb⟩:=r1.base (by simpa using h0)
    have r2:=r1
    obtain⟨_,rfl|⟨g2,cur,q3,q4,q5,q6,q7,q8⟩⟩:=r2
    · simp at hg
    rw[hg]at q3;cases q3
    have hpos:0<acc.length:=List.length_pos_iff.2 h0
    rw[hg,hl]
    refine⟨some ⟨g,0,none⟩,w1,Lib.run_unsafeSliceData_row _ _ _ _ _ _ (by omega),rfl,bs acc,w1.freeze ⟨g,0,none⟩ acc.length,?_,?_⟩
    · refine Lib.run_unsafeString_row w1 93 3 9 5 u93 (by kernel_rfl) g cur.size (by simp[World.shape?,q4]) acc h0 (by omega) (by unfold maxLen at q6;omega) λj x hx=>?_
      rw[add_def,Nat.zero_add]
      exact hcl j _ (by rw[List.getElem?_map,hx];rfl)
    · have hf:Fr (·=g) w1 (w1.freeze ⟨g,0,none⟩ acc.length):=by
        unfold World.freeze
        split
        · exact Fr.refl _ _
        · refine⟨rfl,rfl,rfl,by simp,λk _ hk=>?_⟩
          have hk:¬g=k:=λe=>hk e.symm
          simp only[Array.getElem?_modify,hk,if_false]
      exact hR _ _ ⟨rfl,(h1.trans hp1).andNew hf λi hi=>by rw[show i=g from hi];exact h8 g hgb⟩
end Go.Proofs.YtjbfehippchniaaGreatDoor

/- Pre: what the statement PreKeeps asks of a text without directives, in plain words. No condition. -/
set_option maxRecDepth 100000
set_option linter.unusedVariables false
set_option linter.unusedSimpArgs false
namespace Go.Proofs.YtjbfehippchniaaGreatDoor
open Go.Sh Go.Sh.Lx Go.Sh.Pr
theorem wrt_eq{t:Tok}(h:dateOk t):writS t=wrtP t:=by
  unfold writS wrtP writL wrtL
  by_cases h2:t.kind=2
  · rw[if_pos h2,if_pos h2]
  · rw[if_neg h2,if_neg h2]
    by_cases h3:t.kind=3
    · rw[if_pos h3,if_pos h3]
      have hs:t.text.data.toList.length=t.text.size:=size_list t.text
      rcases h h3 with h0|h8
      · have:t.text.data.toList=[]:=List.eq_nil_of_length_eq_zero (by omega)
        rw[if_pos this,if_pos (by omega),this];rfl
      · have:t.text.data.toList ≠ []:=λe=>by rw[e]at hs;simp at hs;omega
        rw[if_neg this,if_neg (by omega)]
    · rw[if_neg h3,if_neg h3]
theorem joinS_Z:∀(l:List Tok) (g:Bool),joinS g (Z l)=joinS g l
  | [],g=>rfl
  | t :: l,g=>by
    show joinS g (zT t :: Z l)=_
    unfold joinS
    rw[joinS_Z l,joinS_Z l];rfl
theorem joinS_true:∀(ts rest:List Tok),(∀t ∈ ts,t.kind ≠ 5/\dateOk t)->joinS true (ts ++ rest)=(ts.flatMap λu=>32 :: wrtP u) ++ joinS true rest
  | [],rest,_=>rfl
  | t :: ts,rest,h=>by
    obtain⟨h1,h2⟩:=h t (List.mem_cons_self ..)
    rw[List.cons_append,List.flatMap_cons,List.append_assoc,←joinS_true ts rest λu hu=>h u (List.mem_cons_of_mem _ hu),←wrt_eq h2]
    show(if t.kind=5 then _ else(if true then [32]else []) ++ writS t ++ joinS true (ts ++ rest))=_
    rw[if_neg h1];rfl
theorem joinS_line(ts rest:List Tok)(h:∀t ∈ ts,t.kind ≠ 5/\dateOk t):joinS false (ts ++ endB (!ts.isEmpty) ++ rest)=lineT ts ++ joinS false rest:=by
  cases ts with
  | nil=>rfl
  | cons t ts=>
    obtain⟨h1,h2⟩:=h t (List.mem_cons_self ..)
    have e:t :: ts ++ endB (!(t :: ts).isEmpty) ++ rest=t :: (ts ++ (endZ :: rest)):=by simp[endB]
    rw[e]
    have e2:joinS true (endZ :: rest)=10 :: joinS false rest:=rfl
    have e3:joinS false (t :: (ts ++ (endZ :: rest)))=writS t ++ joinS true (ts ++ (endZ :: rest)):=by
      show(if t.kind=5 then _ else(if false then [32]else []) ++ writS t ++ joinS true _)=_
      rw[if_neg h1];rfl
    rw[e3,joinS_true ts _ (λu hu=>h u (List.mem_cons_of_mem _ hu)),e2,wrt_eq h2]
    unfold lineT joinP
    rw[if_neg (by simp)]
    simp
theorem expG_ok:∀(ls:List (List UInt8)),(∀l ∈ ls,OneL l/\okL l=true/\l.length<=4000/\(LX l false).1.length<=1200)->∀out,expG ls out=(out ++ joinS false (ls.flatMap λl=>(LX l false).1),0)
  | [],_,out=>by show(out,(0:Int))=_;simp[joinS]
  | l :: ls,h,out=>by
    obtain⟨⟨ts,h1,h2⟩,h3,h4,h5⟩:=h l (List.mem_cons_self ..)
    have ht:=tokP_line h4 h3 h1 h2 h5
    have hdt:∀t ∈ ts,t.kind ≠ 5/\dateOk t:=λt hm=>by
      refine⟨h1 t hm,?_⟩
      have:t ∈ (LX l false).1:=by rw[h2];exact List.mem_append.2 (.inl hm)
      obtain⟨u,hu,rfl⟩:=List.mem_map.1 (show t ∈ Z (lexS l 0 false).1 from this)
      exact lexS_dates l.length l 0 false (Nat.le_refl _) u hu
    unfold expG
    rw[ht]
    dsimp only
    rw[expG_ok ls (λx hx=>h x (List.mem_cons_of_mem _ hx)),List.flatMap_cons,h2,joinS_line ts _ hdt,List.append_assoc]
theorem expG_bad:∀(ls:List (List UInt8)),ls.all okL=false->∀out,(expG ls out).2=2
  | [],h,_=>by cases h
  | l :: ls,h,out=>by
    unfold expG
    cases ht:tokP l with
    | none=>rfl
    | some ts=>
      dsimp only
      refine expG_bad ls ?_ _
      rw[List.all_cons]at h
      cases hl:okL l with
      | false=>rw[tokP_bad hl]at ht;cases ht
      | true=>rw[hl,Bool.true_and]at h;exact h
theorem keep_law{d:List UInt8}(hno:∀x ∈ splitNl d,hashS x=false) :
    ((lexF d).2.2 ≠ 0->(lexF d).2.2=3/\d.length<=4000∨(expS d).2 ≠ 0)/\
    ((lexF d).2.2=0->if (joinS false (lexF d).1).length<=4000 then expS d=(joinS false (lexF d).1,0)else(expS d).2=3):=by
  obtain⟨k1,k2⟩:=lines_law hno
  refine⟨λh=>?_,λh=>?_⟩
  · by_cases hd:4000<d.length
    · right
      unfold expS;rw[if_pos hd];decide
    · unfold lexF at h ⊢
      rw[if_neg hd]at h ⊢
      cases hs:(lexS d 0 false).2 with
      | some i=>
        right
        have:(LX d false).2=false:=by unfold LX;rw[hs];rfl
        have hb:(linesS d).all okL=false:=by
          cases ha:(linesS d).all okL with
          | false=>rfl
          | true=>rw[(k1 ha).1]at this;cases this
        unfold expS
        rw[if_neg hd,expG_bad _ hb,if_pos (by decide)];decide
      | none=>
        rw[hs]at h
        dsimp only at h ⊢
        split at h
        · rename_i hl
          left
          rw[if_pos hl]
          exact⟨rfl,by omega⟩
        · exact absurd rfl h
  · obtain⟨h1,h2,h3⟩:=lexF_at h
    have hok:(LX d false).2=true:=by unfold LX;rw[h2];rfl
    have ha:(linesS d).all okL=true:=by
      cases ha:(linesS d).all okL with
      | true=>rfl
      | false=>rw[k2 ha]at hok;cases hok
    obtain⟨j1,j2⟩:=k1 ha
    have hz:Z (lexF d).1=(linesS d).flatMap λl=>(LX l false).1:=by
      have:(LX d false).1=Z (lexF d).1:=by unfold LX;rw[h2]
      rw[←this,j1]
    have hlen:((linesS d).flatMap λl=>(LX l false).1).length<=1200:=by
      rw[←hz];show(List.map _ _).length<=_;rw[List.length_map];exact h3
    have hone:∀(ls:List (List UInt8)) l,l ∈ ls->(LX l false).1.length<=(ls.flatMap λl=>(LX l false).1).length:=by
      intro ls
      induction ls with
      | nil=>intro l hl;cases hl
      | cons x ls ih=>
        intro l hl
        rw[List.flatMap_cons,List.length_append]
        rcases List.mem_cons.1 hl with rfl|hl
        · omega
        · have:=ih l hl;omega
    have hll:∀l ∈ linesS d,l.length<=4000:=by
      obtain⟨s1,s2⟩:=split_join d
      exact log_len (splitNl d) [] false false 4000 s2 (by rw[if_neg (by decide),List.nil_append,s1];exact h1) λ_=>rfl
    have he:=expG_ok (linesS d) (λl hl=>⟨j2 l hl,List.all_eq_true.1 ha l hl,hll l hl,by have:=hone _ l hl;omega⟩) []
    rw[List.nil_append,←hz,joinS_Z]at he
    have hE:expS d=if 4000<(joinS false (lexF d).1).length then([],3)else(joinS false (lexF d).1,0):=by
      unfold expS
      rw[if_neg (show ¬4000<d.length by omega),he]
      dsimp only
      rw[if_neg (by simp)]
    rw[hE]
    by_cases hj:(joinS false (lexF d).1).length<=4000
    · rw[if_pos hj,if_neg (by omega)]
    · rw[if_neg hj,if_pos (by omega)]
end Go.Proofs.YtjbfehippchniaaGreatDoor

/- Pre: no line of a text without directives is one. No condition. -/
set_option maxRecDepth 100000
set_option linter.unusedVariables false
set_option linter.unusedSimpArgs false
namespace Go.Sh.Pr
open Go.Sh Go.Sh.Lx
theorem trim_nil {u:List UInt8} (h:u.dropWhile Lx.blkB=[]):trimS u=[]:=by unfold trimS;rw[h];rfl
def fstB(u:List UInt8):Option UInt8:=(u.dropWhile Lx.blkB).head?
theorem hash_fst(u:List UInt8):hashS u=match fstB u with
    | some c=>decide (c.toNat=35)
    | none=>false:=by
  unfold fstB
  cases h:u.dropWhile Lx.blkB with
  | nil=>unfold hashS;rw[trim_nil h];rfl
  | cons c t=>
    obtain⟨t',ht⟩:=trim_star h
    unfold hashS;rw[ht];rfl
theorem fst_app{u:List UInt8}{c:UInt8}(h:fstB u=some c)(v:List UInt8):fstB (u ++ v)=some c:=by
  unfold fstB at h ⊢
  obtain⟨a,ha,he⟩:=dw_split (p:=Lx.blkB) u
  rw[he,List.append_assoc,dw_all ha]
  cases hv:u.dropWhile Lx.blkB with
  | nil=>rw[hv]at h;cases h
  | cons b t=>
    rw[hv]at h
    have hb:Lx.blkB b=false:=by
      have:=List.head?_dropWhile_not Lx.blkB u
      rw[hv]at this
      simpa using this
    rw[List.cons_append,List.dropWhile_cons,if_neg (by rw[hb];decide)]
    exact h
theorem unc_pre(d:List UInt8):∃t,d=uncS d ++ t:=by
  unfold uncS
  split
  · exact⟨_,(List.take_append_drop _ d).symm⟩
  · exact⟨[],by simp⟩
theorem goes_fst{x:List UInt8}{bg:Bool}(h:goesS x bg=true):∃c,fstB x=some c:=by
  obtain⟨t,ht⟩:=unc_pre x
  cases hu:fstB (uncS x)with
  | some c=>exact⟨c,by rw[ht];exact fst_app hu t⟩
  | none=>
    exfalso
    have h0:(uncS x).dropWhile Lx.blkB=[]:=by
      unfold fstB at hu
      cases hv:(uncS x).dropWhile Lx.blkB with
      | nil=>rfl
      | cons b t=>rw[hv]at hu;cases hu
    unfold goesS at h
    rw[trim_nil h0]at h
    revert h
    cases bg <;> decide
theorem log_nohash:∀(xs:List (List UInt8)) (now:List UInt8) (op bg:Bool),(∀x ∈ xs,hashS x=false)->(if op then ∃c,fstB now=some c/\c.toNat ≠ 35 else now=[])->∀l ∈ logG xs now op bg,hashS l=false
  | [],now,op,bg,_,hn,l,hl=>by
    unfold logG at hl
    cases op with
    | false=>cases hl
    | true=>
      obtain rfl:l=now:=by simpa using hl
      obtain⟨c,h1,h2⟩:∃c,fstB l=some c/\c.toNat ≠ 35:=hn
      rw[hash_fst,h1];exact decide_eq_false h2
  | x :: xs,now,op,bg,hx,hn,l,hl=>by
    have hx0:=hx x (List.mem_cons_self ..)
    have hxs:∀y ∈ xs,hashS y=false:=λy hy=>hx y (List.mem_cons_of_mem _ hy)
    unfold logG at hl
    rw[hx0,Bool.and_false,if_neg (by decide)]at hl
    split at hl
    · rename_i hg
      refine log_nohash xs _ true _ hxs ?_ l hl
      show ∃c,_/\_
      cases op with
      | false=>
        obtain rfl:now=[]:=hn
        obtain⟨c,hc⟩:=goes_fst hg
        refine⟨c,hc,λe=>?_⟩
        rw[hash_fst,hc]at hx0
        exact absurd e (of_decide_eq_false hx0)
      | true=>
        obtain⟨c,h1,h2⟩:∃c,fstB now=some c/\c.toNat ≠ 35:=hn
        exact⟨c,fst_app (fst_app h1 _) _,h2⟩
    · rcases List.mem_cons.1 hl with rfl|hl
      · cases op with
        | false=>
          obtain rfl:now=[]:=hn
          exact hx0
        | true=>
          obtain⟨c,h1,h2⟩:∃c,fstB now=some c/\c.toNat ≠ 35:=hn
          rw[hash_fst,show(if true=true then now ++ [10]else now)=now ++ [10]from rfl,fst_app (fst_app h1 _) _];exact decide_eq_false h2
      · exact log_nohash xs [] false false hxs rfl l hl
theorem lines_nohash{d:List UInt8}(h:∀x ∈ splitNl d,hashS x=false):∀l ∈ linesS d,hashS l=false:=log_nohash _ [] false false h rfl
end Go.Sh.Pr

/- Pre: a text without directives, expanded. No condition but those stated. -/
set_option maxRecDepth 100000
set_option linter.unusedVariables false
set_option linter.unusedSimpArgs false
namespace Go.Proofs.YtjbfehippchniaaGreatDoor
open Go.Sh Go.Sh.Lx Go.Sh.Pr Go.RowKit Go.Shelf
variable {w0 w w' : World}
theorem defS_nil:∀l:List Ft,defS (dg []) l=none
  | []=>rfl
  | x :: l=>by
    unfold defS
    have:defAt (dg []) x=none:=by
      unfold defAt
      split
      · rfl
      · rfl
    rw[this,defS_nil l];rfl
theorem tks_hid(ts:List Tok):tks (ts.map hid)=ts:=by unfold tks;rw[List.map_map];exact List.map_id _
theorem repS_nil(d:List UInt8):replS (dg []) d=match tokP d with
    | none=>([],2)
    | some ts=>(lineT ts,0):=by
  unfold replS
  cases tokP d with
  | none=>rfl
  | some ts=>
    dsimp only
    rw[repG_none (defS_nil _),tks_hid]
theorem line_len{d:List UInt8}{ts:List Tok}(h:tokP d=some ts):(lineT ts).length<=7000000:=by
  have h1:=tokP_len h
  have h2:=join_up ts λt ht=>(tokP_ok h t ht).2
  unfold lineT
  split
  · simp
  · rw[List.length_append,List.length_singleton];omega
theorem taken_c{b m:Nat}{acc:List UInt8}(h:Wk w0 w b m acc):Calls Tryz.prog 127 #[.pointer (some ⟨b,0,none⟩)] w λe w'=>e=.returned (.bool true)/\w'=w:=by
  refine calls_by (F127_calls _ w) λR hR=>⟨⟨none,0,0⟩,h.open_,Br.t (by decide) (hR _ _ ⟨rfl,rfl⟩)⟩
def lineE(l:List UInt8):List UInt8 × Int:=match tokP l with
  | none=>([],2)
  | some ts=>(lineT ts,0)
theorem line_c{b m:Nat}{acc:List UInt8}(hL:Laid w0)(h:Wk w0 w b m acc)(hLw:Laid w)(l:List UInt8)(hl:l.length<=4294967280)(hno:hashS l=false)(ha:acc.length<=70000000000):Calls Tryz.prog 95 #[.pointer (some ⟨b,0,none⟩),.string (bs l)] w λe w'=>e=.returned (.int .i64 (lineE l).2)/\Wk w0 w' b m (acc ++ (lineE l).1)/\Kr w w':=by
  refine calls_by (F95_calls _ _ w) λR hR=>(trimmed_c l hl w).mono ?_
  rintro e w1 ⟨rfl,hp1⟩
  refine⟨_,rfl,(hashA_c l w1).mono ?_⟩
  rintro e w2 ⟨rfl,rfl⟩
  rw[hno]
  have h1:=h.pu hp1
  refine⟨_,rfl,Br.t rfl ((taken_c h1).mono ?_)⟩
  rintro e w3 ⟨rfl,rfl⟩
  refine⟨_,rfl,Br.f rfl ?_⟩
  rw[ptrE_some]
  refine(replaced_nil_c (hLw.pu hp1) h1.sta (λx hx=>by cases hx) l (by omega)).mono ?_
  rintro e w4 ⟨hp4,rfl⟩
  have e1:replS (dg []) l=lineE l:=repS_nil l
  rw[e1]
  have hlen:(lineE l).1.length<=7000000:=by
    unfold lineE
    cases ht:tokP l with
    | none=>simp
    | some ts=>exact line_len ht
  refine⟨_,_,rfl,?_⟩
  rw[ptrE_some]
  refine(write_c (h1.pu hp4) (lineE l).1 (by omega)).mono ?_
  rintro e w5 ⟨rfl,h5,hk5⟩
  exact⟨_,_,rfl,hR _ _ ⟨rfl,h5,λh=>hk5 (h.pu (hp1.trans hp4))⟩⟩
theorem expG_cons (l:List UInt8) (ls:List (List UInt8)) (out:List UInt8):expG (l :: ls) out=if (lineE l).2=0 then expG ls (out ++ (lineE l).1)else(out,2):=by
  unfold lineE
  conv=>lhs;unfold expG
  cases tokP l with
  | none=>rfl
  | some ts=>rfl
theorem lineE_err(l:List UInt8):(lineE l).2=0∨((lineE l).2=2/\(lineE l).1=[]):=by
  unfold lineE
  cases tokP l with
  | none=>exact .inr ⟨rfl,rfl⟩
  | some ts=>exact .inl rfl
theorem expandW_c {b m:Nat} (hL:Laid w0) (h:Wk w0 w b m []) (hLw:Laid w) (d:List UInt8) (hd:d.length<=4000) (hno:∀x ∈ splitNl d,hashS x=false):Calls Tryz.prog 56 #[.pointer (some ⟨b,0,none⟩),.string (bs d)] w λe w'=>e=.returned (.int .i64 (expG (linesS d) []).2)/\Wk w0 w' b m (expG (linesS d) []).1:=by
  have hnh:=lines_nohash hno
  have hll:∀x ∈ linesS d,x.length<=4000:=log_len (splitNl d) [] false false 4000 (split_join d).2 (by rw[if_neg (by decide),List.nil_append,(split_join d).1];exact hd) λ_=>rfl
  refine calls_by (F56_calls _ _ w) λR hR=>(logical_c d hd w).mono ?_
  rintro e w1 ⟨hp1,s,rfl,hs,hlen⟩
  refine⟨s,rfl,?_⟩
  have hsl:=hs.1
  rw[List.length_map,List.length_map]at hsl
  refine loopUp (linesS d).length (λk n w'=>n=(k:Int)/\∃acc,Wk w0 w' b m acc/\RowAt w' 9 1 s (((linesS d).map bs).map Value.string)/\acc.length<=k * 7000000/\expG (linesS d) []=expG ((linesS d).drop k) acc) ⟨rfl,[],h.pu hp1,hs,by simp,rfl⟩ ?_
  rintro k J n w2 hk ⟨rfl,acc,h2,hs2,hacc,he⟩ hJ
  refine Br.of (λq=>?_) (λq=>?_)
  · have q:=dtrue q
    have hk2:k<(linesS d).length:=by omega
    obtain⟨x,hx⟩:=at_k hk2
    obtain⟨a,ha,g1,g2,hc⟩:=RdSl.wd (rd_str hs2 (by rw[List.length_map];omega)) (i:=k) (x:=bs x) (by rw[List.getElem?_map,hx];rfl)
    have hxm:=List.mem_of_getElem? hx
    have hkm:k * 7000000<=10000 * 7000000:=Nat.mul_le_mul_right _ (by omega)
    refine⟨a,ha,g1,g2,_,hc,(line_c hL h2 (hL.pu h2.since) x (by have:=hll x hxm;omega) (hnh x hxm) (by omega)).mono ?_⟩
    rintro e w3 ⟨rfl,h3,hk3⟩
    rw[drop_at hx,expG_cons]at he
    refine⟨_,rfl,Br.of (λq2=>?_) (λq2=>?_)⟩
    · have q2:=bntrue q2
      rcases lineE_err x with h9|⟨h9,h8⟩
      · exact absurd h9 q2
      · rw[if_neg q2]at he
        rw[h8,List.append_nil]at h3
        refine hR _ _ ⟨?_,?_⟩
        · rw[he,h9]
        · rw[he];exact h3
    · have q2:=bnfalse q2
      rw[if_pos q2]at he
      rw[wrap_in (by omega) (by omega)]
      refine hJ _ _ hk2 ⟨by omega,_,h3,hk3 hs2,?_,he⟩
      · have hx7:(lineE x).1.length<=7000000:=by
          unfold lineE
          cases ht:tokP x with
          | none=>simp
          | some ts=>exact line_len ht
        rw[List.length_append,Nat.succ_mul];omega
  · have q:=dfalse q
    obtain rfl:k=(linesS d).length:=by omega
    rw[List.drop_length]at he
    unfold F56_1
    rw[ptrE_some]
    refine⟨⟨none,0,0⟩,h2.open_,Br.f (by decide) (hR _ _ ⟨?_,?_⟩)⟩
    · rw[he];rfl
    · rw[he];exact h2
def runE(d:List UInt8):Int:=if 4000<d.length then 3 else if (expG (linesS d) []).2 ≠ 0 then(expG (linesS d) []).2 else if 4000<(expG (linesS d) []).1.length then 3 else 0
theorem prun_c(hL:Laid w0)(d:List UInt8)(hno:∀x ∈ splitNl d,hashS x=false):Calls Tryz.prog 24 #[.string (bs d)] w0 λe w'=>∃b m acc,e=.returned (.tuple #[.pointer (some ⟨b,0,none⟩),.int .i64 (runE d)])/\Wk w0 w' b m acc/\(runE d=0->acc=(expG (linesS d) []).1):=by
  refine calls_by (F24_calls _ w0) λR hR=>alE_intro λw1 hw1=>alE_intro λw2 hw2=>?_
  have hp1:Pu w0 w1:=by rw[hw1];exact Pu.alloc _ _
  have hp2:Pu w1 w2:=by rw[hw2];exact Pu.alloc _ _
  have z1:w1.heap.size=w0.heap.size+1:=by rw[hw1];simp
  have hM:Go.Sh.MapAt w1 ekS slV w0.heap.size ([]:List (ByteArray × SV)):=by rw[hw1];exact Go.Sh.MapAt.new w0 ekS slV
  have hW:Wk w0 w2 w1.heap.size w0.heap.size []:=⟨hp1.trans hp2,by omega,Nat.le_refl _,hM.pu hp2,.pointer none,⟨none,0,0⟩,by rw[hw2];exact alloc_new _ _,.inl rfl,RowAt.nil _ _ _,by simp[blkOf],λ_=>rfl⟩
  rw[bs_size_i]
  refine Br.of (λq=>?_) (λq=>?_)
  · have q:=dtrue q
    have e1:runE d=3:=by unfold runE;rw[if_pos (by omega)]
    exact hR _ _ ⟨_,_,[],by rw[e1],hW,λh=>by rw[e1]at h;cases h⟩
  · have q:=dfalse q
    have hd:d.length<=4000:=by omega
    refine(expandW_c hL hW (hL.pu hW.since) d hd hno).mono ?_
    rintro e w3 ⟨rfl,h3⟩
    refine⟨_,rfl,Br.of (λq2=>?_) (λq2=>?_)⟩
    · have q2:=bntrue q2
      have e1:runE d=(expG (linesS d) []).2:=by unfold runE;rw[if_neg (by omega),if_pos q2]
      exact hR _ _ ⟨_,_,_,by rw[e1],h3,λ_=>rfl⟩
    · have q2:(expG (linesS d) []).2=0:=bnfalse q2
      rw[add_def]
      refine(len_c h3).mono ?_
      rintro e w4 ⟨rfl,rfl⟩
      refine⟨_,rfl,Br.of (λq3=>?_) (λq3=>?_)⟩
      · have q3:=dtrue q3
        have e1:runE d=3:=by unfold runE;rw[if_neg (by omega),if_neg (by simp[q2]),if_pos (by omega)]
        exact hR _ _ ⟨_,_,_,by rw[e1],h3,λ_=>rfl⟩
      · have q3:=dfalse q3
        have e1:runE d=0:=by unfold runE;rw[if_neg (by omega),if_neg (by simp[q2]),if_neg (by omega)]
        exact hR _ _ ⟨_,_,_,by rw[e1],h3,λ_=>rfl⟩
theorem runE_exp(d:List UInt8):expS d=if runE d=0 then((expG (linesS d) []).1,0)else([],runE d):=by
  unfold expS runE
  split
  · rfl
  · split
    · rename_i h;first|rfl|(rw[if_neg h])
    · split
      · rfl
      · rfl
theorem expand_c(hL:Laid w0)(d:List UInt8)(hno:∀x ∈ splitNl d,hashS x=false):Calls Tryz.prog 11 #[.string (bs d)] w0 λe w'=>e=.returned (.tuple #[.string (bs (expS d).1),.int .i64 (expS d).2])/\Pu w0 w':=by
  refine calls_by (F11_calls _ w0) λR hR=>(prun_c hL d hno).mono ?_
  rintro e w1 ⟨b,m,acc,rfl,hW,hacc⟩
  have he:=runE_exp d
  refine⟨_,_,rfl,Br.of (λq=>?_) (λq=>?_)⟩
  · have q:runE d ≠ 0:=bntrue q
    rw[if_neg q]at he
    exact hR _ _ ⟨by rw[he],hW.since⟩
  · have q:runE d=0:=bnfalse q
    rw[if_pos q]at he
    rw[ptrE_some,add_def]
    refine(wtext_c hW).mono ?_
    rintro e w2 ⟨rfl,hp2⟩
    refine⟨_,rfl,hR _ _ ⟨?_,hp2⟩⟩
    rw[he,hacc q]
end Go.Proofs.YtjbfehippchniaaGreatDoor

/- Pre: which lines are directives, as the reference tells. No condition but those stated. -/
set_option maxRecDepth 100000
set_option linter.unusedVariables false
set_option linter.unusedSimpArgs false
namespace Go.Proofs.YtjbfehippchniaaGreatDoor
open Go.Sh Go.Sh.Lx Go.Sh.Pr Go.RowKit Go.Shelf
variable {w0 w w' : World}
theorem tw_at{f:UInt8->Bool}:∀{l:List UInt8} {m:Nat},(∀(j:Nat) (x:UInt8),j<m->l[j]?=some x->f x=true)->(∀x,l[m]?=some x->f x=false)->m<=l.length->(l.takeWhile f).length=m
  | [],m,_,_,h=>by
      have:m=0:=by simpa using h
      subst this;rfl
  | a :: l,0,_,h,_=>by rw[List.takeWhile_cons,if_neg (by rw[h a rfl];decide)];rfl
  | a :: l,m+1,h1,h2,h3=>by
    rw[List.takeWhile_cons,if_pos (h1 0 a (by omega) rfl),List.length_cons,tw_at (m:=m) (λj x hj hx=>h1 (j+1) x (by omega) (by simpa using hx)) (λx hx=>h2 x (by simpa using hx)) (by simpa using h3)]
theorem isWordW_c(l:List UInt8)(hl:l.length<=140737488355328)(n:Int)(w:World):Calls Tryz.prog 14 #[.string (bs l),.int .i64 n] w λe w'=>(∃b,e=.returned (.bool b))/\Pu w w':=by
  refine calls_by (F14_calls _ _ w) λR hR=>Br.of (λq=>hR _ _ ⟨⟨_,rfl⟩,Pu.refl _⟩) (λq=>Br.of (λq1=>hR _ _ ⟨⟨_,rfl⟩,Pu.refl _⟩) (λq1=>?_))
  refine loopUp l.length (λk n w'=>n=(k:Int)/\Pu w w') ⟨rfl,Pu.refl _⟩ ?_
  rintro k J n w1 hk ⟨rfl,hp1⟩ hJ
  refine Br.of (λq2=>?_) (λq2=>hR _ _ ⟨⟨_,rfl⟩,hp1⟩)
  have q2:=dtrue q2
  rw[bs_size]at q2
  have hk2:k<l.length:=by omega
  obtain⟨x,hx⟩:=at_k hk2
  have hb:(bs l)[((k:Int)).toNat]?=some x:=by rw[toNat_i];exact byte_list (by rw[bs_list];exact hx)
  have no:∀{w2:World},Pu w w2->R (.returned (.bool false)) w2:=λhp=>hR _ _ ⟨⟨_,rfl⟩,hp⟩
  have go:∀{w2:World},Pu w w2->J (IntKind.i64.wrap ((k:Int)+1)) w2:=λhp=>by
    rw[wrap_in (by omega) (by omega)]
    exact hJ _ _ hk2 ⟨by omega,hp⟩
  refine⟨x,by omega,hb,(isLetter_c x w1).mono ?_⟩
  rintro e w2 ⟨rfl,rfl⟩
  refine⟨_,rfl,Br.of (λq3=>?_) (λq3=>Br.of (λq4=>?_) (λq4=>no hp1))⟩
  · exact⟨x,by omega,hb,Br.of (λq4=>⟨x,by omega,hb,Br.of (λq5=>no hp1) (λq5=>go hp1)⟩) (λq4=>go hp1)⟩
  · refine⟨x,by omega,hb,(isDigit_c x w2).mono ?_⟩
    rintro e w3 ⟨rfl,hp3⟩
    refine⟨_,rfl,Br.of (λq5=>no (hp1.trans hp3)) (λq5=>?_)⟩
    exact⟨x,by omega,hb,Br.of (λq6=>⟨x,by omega,hb,Br.of (λ_=>no (hp1.trans hp3)) (λ_=>go (hp1.trans hp3))⟩) (λq6=>go (hp1.trans hp3))⟩
theorem begW_c(d:List UInt8)(u:List UInt8)(w:World):Calls Tryz.prog 92 #[.string (bs d),.string (bs u)] w λe w'=>(∃b,e=.returned (.bool b))/\Pu w w':=by
  refine calls_by (F92_calls _ _ w) λR hR=>?_
  unfold F92_1
  rw[bs_size,bs_size]
  exact Br.of (λq=>⟨by omega,by rw[Int.toNat_natCast];have:=dtrue q;omega,by omega,hR _ _ ⟨⟨_,rfl⟩,Pu.refl _⟩⟩) (λq=>hR _ _ ⟨⟨_,rfl⟩,Pu.refl _⟩)
theorem quoteW_c(d:List UInt8)(hd:d.length<=140737488355328){i:Nat}(hi:i<d.length)(w:World):Calls Tryz.prog 91 #[.string (bs d),.int .i64 (i:Int)] w λe w'=>(∃m:Nat,e=.returned (.int .i64 (m:Int))/\i<m/\m<=d.length)/\Pu w w':=by
  obtain⟨x,hx⟩:=at_k hi
  have hb:(bs d)[((i:Int)).toNat]?=some x:=by rw[toNat_i];exact bs_get hx
  refine calls_by (F91_calls _ _ w) λR hR=>?_
  have one:∀{w2:World},Pu w w2->R (.returned (.int .i64 (IntKind.i64.wrap ((i:Int)+1)))) w2:=λhp=>by
    rw[wrap_in (by omega) (by omega)]
    exact hR _ _ ⟨⟨i+1,rfl,by omega,hi⟩,hp⟩
  have go:F91_3 R (bs d) (i:Int) (IntKind.i64.wrap ((i:Int)+1)) [] w:=by
    rw[wrap_in (by omega) (by omega)]
    refine loopUp (d.length - (i+1)) (λk n w'=>n=((i+1+k:Nat):Int)/\Pu w w') ⟨by omega,Pu.refl _⟩ ?_
    rintro k J n w1 hk ⟨rfl,hp1⟩ hJ
    have fin:∀{w2:World},Pu w w2->F91_1 R (bs d) (i:Int) ((i+1+k:Nat):Int) [] w2:=λhp=>by
      unfold F91_1
      rw[bs_size]
      refine Br.of (λq=>one hp) (λq=>?_)
      have q:¬((i+1+k:Nat):Int)=(d.length:Int):=bfalse q
      show R _ _
      rw[wrap_in (by omega) (by omega)]
      exact hR _ _ ⟨⟨i+1+k+1,rfl,by omega,by omega⟩,hp⟩
    refine dwE_intro λw2 hp2 _=>?_
    have hP:=hp1.trans hp2
    refine Br.of (λq=>?_) (λq=>fin hP)
    have q:=dtrue q
    rw[bs_size]at q
    obtain⟨y,hy⟩:=at_k (l:=d) (k:=i+1+k) (by omega)
    refine⟨y,by omega,by rw[toNat_i];exact bs_get hy,x,by omega,hb,Br.of (λq2=>?_) (λq2=>fin hP)⟩
    rw[wrap_in (by omega) (by omega)]
    exact hJ _ _ (by omega) ⟨by omega,hP⟩
  exact⟨x,by omega,hb,Br.of (λq=>⟨x,by omega,hb,Br.of (λq2=>one (Pu.refl _)) (λq2=>go)⟩) (λq=>go)⟩
theorem plainW_c(d:List UInt8)(hd:d.length<=140737488355328)(w:World):Calls Tryz.prog 52 #[.string (bs d)] w λe w'=>(∃k,k<=d.length/\e=.returned (.string (bs (d.take k))))/\Pu w w':=by
  refine calls_by (F52_calls _ w) λR hR=>?_
  have e38:(⟨#[38,38]⟩:ByteArray)=bs [38,38]:=rfl
  have key:∀(m:Nat) (J:Int->World->Prop) (i:Nat) (w1:World),d.length - i<=m->i<=d.length->Pu w w1->(∀s w',F52_2 R J (bs d) s [] w'->J s w')->F52_2 R J (bs d) (i:Int) [] w1:=by
    intro m
    induction m with
    | zero=>
      intro J i w1 hm hi hp hJ
      obtain rfl:i=d.length:=by omega
      refine Br.f (by rw[bs_size];exact decide_eq_false (by omega)) ?_
      exact hR _ _ ⟨⟨d.length,Nat.le_refl _,by rw[List.take_length]⟩,hp⟩
    | succ m ih=>
      intro J i w1 hm hi hp hJ
      refine Br.of (λq=>?_) (λq=>hR _ _ ⟨⟨d.length,Nat.le_refl _,by rw[List.take_length]⟩,hp⟩)
      have q:=dtrue q
      rw[bs_size]at q
      refine⟨Nat.le_refl _,by omega,by rw[bs_size,toNat_i];omega,?_⟩
      rw[toNat_i,extract_drop,e38]
      refine(begW_c (d.drop i) [38,38] w1).mono ?_
      rintro e w2 ⟨⟨b,rfl⟩,hp2⟩
      refine⟨_,rfl,Br.of (λq2=>⟨by omega,by rw[bs_size];omega,by omega,?_⟩) (λq2=>?_)⟩
      · show R _ _
        rw[extract_take,List.drop_zero]
        exact hR _ _ ⟨⟨i,by omega,rfl⟩,hp.trans hp2⟩
      · refine(quoteW_c d hd (i:=i) (by omega) w2).mono ?_
        rintro e w3 ⟨⟨j,rfl,h1,h2⟩,hp3⟩
        exact⟨_,rfl,hJ _ _ (ih J j w3 (by omega) h2 (hp.trans (hp2.trans hp3)) hJ)⟩
  intro J hJ
  exact hJ _ _ (key d.length J 0 w (by omega) (Nat.zero_le _) (Pu.refl _) hJ)
end Go.Proofs.YtjbfehippchniaaGreatDoor

/- Pre: whether a text has a directive, as the reference tells. No condition but those stated. -/
set_option maxRecDepth 100000
set_option linter.unusedVariables false
set_option linter.unusedSimpArgs false
namespace Go.Proofs.YtjbfehippchniaaGreatDoor
open Go.Sh Go.Sh.Lx Go.Sh.Pr Go.RowKit Go.Shelf
variable {w0 w w' : World}
structure Src(w0 w:World)(r:Nat)(d:List UInt8)(i:Nat)(f:Bool):Prop where
  since:Pu w0 w
  new:w0.heap.size<=r
  blk:w.heap[r]?=some (.cells #[.string (bs d),.int .i64 (i:Int),.bool f] 91)
  le:i<=d.length
variable {r i : Nat} {d : List UInt8} {f : Bool}
theorem Src.pu(h:Src w0 w r d i f)(hp:Pu w w'):Src w0 w' r d i f:=⟨h.since.trans hp,h.new,hp.blk h.blk,h.le⟩
theorem Src.st (h:Src w0 w r d i f) {j:Nat} (hj:j<=d.length) {n:Int} (hn:n=(j:Int)) {K:World->Prop} (hK:∀w',Src w0 w' r d j f->K w'):ptrE (some (⟨r,0,none⟩:Addr)) λa=>st1 (a.add 1) (.int .i64 n) w K:=by
  rw[ptrE_some,add_def]
  subst hn
  refine st1_intro (o:=0+1) h.blk (by simp) λw' hw' hb'=>hK w' ⟨?_,h.new,hb',hj⟩
  exact h.since.andNew (by rw[hw'];exact Fr.setCell w ⟨r,1,none⟩ _:Fr (·=r) w w') λk hk=>by rw[show k=r from hk];exact h.new
theorem blanksW_c(hd:d.length<=140737488355328)(h:Src w0 w r d i f):Calls Tryz.prog 53 #[.pointer (some ⟨r,0,none⟩)] w λe w'=>e=.returned (.tuple #[])/\∃j,Src w0 w' r d j f:=by
  have hle:=h.le
  refine calls_by (F53_calls _ w) λR hR=>loopUp (d.length - i) (λk _ w'=>Src w0 w' r d (i+k) f) h ?_
  rintro k J _ w1 hk h1 hJ
  refine dwE_intro λw2 hp2 _=>?_
  have h2:=h1.pu hp2
  have hb:=h2.blk
  have c0:w2.cell? ⟨r,0,none⟩=some (.string (bs d)):=cl0 hb
  have c1:w2.cell? ((⟨r,0,none⟩:Addr).add 1)=some (.int .i64 ((i+k:Nat):Int)):=cl hb 1
  have fin:R (.returned (.tuple #[])) w2:=hR _ _ ⟨rfl,_,h2⟩
  refine⟨_,c1,_,c0,?_⟩
  rw[bs_size]
  refine Br.of (λq=>?_) (λq=>fin)
  have q:=dtrue q
  obtain⟨x,hx⟩:=at_k (l:=d) (k:=i+k) (by omega)
  have hxb:(bs d)[(((i+k:Nat):Int)).toNat]?=some x:=by rw[toNat_i];exact bs_get hx
  have go:∀n:Int,n=((i+k:Nat):Int)->ptrE (some (⟨r,0,none⟩:Addr)) λa7=>st1 (a7.add 1) (.int .i64 (IntKind.i64.wrap (n+1))) w2 λw8=>J () w8:=λn hn=>by
    subst hn
    rw[wrap_in (by omega) (by omega)]
    exact h2.st (j:=i+k+1) (by omega) (by omega) λw3 h3=>hJ _ _ (by omega) h3
  refine⟨_,c0,_,c1,x,by omega,hxb,Br.of (λ_=>⟨_,c1,go _ rfl⟩) (λ_=>⟨_,c0,_,c1,x,by omega,hxb,Br.of (λ_=>⟨_,c1,go _ rfl⟩) (λ_=>fin)⟩)⟩
theorem wordW_c(hd:d.length<=140737488355328)(h:Src w0 w r d i f):Calls Tryz.prog 54 #[.pointer (some ⟨r,0,none⟩)] w λe w'=>(∃u:List UInt8,e=.returned (.string (bs u))/\u.length<=d.length)/\∃j,Src w0 w' r d j f:=by
  have hle:=h.le
  refine calls_by (F54_calls _ w) λR hR=>⟨_,cl h.blk 1,?_⟩
  refine loopUp (d.length - i) (λk n w'=>n=((i+k:Nat):Int)/\Src w0 w' r d i f) ⟨rfl,h⟩ ?_
  rintro k J n w1 hk ⟨rfl,h1⟩ hJ
  have fin:∀{w2:World},Src w0 w2 r d i f->F54_1 R (some ⟨r,0,none⟩) ((i+k:Nat):Int) [] w2:=λ{w2} h2=>by
    refine dwE_intro λw3 hp3 _=>?_
    have h3:=h2.pu hp3
    refine⟨_,cl0 h3.blk,_,cl h3.blk 1,by omega,by rw[bs_size];omega,by omega,by omega,?_⟩
    rw[toNat_i,toNat_i,extract_take]
    refine(capitals_c _ (by rw[List.length_drop,List.length_take];omega) w3).mono ?_
    rintro e w4 ⟨rfl,hp4⟩
    refine⟨_,rfl,(h3.pu hp4).st (j:=i+k) (by omega) rfl λw5 h5=>hR _ _ ⟨⟨_,rfl,?_⟩,_,h5⟩⟩
    rw[List.length_map,List.length_drop,List.length_take];omega
  refine dwE_intro λw2 hp2 _=>?_
  have h2:=h1.pu hp2
  refine⟨_,cl0 h2.blk,?_⟩
  rw[bs_size]
  refine Br.of (λq=>?_) (λq=>fin h2)
  have q:=dtrue q
  refine⟨_,cl0 h2.blk,_,cl h2.blk 1,?_⟩
  rw[wrap_in (by omega) (by omega),show((i+k:Nat):Int)+1=((i+k+1:Nat):Int)from rfl]
  refine⟨by omega,by rw[bs_size];omega,by omega,by omega,?_⟩
  rw[toNat_i,toNat_i,extract_take]
  refine(capitals_c _ (by rw[List.length_drop,List.length_take];omega) w2).mono ?_
  rintro e w3 ⟨rfl,hp3⟩
  refine⟨_,rfl,(isWordW_c _ (by rw[List.length_map,List.length_drop,List.length_take];omega) 24 w3).mono ?_⟩
  rintro e w4 ⟨⟨b,rfl⟩,hp4⟩
  exact⟨_,rfl,Br.of (λ_=>hJ _ _ (by omega) ⟨rfl,h2.pu (hp3.trans hp4)⟩) (λ_=>fin (h2.pu (hp3.trans hp4)))⟩
theorem directiveW_c(x:List UInt8)(hx:x.length<=140737488355328)(w:World):Calls Tryz.prog 23 #[.string (bs x)] w λe w'=>(∃a b:ByteArray,e=.returned (.tuple #[.string a,.string b,.bool (hashS x)]))/\Pu w w':=by
  refine calls_by (F23_calls _ w) λR hR=>?_
  have hbl:(x.takeWhile Lx.blkB).length<=x.length:=tw_le _ _
  have hfst:fstB x=x[(x.takeWhile Lx.blkB).length]?:=by
    unfold fstB
    have e:x=x.takeWhile Lx.blkB ++ x.dropWhile Lx.blkB:=(List.takeWhile_append_dropWhile ..).symm
    conv=>rhs;rw[e]
    have e2:(x.takeWhile Lx.blkB ++ x.dropWhile Lx.blkB).takeWhile Lx.blkB=x.takeWhile Lx.blkB:=by rw[←e]
    rw[e2,List.getElem?_append_right (Nat.le_refl _),Nat.sub_self]
    cases x.dropWhile Lx.blkB <;> rfl
  refine loopUp (x.takeWhile Lx.blkB).length (λk n w'=>n=(k:Int)/\w'=w) ⟨rfl,rfl⟩ ?_
  rintro k J n w1 hk ⟨rfl,rfl⟩ hJ
  have ht:=head_test (f:=Lx.blkB) (d:=x) (p:=0) (k:=k) (by rw[List.drop_zero];exact hk)
  rw[Nat.zero_add,List.drop_zero]at ht
  have fin:¬k<(x.takeWhile Lx.blkB).length->F23_1 R (bs x) (k:Int) [] w1:=λh9=>by
    obtain rfl:k=(x.takeWhile Lx.blkB).length:=by omega
    unfold F23_1
    rw[bs_size]
    refine Br.of (λq=>?_) (λq=>?_)
    · have q:(((x.takeWhile Lx.blkB).length:Nat):Int)=(x.length:Int):=btrue q
      have:hashS x=false:=by rw[hash_fst,hfst,List.getElem?_eq_none (by omega)]
      exact hR _ _ ⟨⟨_,_,by rw[this]⟩,Pu.refl _⟩
    · have q:¬(((x.takeWhile Lx.blkB).length:Nat):Int)=(x.length:Int):=bfalse q
      obtain⟨y,hy⟩:=at_k (l:=x) (k:=(x.takeWhile Lx.blkB).length) (by omega)
      have hh:hashS x=decide (y.toNat=35):=by rw[hash_fst,hfst,hy]
      refine⟨y,by omega,by rw[toNat_i];exact bs_get hy,Br.of (λq2=>?_) (λq2=>?_)⟩
      · have q2:((y.toNat:Nat):Int) ≠ 35:=bntrue q2
        rw[decide_eq_false (by omega)]at hh
        exact hR _ _ ⟨⟨_,_,by rw[hh]⟩,Pu.refl _⟩
      · have q2:((y.toNat:Nat):Int)=35:=bnfalse q2
        rw[decide_eq_true (by omega)]at hh
        rw[wrap_in (by omega) (by omega),show(((x.takeWhile Lx.blkB).length:Nat):Int)+1=(((x.takeWhile Lx.blkB).length+1:Nat):Int)from rfl]
        refine⟨Nat.le_refl _,by omega,by omega,?_⟩
        have ed:(bs x).extract ((x.takeWhile Lx.blkB).length+1) x.length=bs (x.drop ((x.takeWhile Lx.blkB).length+1)):=by rw[←bs_size x];exact extract_drop _ _
        rw[toNat_i,ed]
        refine(plainW_c _ (by rw[List.length_drop];omega) w1).mono ?_
        rintro e w2 ⟨⟨m,hm,rfl⟩,hp2⟩
        rw[List.length_drop]at hm
        refine⟨_,rfl,alE_intro λw3 hw3=>?_⟩
        obtain⟨u,hu⟩:∃u,u=(x.drop ((x.takeWhile Lx.blkB).length+1)).take m:=⟨_,rfl⟩
        have hul:u.length<=140737488355328:=by rw[hu,List.length_take,List.length_drop];omega
        rw[←hu]at hw3
        have hS:Src w1 w3 w2.heap.size u 0 false:=⟨hp2.trans (by rw[hw3];exact Pu.alloc _ _),hp2.size,by rw[hw3];exact alloc_new _ _,Nat.zero_le _⟩
        refine(blanksW_c hul hS).mono ?_
        rintro e w4 ⟨rfl,j4,h4⟩
        refine⟨rfl,(wordW_c hul h4).mono ?_⟩
        rintro e w5 ⟨⟨v,rfl,hv⟩,j5,h5⟩
        refine⟨_,rfl,alB λw6 hp6 hb6=>?_⟩
        have h6:=h5.pu hp6
        have hrd:=rd_strs (l:=[(⟨#[68,69,70,73,78,69]⟩:ByteArray),⟨#[85,78,68,69,70]⟩,⟨#[73,70,68,69,70]⟩,⟨#[73,70,78,68,69,70]⟩,⟨#[69,76,83,69]⟩,⟨#[69,78,68,73,70]⟩,⟨#[67,79,77,77,65,78,68]⟩,⟨#[84,82,65,78,83,76,65,84,69]⟩]) hb6 (by decide)
        refine(rfull_c hrd v (by omega) ).mono ?_
        rintro e w7 ⟨rfl,hp7⟩
        refine⟨_,_,rfl,dwE_intro λw8 hp8 _=>?_⟩
        have h8:=(h6.pu hp7).pu hp8
        have hle8:=h8.le
        refine⟨_,cl0 h8.blk,_,cl h8.blk 1,Nat.le_refl _,by omega,by rw[toNat_i,bs_size];omega,hR _ _ ⟨⟨_,_,by rw[hh]⟩,h8.since⟩⟩
  refine Br.of (λq=>?_) (λq=>?_)
  · have q:=dtrue q
    rw[bs_size]at q
    obtain⟨y,hy⟩:=at_k (l:=x) (k:=k) (by omega)
    rw[hy]at ht
    have ht:Lx.blkB y=decide (k<(x.takeWhile Lx.blkB).length):=ht
    have hyb:(bs x)[((k:Int)).toNat]?=some y:=by rw[toNat_i];exact bs_get hy
    have go:Lx.blkB y=true->J (IntKind.i64.wrap ((k:Int)+1)) w1:=λh=>by
      rw[h]at ht
      have hlt:=of_decide_eq_true ht.symm
      rw[wrap_in (by omega) (by omega)]
      exact hJ _ _ hlt ⟨rfl,rfl⟩
    refine⟨y,by omega,hyb,Br.of (λq2=>go ?_) (λq2=>⟨y,by omega,hyb,Br.of (λq3=>go ?_) (λq3=>fin λh=>?_)⟩)⟩
    · have q2:((y.toNat:Nat):Int)=32:=btrue q2
      unfold Lx.blkB;rw[decide_eq_true (p:=y.toNat=32) (by omega)];simp
    · have q3:((y.toNat:Nat):Int)=9:=btrue q3
      unfold Lx.blkB;rw[decide_eq_true (p:=y.toNat=9) (by omega)];simp
    · have q2:¬((y.toNat:Nat):Int)=32:=bfalse q2
      have q3:¬((y.toNat:Nat):Int)=9:=bfalse q3
      rw[decide_eq_true h]at ht
      unfold Lx.blkB at ht
      rw[decide_eq_false (p:=y.toNat=32) (by omega),decide_eq_false (p:=y.toNat=9) (by omega)]at ht
      cases ht
  · have q:=dfalse q
    rw[bs_size]at q
    exact fin (by omega)
end Go.Proofs.YtjbfehippchniaaGreatDoor

/- Pre: a text's physical lines, and whether one is a directive. No condition but those stated. -/
set_option maxRecDepth 100000
set_option linter.unusedVariables false
set_option linter.unusedSimpArgs false
namespace Go.Proofs.YtjbfehippchniaaGreatDoor
open Go.Sh Go.Sh.Lx Go.Sh.Pr Go.RowKit Go.Shelf
variable {w0 w w' : World}
theorem physical_c(d:List UInt8)(hd:d.length<=1000000)(w0:World):Calls Tryz.prog 22 #[.string (bs d)] w0 λe w'=>Pu w0 w'/\∃s:SV,e=.returned (.slice s.a s.len s.cap)/\RdSl w' s ((splitNl d).map bs):=by
  refine calls_by (F22_calls _ w0) λR hR=>?_
  refine loopUp (d.length+1) (λk t w'=>∃(s:SV) (out:List (List UInt8)) (p:Nat),t=(s,(p:Int),(k:Int))/\Pu w0 w'/\RowAt w' 9 1 s ((out.map bs).map Value.string)/\NewR w0 s/\out.length<=k/\
      ((k<=d.length/\p<=k/\splitNl d=out ++ splitNl (d.drop p)/\∀(j:Nat) (x:UInt8),p<=j->j<k->d[j]?=some x->x ≠ 10)∨(k=d.length+1/\splitNl d=out)))
    ⟨⟨none,0,0⟩,[],0,rfl,Pu.refl _,RowAt.nil _ _ _,by simp[NewR,blkOf],Nat.le_refl _,.inl ⟨Nat.zero_le _,Nat.le_refl _,by simp,λj x h1 h2=>by omega⟩⟩ ?_
  rintro k J t w1 hk ⟨s,out,p,rfl,hp1,hr1,hn1,hol,hcase⟩ hJ
  dsimp only
  have push:∀{x:List UInt8} {K:SV->World->Prop},(∀s3 w4,Pu w0 w4->RowAt w4 9 1 s3 (((out ++ [x]).map bs).map Value.string)->NewR w0 s3->K s3 w4)->alE (.cells #[.string (bs x)] 9) w1 λr w4=>∃l:SV,∃w5:World,(Builtin.append_ #[33,33] 33 #[.slice s.a s.len s.cap,.slice (some ⟨r,0,none⟩) 1 1]).run Tryz.prog w4=.ok (.slice l.a l.len l.cap) w5/\K l w5:=λ{x K} hK=>by
    refine alB λw4 hp4 hb4=>?_
    obtain⟨s3,w5,hrun,hr5,hf5,hn5⟩:=push_str (hr1.pu hp4) (by rw[List.length_map,List.length_map];omega) (bs x) hb4
    have hP:=hp1.trans hp4
    refine⟨s3,w5,hrun,hK s3 w5 (hP.andNew hf5 λi hi=>hn1 i hi) ?_ λi hi=>?_⟩
    · rw[List.map_append,List.map_append];exact hr5
    · rcases hn5 i hi with h|h
      · exact hn1 i h
      · have:=hP.size;omega
  unfold F22_2
  rw[bs_size]
  refine Br.of (λq=>?_) (λq=>?_)
  · have q:(k:Int)<=(d.length:Int):=dtrue q
    obtain⟨hkd,hpk,hsp,hno⟩:k<=d.length/\p<=k/\splitNl d=out ++ splitNl (d.drop p)/\∀(j:Nat) (x:UInt8),p<=j->j<k->d[j]?=some x->x ≠ 10:=by
      rcases hcase with h|⟨h,_⟩
      · exact h
      · omega
    have hcut:=split_cut (d.drop p)
    -- a line ends here
    have cut:(k=d.length∨d[k]?=some 10)->splitNl d=(out ++ [(d.take k).drop p]) ++ (if k<d.length then splitNl (d.drop (k+1))else []):=λh=>by
      have htw:((d.drop p).takeWhile λb=>!decide (b=10)).length=k - p:=by
        refine tw_at (λj x hj hx=>?_) (λx hx=>?_) (by rw[List.length_drop];omega)
        · rw[List.getElem?_drop]at hx
          have:=hno (p+j) x (by omega) (by omega) hx
          simpa using this
        · rw[List.getElem?_drop,show p+(k - p)=k by omega]at hx
          rcases h with h|h
          · rw[List.getElem?_eq_none (by omega)]at hx;cases hx
          · rw[h]at hx;cases hx;rfl
      rw[htw,List.length_drop]at hcut
      rw[hsp,hcut]
      have e1:(d.drop p).take (k - p)=(d.take k).drop p:=by rw[List.drop_take]
      by_cases hlt:k<d.length
      · rw[if_pos (by omega),if_pos hlt,e1,List.drop_drop,show p+(k - p+1)=k+1 by omega]
        simp
      · rw[if_neg (by omega),if_neg hlt]
        obtain rfl:k=d.length:=by omega
        rw[List.take_length];simp
    have line:(k=d.length∨d[k]?=some 10)->0<=(k:Int)/\((k:Int)).toNat<=d.length/\0<=(p:Int)/\((p:Int)).toNat<=((k:Int)).toNat/\
        alE (.cells #[.string ((bs d).extract ((p:Int)).toNat ((k:Int)).toNat)] 9) w1 λr27 w2=>∃l28:SV,∃w3:World,(Builtin.append_ #[33,33] 33 #[.slice s.a s.len s.cap,.slice (some ⟨r27,0,none⟩) 1 1]).run Tryz.prog w2=.ok (.slice l28.a l28.len l28.cap) w3/\
          J (l28,(IntKind.i64.wrap ((k:Int)+1)),(IntKind.i64.wrap ((k:Int)+1))) w3:=λh=>by
      refine⟨by omega,by omega,by omega,by omega,?_⟩
      rw[toNat_i,toNat_i,extract_take,wrap_in (by omega) (by omega),show(k:Int)+1=((k+1:Nat):Int)from rfl]
      refine push λs3 w4 hp4 hr4 hn4=>hJ _ _ (by omega) ⟨s3,_,k+1,rfl,hp4,hr4,hn4,by rw[List.length_append];simp;omega,?_⟩
      have hc:=cut h
      by_cases hlt:k<d.length
      · rw[if_pos hlt]at hc
        exact .inl ⟨by omega,Nat.le_refl _,hc,λj x h1 h2=>by omega⟩
      · rw[if_neg hlt,List.append_nil]at hc
        exact .inr ⟨by omega,hc⟩
    refine Br.of (λq1=>?_) (λq1=>?_)
    · have q1:(k:Int)=(d.length:Int):=btrue q1
      exact line (.inl (by omega))
    · have q1:¬(k:Int)=(d.length:Int):=bfalse q1
      obtain⟨y,hy⟩:=at_k (l:=d) (k:=k) (by omega)
      refine⟨y,by omega,by rw[toNat_i];exact bs_get hy,Br.of (λq2=>?_) (λq2=>?_)⟩
      · have q2:((y.toNat:Nat):Int)=10:=btrue q2
        have:y=10:=UInt8.toNat_inj.1 (by show y.toNat=10;omega)
        exact line (.inr (by rw[hy,this]))
      · have q2:¬((y.toNat:Nat):Int)=10:=bfalse q2
        have hy10:y ≠ 10:=λe=>q2 (by rw[e];rfl)
        rw[wrap_in (by omega) (by omega),show(k:Int)+1=((k+1:Nat):Int)from rfl]
        refine hJ _ _ (by omega) ⟨s,out,p,rfl,hp1,hr1,hn1,by omega,.inl ⟨by omega,by omega,hsp,λj x h1 h2 hx=>?_⟩⟩
        by_cases e:j=k
        · subst e;rw[hy]at hx;cases hx;exact hy10
        · exact hno j x h1 (by omega) hx
  · have q:¬(k:Int)<=(d.length:Int):=dfalse q
    rcases hcase with h|⟨h,hsp⟩
    · omega
    · exact hR _ _ ⟨hp1,s,rfl,by rw[hsp];exact rd_str hr1 (by rw[List.length_map];omega)⟩
theorem directed_c(d:List UInt8)(hd:d.length<=1000000)(w0:World):Calls Tryz.prog 10 #[.string (bs d)] w0 λe w'=>e=.returned (.bool ((splitNl d).any hashS))/\Pu w0 w':=by
  refine calls_by (F10_calls _ w0) λR hR=>(physical_c d hd w0).mono ?_
  rintro e w1 ⟨hp1,s,rfl,hs⟩
  refine⟨s,rfl,?_⟩
  have hsl:=hs.len
  rw[List.length_map]at hsl
  have hle:=split_le d
  refine loopUp (splitNl d).length (λk n w'=>n=(k:Int)/\Pu w1 w'/\∀(j:Nat) (x:List UInt8),j<k->(splitNl d)[j]?=some x->hashS x=false) ⟨rfl,Pu.refl _,λj x h=>by omega⟩ ?_
  rintro k J n w2 hk ⟨rfl,hp2,hno⟩ hJ
  refine Br.of (λq=>?_) (λq=>?_)
  · have q:=dtrue q
    obtain⟨x,hx⟩:=at_k (l:=splitNl d) (k:=k) (by omega)
    have hxm:=List.mem_of_getElem? hx
    have hxl:=split_mem d x hxm
    obtain⟨a,ha,h1,h2,hc⟩:=RdSl.wd (hs.pu hp2) (i:=k) (x:=bs x) (by rw[List.getElem?_map,hx];rfl)
    refine⟨a,ha,h1,h2,_,hc,(directiveW_c x (by omega) w2).mono ?_⟩
    rintro e w3 ⟨⟨a',b',rfl⟩,hp3⟩
    refine⟨_,_,_,rfl,Br.of (λq2=>hR _ _ ⟨?_,hp1.trans (hp2.trans hp3)⟩) (λq2=>?_)⟩
    · rw[List.any_eq_true.2 ⟨x,hxm,q2⟩]
    · rw[wrap_in (by omega) (by omega)]
      refine hJ _ _ (by omega) ⟨rfl,hp2.trans hp3,λj y hj hy=>?_⟩
      by_cases e:j=k
      · subst e;rw[hx]at hy;cases hy;exact q2
      · exact hno j y (by omega) hy
  · have q:=dfalse q
    refine hR _ _ ⟨?_,hp1.trans hp2⟩
    have:(splitNl d).any hashS=false:=by
      rw[List.any_eq_false]
      intro x hx
      obtain⟨j,hj⟩:=List.mem_iff_getElem?.1 hx
      have:=hno j x (by have:=(List.getElem?_eq_some_iff.1 hj).1;omega) hj
      rw[this];decide
    rw[this]
end Go.Proofs.YtjbfehippchniaaGreatDoor

/- Pre: PreKeeps' law, but for the facts that are known. No condition but those stated. -/
set_option maxRecDepth 100000
set_option linter.unusedVariables false
set_option linter.unusedSimpArgs false
namespace Go.Proofs.YtjbfehippchniaaGreatDoor
open Go.Sh Go.Sh.Lx Go.Sh.Pr Go.RowKit Go.Shelf
variable {w0 w w' : World}
theorem many_c{s:SV}{l:List ByteArray}(hs:RdSl w s l)(hl:l.length<=10)(hz:∀x ∈ l,x.size<=140737488355328):Calls Tryz.prog 13 #[.slice s.a s.len s.cap] w λe w'=>e=.returned (.bool (decide (((l.length+(l.map ByteArray.size).sum:Nat):Int) > 12000)))/\w'=w:=by
  have hsl:=hs.len
  have hsum:∀k,k<=l.length->((l.take k).map ByteArray.size).sum<=k * 140737488355328:=by
    intro k
    induction k with
    | zero=>intro _;simp
    | succ k ih=>
      intro hk
      obtain⟨x,hx⟩:=at_k (l:=l) (k:=k) (by omega)
      have h1:=ih (by omega)
      have h2:=hz x (List.mem_of_getElem? hx)
      rw[take_at hx,List.map_append,List.sum_append,Nat.succ_mul,show(List.map ByteArray.size [x]).sum=x.size by simp]
      omega
  refine calls_by (F13_calls _ w) λR hR=>loopUp l.length (λk t w'=>t=(((l.length+((l.take k).map ByteArray.size).sum:Nat):Int),(k:Int))/\w'=w) ⟨by rw[hsl];simp,rfl⟩ ?_
  rintro k J t w1 hk ⟨rfl,rfl⟩ hJ
  dsimp only
  refine Br.of (λq=>?_) (λq=>?_)
  · have q:=dtrue q
    obtain⟨x,hx⟩:=at_k (l:=l) (k:=k) (by omega)
    obtain⟨a,ha,h1,h2,hc⟩:=RdSl.wd hs hx
    refine⟨a,ha,h1,h2,_,hc,?_⟩
    have g1:=hsum k (by omega)
    have g2:=hz x (List.mem_of_getElem? hx)
    have g3:k * 140737488355328<=10 * 140737488355328:=Nat.mul_le_mul_right _ (by omega)
    rw[wrap_in (by omega) (by omega),wrap_in (by omega) (by omega)]
    refine hJ _ _ (by omega) ⟨?_,rfl⟩
    rw[take_at hx,List.map_append,List.sum_append]
    have:(List.map ByteArray.size [x]).sum=x.size:=by simp
    rw[this]
    congr 1
    omega
  · have q:=dfalse q
    obtain rfl:k=l.length:=by omega
    rw[List.take_length]
    exact hR _ _ ⟨rfl,rfl⟩
theorem over_c{s:SV}{l:List ByteArray}(hs:RdSl w s l)(hl:l.length<=10)(hz:∀x ∈ l,x.size<=140737488355328):Calls Tryz.prog 5 #[.slice s.a s.len s.cap] w λe w'=>e=.returned (.bool (decide (((l.length+(l.map ByteArray.size).sum:Nat):Int) > 12000)))/\w'=w:=
  calls_by (F5_calls _ w) λR hR=>(many_c hs hl hz).mono λe w' ⟨h1,h2⟩=>⟨_,h1,hR _ _ ⟨rfl,h2⟩⟩
def MaxL(w:World):Prop:=∃m:Int,w.cell? ⟨Tryz.lays144_ren.g 1,0,none⟩=some (.int .i64 m)
theorem MaxL.pu(h:MaxL w)(hp:Pu w w'):MaxL w':=let ⟨m,hm⟩:=h;⟨m,hp.cell hm⟩
def KnownC:Prop:=∀w:World,Laid w->MaxL w->Calls Tryz.prog 7 #[] w λe w'=>e=.returned (.bool true)/\Pu w w'
theorem lexF_sizes{d:List UInt8}(hd:d.length<=12000):∀t ∈ (lexF d).1,t.text.size<=13000:=by
  intro t ht
  have:t ∈ (lexS d 0 false).1:=by
    revert ht
    unfold lexF
    split
    · intro h;cases h
    · split
      · intro h;cases h
      · split
        · intro h;cases h
        · exact id
  have:=lexS_sizes d.length d 0 false (Nat.le_refl _) t this
  omega
theorem sizeT_le:∀(l:List Tok) (n:Nat),(∀t ∈ l,t.text.size<=n)->sizeT l<=l.length * (n+6)
  | [],n,_=>by simp[sizeT]
  | t :: l,n,h=>by
    have h1:=sizeT_le l n λt ht=>h t (List.mem_cons_of_mem _ ht)
    have h2:=h t (List.mem_cons_self ..)
    unfold sizeT at h1 ⊢
    rw[List.map_cons,List.sum_cons,List.length_cons,Nat.succ_mul]
    omega
theorem keeps_c(hK:KnownC){w:World}(hL:Laid w)(hM:MaxL w)(s:ByteArray)(hz:s.size<=140737488355328):Calls Tryz.prog 4 #[.string s] w λe w'=>e=.returned (.bool true)/\Pu w w':=by
  obtain⟨d,rfl,_⟩:=text_bs s
  rw[bs_size]at hz
  refine calls_by (F4_calls _ w) λR hR=>alB λw1 hp1 hb1=>?_
  have known:∀{w2:World} {K:Bool->World->Prop},Pu w w2->(∀w3,Pu w w3->K true w3)->Calls Tryz.prog 7 #[] w2 λe w3=>∃b:Bool,e=.returned (.bool b)/\K b w3:=λ{w2 K} hp hk=>
    (hK w2 (hL.pu hp) (hM.pu hp)).mono λe w3 ⟨h1,h2⟩=>⟨true,h1,hk w3 (hp.trans h2)⟩
  have done:∀w3,Pu w w3->R (.returned (.bool true)) w3:=λw3 hp=>hR _ _ ⟨rfl,hp⟩
  have hrd:=rd_strs (l:=[bs d]) hb1 (by simp)
  have hx1:∀x ∈ [bs d],x.size<=140737488355328:=λx hx=>by
    obtain rfl:x=bs d:=List.mem_singleton.1 hx
    rw[bs_size];exact hz
  refine(over_c hrd (by simp) hx1).mono ?_
  rintro e w2 ⟨rfl,rfl⟩
  refine⟨_,rfl,Br.of (λq=>known hp1 done) (λq=>?_)⟩
  have q:=dfalse q
  have hd:d.length<=12000:=by simp[bs_size]at q;omega
  refine(directed_c d (by omega) w2).mono ?_
  rintro e w3 ⟨rfl,hp3⟩
  have hP3:=hp1.trans hp3
  refine⟨_,rfl,Br.of (λq2=>known hP3 done) (λq2=>?_)⟩
  have hno:∀x ∈ splitNl d,hashS x=false:=λx hx=>by
    rw[List.any_eq_false]at q2
    have:=q2 x hx
    simpa using this
  obtain⟨k1,k2⟩:=keep_law hno
  refine(expand_c (hL.pu hP3) d hno).mono ?_
  rintro e w4 ⟨rfl,hp4⟩
  have hP4:=hP3.trans hp4
  refine⟨_,_,rfl,(rlex_c d (by omega)).mono ?_⟩
  rintro e w5 ⟨hp5,s5,rfl,hrl⟩
  have hP5:=hP4.trans hp5
  refine⟨s5,_,_,rfl,?_⟩
  rw[bs_size]
  -- the law
  have law:((lexF d).2.2=3/\d.length<=4000->False)->F4_1 R (bs (expS d).1) (expS d).2 s5 ((lexF d).2.2 != 0) [] w5:=λhno3=>by
    unfold F4_1
    refine Br.of (λq3=>?_) (λq3=>?_)
    · have q3:(lexF d).2.2 ≠ 0:=bntrue q3
      have hne:(expS d).2 ≠ 0:=by
        rcases k1 q3 with h|h
        · exact absurd h hno3
        · exact h
      exact Br.t (by rw[bne_iff_ne];exact hne) (known hP5 done)
    · have q3:(lexF d).2.2=0:=bnfalse q3
      have hj:=k2 q3
      have hsz:=lexF_sizes hd
      have hll:=lexF_len d
      have hT:=sizeT_le (lexF d).1 13000 hsz
      have hjl:=joinS_len false (lexF d).1
      refine(rjoined_c hrl (λt ht=>by have:=hsz t ht;omega) (by
          have:(lexF d).1.length * 13006<=1200 * 13006:=Nat.mul_le_mul_right _ hll
          omega)).mono ?_
      rintro e w6 ⟨rfl,hp6⟩
      have hP6:=hP5.trans hp6
      refine⟨_,rfl,?_⟩
      rw[bs_size]
      refine Br.of (λq4=>?_) (λq4=>?_)
      · have q4:=dtrue q4
        rw[if_pos (by omega)]at hj
        rw[hj]
        refine Br.t rfl (Br.t ?_ (known hP6 done))
        rw[toList_beq];exact decide_eq_true rfl
      · have q4:=dfalse q4
        rw[if_neg (by omega)]at hj
        rw[hj]
        exact Br.t rfl (known hP6 done)
  refine Br.of (λq3=>?_) (λq3=>law λh=>?_)
  · refine Br.of (λq4=>known hP5 done) (λq4=>law λh=>?_)
    have q4:=dfalse q4
    omega
  · have q3:¬(lexF d).2.2=3:=bfalse q3
    exact q3 h.1
end Go.Proofs.YtjbfehippchniaaGreatDoor

/- Pre: a directive's word; a definition. No condition but those stated. -/
set_option maxRecDepth 100000
set_option linter.unusedVariables false
set_option linter.unusedSimpArgs false
namespace Go.Proofs.YtjbfehippchniaaGreatDoor
open Go.Sh Go.Sh.Lx Go.Sh.Pr Go.RowKit Go.Shelf
variable {w0 w w' : World}
structure Rdx(w0 w:World)(r:Nat)(d:List UInt8)(i:Nat)(f:Bool):Prop where
  since:Pu w0 w
  new:w0.heap.size<=r
  blk:w.heap[r]?=some (.cells #[.string (bs d),.int .i64 (i:Int),.bool f] 78)
  le:i<=d.length
  lim:d.length<=4294967280
variable {r i : Nat} {d : List UInt8} {f : Bool}
theorem Rdx.pu(h:Rdx w0 w r d i f)(hp:Pu w w'):Rdx w0 w' r d i f:=⟨h.since.trans hp,h.new,hp.blk h.blk,h.le,h.lim⟩
theorem Rdx.st (h:Rdx w0 w r d i f) {j:Nat} (hj:j<=d.length) {n:Int} (hn:n=(j:Int)) {K:World->Prop} (hK:∀w',Rdx w0 w' r d j f->Fr (·=r) w w'->K w'):ptrE (some (⟨r,0,none⟩:Addr)) λa=>st1 (a.add 1) (.int .i64 n) w K:=by
  rw[ptrE_some,add_def]
  subst hn
  refine st1_intro (o:=0+1) h.blk (by simp) λw' hw' hb'=>?_
  have hf:Fr (·=r) w w':=by rw[hw'];exact Fr.setCell w ⟨r,1,none⟩ _
  exact hK w' ⟨h.since.andNew hf λk hk=>by rw[show k=r from hk];exact h.new,h.new,hb',hj,h.lim⟩ hf
def wB(b:UInt8):Bool:=Lx.letB b || Go.Sh.digB b
theorem wB_eq(b:UInt8):(decide (b.toNat=95) || (decide (97<=b.toNat) && decide (b.toNat<=122)) || (decide (65<=b.toNat) && decide (b.toNat<=90)) || (decide (48<=b.toNat) && decide (b.toNat<=57)))=wB b:=rfl
theorem wordByte_c(b:UInt8)(w:World):Calls Tryz.prog 79 #[.int .u8 ((b.toNat:Nat):Int)] w λe w'=>e=.returned (.bool (wB b))/\w'=w:=by
  refine calls_by (F79_calls _ w) λR hR=>?_
  have hb:=wB_eq b
  unfold F79_3 F79_2
  have key:∀v:Bool,v=wB b->F79_1 R v [] w:=λv hv=>hR _ _ ⟨by rw[hv],rfl⟩
  have c1:(((b.toNat:Nat):Int) == 95)=decide (b.toNat=95):=by rw[beq_dec];exact dec_eq (by omega)
  have c2:decide (((b.toNat:Nat):Int) ≥ 97)=decide (97<=b.toNat):=dec_eq (by omega)
  have c3:decide (((b.toNat:Nat):Int)<=122)=decide (b.toNat<=122):=dec_eq (by omega)
  have c4:decide (((b.toNat:Nat):Int) ≥ 65)=decide (65<=b.toNat):=dec_eq (by omega)
  have c5:decide (((b.toNat:Nat):Int)<=90)=decide (b.toNat<=90):=dec_eq (by omega)
  have c6:decide (((b.toNat:Nat):Int) ≥ 48)=decide (48<=b.toNat):=dec_eq (by omega)
  have c7:decide (((b.toNat:Nat):Int)<=57)=decide (b.toNat<=57):=dec_eq (by omega)
  rw[c1,c2,c3,c4,c5,c6,c7]
  revert hb
  generalize decide (b.toNat=95)=x1
  generalize decide (97<=b.toNat)=x2
  generalize decide (b.toNat<=122)=x3
  generalize decide (65<=b.toNat)=x4
  generalize decide (b.toNat<=90)=x5
  generalize decide (48<=b.toNat)=x6
  generalize decide (b.toNat<=57)=x7
  intro hb
  cases x1 <;> cases x2 <;> cases x3 <;> cases x4 <;> cases x5 <;> cases x6 <;> exact key _ (by rw[←hb];simp)
def wdS(d:List UInt8)(i:Nat):List UInt8:=(d.drop i).takeWhile wB
theorem wordR_c(hL:Laid w0)(hd:d.length<=4000)(h:Rdx w0 w r d i f):Calls Tryz.prog 43 #[.pointer (some ⟨r,0,none⟩)] w λe w'=>e=.returned (.string (bs ((wdS d i).map capU)))/\Rdx w0 w' r d (i+(wdS d i).length) f/\Fr (·=r) w w':=by
  have hle:=h.le
  have htw:(wdS d i).length<=(d.drop i).length:=tw_le _ _
  rw[List.length_drop]at htw
  refine calls_by (F43_calls _ w) λR hR=>⟨_,cl h.blk 1,?_⟩
  refine loopUp (wdS d i).length (λk _ w'=>Rdx w0 w' r d (i+k) f/\Fr (·=r) w w') ⟨h,Fr.refl _ _⟩ ?_
  rintro k J _ w1 hk ⟨h1,f1⟩ hJ
  have ht:=head_test (f:=wB) (d:=d) (p:=i) (k:=k) hk
  refine dwE_intro λw2 hp2 _=>?_
  have h2:=h1.pu hp2
  have f2:Fr (·=r) w w2:=f1.trans (Fr.pu hp2:Fr (·=r) w1 w2) λ_ hi _=>hi
  have c0:w2.cell? ⟨r,0,none⟩=some (.string (bs d)):=cl0 h2.blk
  have c1:w2.cell? ((⟨r,0,none⟩:Addr).add 1)=some (.int .i64 ((i+k:Nat):Int)):=cl h2.blk 1
  have fin:¬k<(wdS d i).length->F43_1 R (some ⟨r,0,none⟩) (i:Int) [] w2:=λh9=>by
    obtain rfl:k=(wdS d i).length:=by omega
    refine dwE_intro λw3 hp3 _=>?_
    have h3:=h2.pu hp3
    refine⟨_,cl0 h3.blk,_,cl h3.blk 1,by omega,by rw[bs_size];omega,by omega,by omega,?_⟩
    have hex:(bs d).extract i (i+(wdS d i).length)=bs (wdS d i):=ext_tw wB d i hle
    rw[toNat_i,toNat_i,hex]
    refine(upper_c (hL.pu h3.since) _ (by omega)).mono ?_
    rintro e w4 ⟨rfl,hp4⟩
    refine⟨_,rfl,hR _ _ ⟨?_,h3.pu hp4,f2.trans (Fr.pu (hp3.trans hp4):Fr (·=r) w2 w4) λ_ hi _=>hi⟩⟩
    have hup:Lib.toUpperD (wdS d i)=(wdS d i).map capU:=upD_low λy hy=>letdig_low (tw_mem (p:=wB) hy)
    rw[hup]
  refine⟨_,c1,_,c0,?_⟩
  rw[bs_size]
  refine Br.of (λq=>?_) (λq=>?_)
  · have q:=dtrue q
    obtain⟨x,hx⟩:=at_k (l:=d) (k:=i+k) (by omega)
    rw[hx]at ht
    have ht:wB x=decide (k<(wdS d i).length):=ht
    refine⟨_,c0,_,c1,x,by omega,by rw[toNat_i];exact bs_get hx,(wordByte_c x w2).mono ?_⟩
    rintro e w3 ⟨rfl,rfl⟩
    refine⟨_,rfl,?_⟩
    rw[ht]
    refine Br.of (λq2=>?_) (λq2=>fin (dfalse q2))
    have q2:=dtrue q2
    refine⟨_,c1,?_⟩
    rw[wrap_in (by omega) (by omega)]
    exact h2.st (j:=i+k+1) (by omega) (by omega) λw4 h4 f4=>hJ _ _ q2 ⟨h4,f2.trans f4 λ_ hi _=>hi⟩
  · have q:=dfalse q
    exact fin (by omega)
def dirsL:List ByteArray:=[⟨#[68,69,70,73,78,69]⟩,⟨#[85,78,68,69,70]⟩,⟨#[73,70,68,69,70]⟩,⟨#[73,70,78,68,69,70]⟩,⟨#[69,76,83,69]⟩,⟨#[69,78,68,73,70]⟩,⟨#[67,79,77,77,65,78,68]⟩,⟨#[84,82,65,78,83,76,65,84,69]⟩]
theorem dirs_c(w:World):Calls Tryz.prog 44 #[] w λe w'=>Pu w w'/\∃s:SV,e=.returned (.slice s.a s.len s.cap)/\RdSl w' s dirsL:=
  calls_by (F44_calls w) λR hR=>alB λw1 hp1 hb1=>hR _ _ ⟨hp1,⟨some ⟨w.heap.size,0,none⟩,8,8⟩,rfl,rd_strs (l:=dirsL) hb1 (by decide)⟩
def dirS(x:List UInt8):ByteArray × List UInt8 × Bool:=
  if headB 35 (trimS (uncS x))=false then(⟨#[]⟩,[],false)
  else((fullS (((wdS (trimS ((trimS (uncS x)).drop 1)) 0).map capU).map capU) dirsL).1,trimS ((trimS ((trimS (uncS x)).drop 1)).drop (wdS (trimS ((trimS (uncS x)).drop 1)) 0).length),(fullS (((wdS (trimS ((trimS (uncS x)).drop 1)) 0).map capU).map capU) dirsL).2)
theorem dir_c(hL:Laid w)(x:List UInt8)(hx:x.length<=4000):Calls Tryz.prog 18 #[.string (bs x)] w λe w'=>e=.returned (.tuple #[.string (dirS x).1,.string (bs (dirS x).2.1),.bool (dirS x).2.2])/\Pu w w':=by
  have hul:=uncS_len x
  have htl:=trimS_len (uncS x)
  refine calls_by (F18_calls _ w) λR hR=>(uncommented_c x (by omega) w).mono ?_
  rintro e w1 ⟨rfl,hp1⟩
  refine⟨_,rfl,(trimmed_c (uncS x) (by omega) w1).mono ?_⟩
  rintro e w2 ⟨rfl,hp2⟩
  refine⟨_,rfl,(hash_c (trimS (uncS x)) w2).mono ?_⟩
  rintro e w3 ⟨rfl,rfl⟩
  have hP:=hp1.trans hp2
  refine⟨_,rfl,Br.of (λq=>?_) (λq=>?_)⟩
  · have q:headB 35 (trimS (uncS x))=false:=by simpa using q
    have e1:dirS x=(⟨#[]⟩,[],false):=by unfold dirS;rw[if_pos q]
    exact hR _ _ ⟨by rw[e1],hP⟩
  · have q:headB 35 (trimS (uncS x))=true:=by simpa using q
    have hlen:1<=(trimS (uncS x)).length:=by
      cases h:trimS (uncS x)with
      | nil=>rw[h]at q;cases q
      | cons b t=>simp
    have i1:(1:Int).toNat=1:=rfl
    obtain⟨t,ht⟩:∃t,t=trimS (uncS x):=⟨_,rfl⟩
    obtain⟨u,hu⟩:∃u,u=trimS (t.drop 1):=⟨_,rfl⟩
    have hul2:=trimS_len (t.drop 1)
    rw[List.length_drop]at hul2
    have htt:t.length<=4000:=by rw[ht];omega
    have hus:u.length<=4000:=by rw[hu];omega
    rw[←ht]at hlen q ⊢
    refine⟨Nat.le_refl _,by omega,by rw[bs_size];omega,?_⟩
    rw[i1,extract_drop]
    refine(trimmed_c (t.drop 1) (by rw[List.length_drop];omega) w3).mono ?_
    rintro e w4 ⟨rfl,hp4⟩
    rw[←hu]
    refine⟨_,rfl,alE_intro λw5 hw5=>?_⟩
    have hS:Rdx w w5 w4.heap.size u 0 false:=⟨hP.trans (hp4.trans (by rw[hw5];exact Pu.alloc _ _)),(hP.trans hp4).size,by rw[hw5];exact alloc_new _ _,Nat.zero_le _,by omega⟩
    refine(wordR_c hL hus hS).mono ?_
    rintro e w6 ⟨rfl,h6,_⟩
    refine⟨_,rfl,(dirs_c w6).mono ?_⟩
    rintro e w7 ⟨hp7,s7,rfl,hs7⟩
    have hwl:(wdS u 0).length<=u.length:=by have:=tw_le wB (u.drop 0);rwa [List.drop_zero]at this
    refine⟨s7,rfl,(full_c hs7 ((wdS u 0).map capU) (by rw[List.length_map];omega)).mono ?_⟩
    rintro e w8 ⟨rfl,hp8⟩
    refine⟨_,_,rfl,dwE_intro λw9 hp9 _=>?_⟩
    have h9:=((h6.pu hp7).pu hp8).pu hp9
    refine⟨_,cl0 h9.blk,_,cl h9.blk 1,Nat.le_refl _,by omega,by rw[toNat_i,bs_size];omega,?_⟩
    rw[toNat_i,Nat.zero_add,extract_drop]
    refine(trimmed_c (u.drop (wdS u 0).length) (by rw[List.length_drop];omega) w9).mono ?_
    rintro e w10 ⟨rfl,hp10⟩
    have e1:dirS x=((fullS (((wdS u 0).map capU).map capU) dirsL).1,trimS (u.drop (wdS u 0).length),(fullS (((wdS u 0).map capU).map capU) dirsL).2):=by
      unfold dirS
      rw[←ht,←hu,if_neg (by rw[q];decide)]
    exact⟨_,rfl,hR _ _ ⟨by rw[e1],h9.since.trans hp10⟩⟩
def defD(x:List UInt8):Option (ByteArray × List Tok):=match tokP x with
  | some (t :: ts)=>if goesS x true=false/\t.kind=0/\isNameS t.text.data.toList=true then some (t.text,ts)else none
  | _=>none
theorem define_c(hL:Laid w)(x:List UInt8)(hx:x.length<=4000):Calls Tryz.prog 37 #[.string (bs x)] w λe w'=>Pu w w'/\∃(n:ByteArray) (s:SV) (b:Bool),e=.returned (.tuple #[.string n,.slice s.a s.len s.cap,.bool b])/\(b=(defD x).isSome)/\∀m ts,defD x=some (m,ts)->n=m/\RdSl w' s ts:=by
  refine calls_by (F37_calls _ w) λR hR=>(tokens_c hL x (by omega)).mono ?_
  rintro e w1 ⟨hp1,s,b,rfl,rfl,hrd⟩
  refine⟨s,_,rfl,?_⟩
  have no:∀{w2:World} {sl:SV},Pu w w2->defD x=none->F37_1 R sl true [] w2:=λ{w2 sl} hp h=>by
    refine Br.t rfl (hR _ _ ⟨hp,_,⟨none,0,0⟩,false,rfl,by rw[h];rfl,λm ts h2=>?_⟩)
    rw[h]at h2;cases h2
  cases ht:tokP x with
  | none=>exact Br.t rfl (no hp1 (by unfold defD;rw[ht]))
  | some l=>
    rw[ht]at hrd
    have hrd:=hrd rfl
    have e2:tokV2 x=l:=by unfold tokV2;rw[ht];rfl
    rw[e2]at hrd
    have hsl:=hrd.len
    refine Br.f rfl ((pgoes_c x (by omega) true w1).mono ?_)
    rintro e w2 ⟨rfl,hp2⟩
    have hP:=hp1.trans hp2
    have hrd2:=hrd.pu hp2
    refine⟨_,rfl,Br.of (λq=>no hP ?_) (λq=>?_)⟩
    · unfold defD;rw[ht]
      cases l with
      | nil=>rfl
      | cons t ts=>dsimp only;rw[if_neg (by rw[q];simp)]
    · refine Br.of (λq2=>no hP ?_) (λq2=>?_)
      · have q2:((s.len:Nat):Int)=0:=btrue q2
        obtain rfl:l=[]:=List.eq_nil_of_length_eq_zero (by omega)
        unfold defD;rw[ht]
      · have q2:¬((s.len:Nat):Int)=0:=bfalse q2
        cases l with
        | nil=>simp at hsl;omega
        | cons t ts=>
          have hc:=RdSl.tok hrd2 (i:=0) (t:=t) rfl
          obtain⟨a,ha,h1,h2,ck,c0,c1,c2⟩:=hc
          refine⟨a,ha,by omega,by omega,_,ck,Br.of (λq3=>no hP ?_) (λq3=>⟨a,ha,by omega,by omega,_,c2,?_⟩)⟩
          · have q3:t.kind ≠ 0:=bntrue q3
            unfold defD;rw[ht];dsimp only;rw[if_neg (by simp[q3])]
          · have q3:t.kind=0:=bnfalse q3
            obtain⟨y,hy,hy2⟩:=text_bs t.text
            rw[hy]
            refine(name_c y w2).mono ?_
            rintro e w3 ⟨rfl,hp3⟩
            refine⟨_,rfl,?_⟩
            cases hn:isNameS y with
            | false=>exact no (hP.trans hp3) (by unfold defD;rw[ht];dsimp only;rw[if_neg (by rw[hy2,hn];simp)])
            | true=>
              obtain⟨ts9,hts9⟩:∃ts9,ts9=ts:=⟨_,rfl⟩
              have hdef:defD x=some (t.text,ts):=by unfold defD;rw[ht];dsimp only;rw[if_pos ⟨q,q3,by rw[hy2];exact hn⟩]
              refine Br.f rfl (dwE_intro λw4 hp4 _=>?_)
              have hrd4:=(hrd2.pu hp3).pu hp4
              obtain⟨a4,ha4,g1,g2,_,_,_,c4⟩:=RdSl.tok hrd4 (i:=0) (t:=t) rfl
              have hcap:=hrd4.cap
              rw[hy]at c4
              refine⟨a4,ha4,by omega,by omega,_,c4,hcap,by omega,by show 1<=s.len;omega,hR _ _ ⟨hP.trans (hp3.trans hp4),_,⟨_,_,_⟩,true,rfl,by rw[hdef];rfl,λm ts' h9=>?_⟩⟩
              rw[hdef]at h9
              have h9:=Option.some.inj h9
              have e8:t.text=m:=congrArg Prod.fst h9
              have e9:ts=ts':=congrArg Prod.snd h9
              refine⟨by rw[←e8];exact hy.symm,?_⟩
              have:=rd_sub hrd4 (lo:=1) (hi:=(t :: ts).length) (by simp) (Nat.le_refl _) _ (s.len - (1:Int).toNat) _ rfl (by rw[hsl];rfl) rfl
              rw[List.take_length]at this
              rw[←e9]
              exact this
end Go.Proofs.YtjbfehippchniaaGreatDoor

/- Pre: lines replaced by definitions. No condition but those stated. -/
set_option maxRecDepth 100000
set_option linter.unusedVariables false
set_option linter.unusedSimpArgs false
namespace Go.Proofs.YtjbfehippchniaaGreatDoor
open Go.Sh Go.Sh.Lx Go.Sh.Pr Go.RowKit Go.Shelf
variable {w0 w w' : World}
theorem cell_map {m:Nat} {es:Array MapEntry} {c:Nat} (hm:w.heap[m]?=some (.map es c)) (hf:Fr (·=m) w w') {a:Addr} {v:Value} (h:w.cell? a=some v):w'.cell? a=some v:=by
  have hne:a.block ≠ m:=λe=>by
    unfold World.cell? at h
    rw[e,hm]at h
    cases h
  have hlt:a.block<w.heap.size:=by
    rcases Nat.lt_or_ge a.block w.heap.size with h9|h9
    · exact h9
    · unfold World.cell? at h
      rw[Array.getElem?_eq_none h9]at h
      cases h
  rw[World.cell?_of_block (hf.block _ hlt hne)]
  exact h
theorem rd_map {m:Nat} {es:Array MapEntry} {c:Nat} (hm:w.heap[m]?=some (.map es c)) (hf:Fr (·=m) w w') {s:SV} {l:List Tok} (h:RdSl w s l):RdSl w' s l:=
  ⟨h.len,h.cap,h.lim,λi x hx=>by
    obtain⟨a,ha,vs,h1,h2⟩:=h.get i x hx
    exact⟨a,ha,vs,h1,λj v hv=>cell_map hm hf (h2 j v hv)⟩⟩
structure Stm(w0 w:World)(b m:Nat)(D:Defs)(v:Value):Prop where
  since:Pu w0 w
  nb:w0.heap.size<=b
  nm:w0.heap.size<=m
  blk:w.heap[b]?=some (.cells #[.map (some m),v] 46)
  map:Go.Sh.MapAt w ekS slV m (D.map λx=>(x.1,x.2.1))
  rows:∀x ∈ D,RdSl w x.2.1 x.2.2/\x.2.2.length<=1200
theorem Stm.pu{b m:Nat}{D:Defs}{v:Value}(h:Stm w0 w b m D v)(hp:Pu w w'):Stm w0 w' b m D v:=⟨h.since.trans hp,h.nb,h.nm,hp.blk h.blk,h.map.pu hp,λx hx=>⟨(h.rows x hx).1.pu hp,(h.rows x hx).2⟩⟩
theorem Stm.sta {b m:Nat} {D:Defs} {rs:SV} (h:Stm w0 w b m D (slV rs)):StA w ⟨b,0,none⟩ D rs:=⟨⟨m,cl0 h.blk,h.map⟩,h.rows,cl h.blk 1⟩
abbrev Dfs:=List (ByteArray × List Tok)
def dfs(D:Defs):Dfs:=D.map λx=>(x.1,x.2.2)
theorem dg_dfs(D:Defs)(k:ByteArray):dg D k=AL.get (dfs D) k:=by
  unfold dg dfs
  induction D with
  | nil=>rfl
  | cons x D ih=>
    obtain⟨a,b⟩:=x
    simp only[List.map_cons,AL.get]
    split
    · rfl
    · exact ih
theorem put_map1(D:Defs)(k:ByteArray)(s:SV)(ts:List Tok):(AL.put D k (s,ts)).map (λx=>(x.1,x.2.1))=AL.put (D.map λx=>(x.1,x.2.1)) k s:=by
  induction D with
  | nil=>rfl
  | cons x D ih=>
    obtain⟨a,b⟩:=x
    simp only[AL.put,List.map_cons]
    split
    · rfl
    · rw[List.map_cons,ih]
theorem put_map2(D:Defs)(k:ByteArray)(s:SV)(ts:List Tok):dfs (AL.put D k (s,ts))=AL.put (dfs D) k ts:=by
  unfold dfs
  induction D with
  | nil=>rfl
  | cons x D ih=>
    obtain⟨a,b⟩:=x
    simp only[AL.put,List.map_cons]
    split
    · rfl
    · rw[List.map_cons,ih]
theorem put_mem {D:Defs} {k:ByteArray} {v:SV × List Tok} {x:ByteArray × (SV × List Tok)} (h:x ∈ AL.put D k v):x ∈ D∨x.2=v:=by
  induction D with
  | nil=>
    simp only[AL.put,List.mem_singleton]at h
    subst h;exact .inr rfl
  | cons y D ih=>
    obtain⟨a,b⟩:=y
    simp only[AL.put]at h
    split at h
    · rcases List.mem_cons.1 h with rfl|h
      · exact .inr rfl
      · exact .inl (List.mem_cons_of_mem _ h)
    · rcases List.mem_cons.1 h with rfl|h
      · exact .inl (List.mem_cons_self ..)
      · rcases ih h with h|h
        · exact .inl (List.mem_cons_of_mem _ h)
        · exact .inr h
structure DefR(x:List UInt8)(n:ByteArray)(ts:List Tok):Prop where
  len:x.length<=200
  one:x.contains 10=false
  dir:(dirS x).1=⟨#[68,69,70,73,78,69]⟩/\(dirS x).2.2=true
  def_:defD (dirS x).2.1=some (n,ts)
theorem trim_le2(x:List UInt8):(dirS x).2.1.length<=x.length:=by
  unfold dirS
  have h1:=uncS_len x
  have h2:=trimS_len (uncS x)
  split
  · simp
  · have h3:=trimS_len ((trimS (uncS x)).drop 1)
    have h4:=trimS_len ((trimS ((trimS (uncS x)).drop 1)).drop (wdS (trimS ((trimS (uncS x)).drop 1)) 0).length)
    rw[List.length_drop]at h3 h4
    dsimp only
    omega
theorem nl_c(l:List UInt8)(w:World):Calls Tryz.prog 36 #[.string (bs l),.string (⟨#[10]⟩:ByteArray)] w λe w'=>e=.returned (.bool (l.contains 10))/\w'=w:=by
  refine(Any.strings_Contains_one Tryz.lays144 (bs l) 10 w).mono ?_
  rintro e w' ⟨rfl,rfl⟩
  rw[bs_list,contains_index];exact⟨rfl,rfl⟩
theorem check_def_c(hL:Laid w){x:List UInt8}{n:ByteArray}{ts:List Tok}(h:DefR x n ts):Calls Tryz.prog 17 #[.string (bs x)] w λe w'=>e=.returned (.int .i64 0)/\Pu w w':=by
  have hlen:=h.len
  have htl:=trim_le2 x
  refine calls_by (F17_calls _ w) λR hR=>Br.f (by rw[bs_size];exact decide_eq_false (by omega)) ((dir_c hL x (by omega)).mono ?_)
  rintro e w1 ⟨rfl,hp1⟩
  refine⟨_,_,_,rfl,?_⟩
  rw[h.dir.2]
  refine Br.f rfl ((nl_c x w1).mono ?_)
  rintro e w2 ⟨rfl,rfl⟩
  rw[h.one,h.dir.1]
  refine⟨_,rfl,Br.f rfl (Br.t (by rw[toList_beq];exact decide_eq_true rfl) ((define_c (hL.pu hp1) _ (by omega)).mono ?_))⟩
  rintro e w3 ⟨hp3,n3,s3,b3,rfl,hb,_⟩
  rw[h.def_]at hb
  exact⟨_,_,_,rfl,Br.f (by rw[hb];rfl) (hR _ _ ⟨rfl,hp1.trans hp3⟩)⟩
theorem learn_def_c(hL:Laid w){b m:Nat}{D:Defs}{v:Value}(hS:Stm w0 w b m D v){x:List UInt8}{n:ByteArray}{ts:List Tok}(h:DefR x n ts):Calls Tryz.prog 19 #[.pointer (some ⟨b,0,none⟩),.string (dirS x).1,.string (bs (dirS x).2.1)] w λe w'=>e=.returned (.int .i64 0)/\∃s:SV,Stm w0 w' b m (AL.put D n (s,ts)) v:=by
  have hlen:=h.len
  have htl:=trim_le2 x
  have hts:ts.length<=1200:=by
    have hd:=h.def_
    unfold defD at hd
    cases ht:tokP (dirS x).2.1 with
    | none=>rw[ht]at hd;cases hd
    | some l=>
      rw[ht]at hd
      have hl:=tokP_len ht
      cases l with
      | nil=>cases hd
      | cons t l=>
        dsimp only at hd
        split at hd
        · cases hd
          rw[List.length_cons]at hl;omega
        · cases hd
  refine calls_by (F19_calls _ _ _ w) λR hR=>?_
  refine Br.t (by rw[h.dir.1,toList_beq];exact decide_eq_true rfl) ((define_c hL _ (by omega)).mono ?_)
  rintro e w1 ⟨hp1,n1,s1,b1,rfl,hb,hm⟩
  rw[h.def_]at hb
  obtain⟨rfl,hrd⟩:=hm n ts h.def_
  have h1:=hS.pu hp1
  refine⟨_,_,_,rfl,Br.f (by rw[hb];rfl) ?_⟩
  rw[ptrE_some]
  refine⟨_,cl0 h1.blk,?_⟩
  obtain⟨w2,hrun,hM2,hf2,hz2⟩:=h1.map.upd (P:=Tryz.prog) (kt:=9) (t:=43) (e:=25) (keys_str Tryz.underlying9) (by kernel_rfl) n1 s1
  have hrun2:(Instr.mapUpdate 43 (.map (some m)) (.string n1) (.slice s1.a s1.len s1.cap)).run Tryz.prog w1=.ok () w2:=hrun
  obtain⟨es,clk,hmb,_⟩:=h1.map
  have hbm:b ≠ m:=λe=>by
    have:=h1.blk
    rw[e,hmb]at this;cases this
  refine⟨w2,hrun2,hR _ _ ⟨rfl,s1,?_⟩⟩
  refine⟨h1.since.andNew hf2 λi hi=>by rw[show i=m from hi];exact h1.nm,h1.nb,h1.nm,hf2.blk h1.blk hbm,?_,λy hy=>?_⟩
  · rw[put_map1];exact hM2
  · rcases put_mem hy with hy|hy
    · exact⟨rd_map hmb hf2 (h1.rows y hy).1,(h1.rows y hy).2⟩
    · rw[hy];exact⟨rd_map hmb hf2 hrd,hts⟩
end Go.Proofs.YtjbfehippchniaaGreatDoor

/- Pre: Line, with definitions. No condition but those stated. -/
set_option maxRecDepth 100000
set_option linter.unusedVariables false
set_option linter.unusedSimpArgs false
namespace Go.Proofs.YtjbfehippchniaaGreatDoor
open Go.Sh Go.Sh.Lx Go.Sh.Pr Go.RowKit Go.Shelf
variable {w0 w w' : World}
def endL(o:List UInt8 × Int):List UInt8 × Int:=if o.2 ≠ 0 then([],o.2)else if 4000<(Lib.trimSuffix o.1 [10]).length then([],3)else(Lib.trimSuffix o.1 [10],0)
theorem suffix_c(l:List UInt8)(hl:l.length<=140737488355328)(w:World):Calls Tryz.prog 21 #[.string (bs l),.string (⟨#[10]⟩:ByteArray)] w λe w'=>e=.returned (.string (bs (Lib.trimSuffix l [10])))/\w'=w:=by
  refine(Any.strings_TrimSuffix Tryz.lays102 (bs l) ⟨#[10]⟩ w (by rw[bs_size];omega)).mono ?_
  rintro e w' ⟨rfl,rfl⟩
  rw[bs_list]
  exact⟨rfl,rfl⟩
theorem repG_len {f:ByteArray->Option (List Tok)}:∀(k:Nat) (l:List Ft),(∀x ∈ l,x.t.text.size<=5000)->l.length<=4100->(∀(l l':List Ft),(∀x ∈ l,x.t.text.size<=5000)->defS f l=some l'->∀x ∈ l',x.t.text.size<=5000)->(repG f k l).1.length<=30000000:=by
  intro k
  induction k with
  | zero=>
    intro l hl hn hf
    cases hd:defS f l with
    | none=>
      rw[repG_none hd]
      have:=join_up (tks l) λt ht=>by obtain⟨x,hx,rfl⟩:=List.mem_map.1 ht;exact hl x hx
      have htl:(tks l).length=l.length:=List.length_map _
      unfold lineT
      split
      · simp
      · rw[List.length_append,List.length_singleton];omega
    | some l'=>rw[repG_zero hd];simp
  | succ k ih=>
    intro l hl hn hf
    cases hd:defS f l with
    | none=>
      rw[repG_none hd]
      have:=join_up (tks l) λt ht=>by obtain⟨x,hx,rfl⟩:=List.mem_map.1 ht;exact hl x hx
      have htl:(tks l).length=l.length:=List.length_map _
      unfold lineT
      split
      · simp
      · rw[List.length_append,List.length_singleton];omega
    | some l'=>
      rw[repG_succ hd]
      split
      · simp
      · have hlo:=join_low (tks l')
        have htl:(tks l').length=l'.length:=List.length_map _
        exact ih l' (hf l l' hl hd) (by omega) hf
def OkD(D:Defs):Prop:=∀x ∈ D,x.2.2.length<=1200/\∀t ∈ x.2.2,okT t
theorem repS_len{D:Defs}(hD:OkD D)(d:List UInt8):(replS (dg D) d).1.length<=30000000:=by
  unfold replS
  cases ht:tokP d with
  | none=>simp
  | some ts=>
    have h1:=tokP_len ht
    refine repG_len 40 _ (λx hx=>?_) (by rw[List.length_map];omega) λl l' hl hd x hx=>?_
    · obtain⟨t,ht2,rfl⟩:=List.mem_map.1 hx
      exact(tokP_ok ht t ht2).2
    · -- out of the line, or out of a definition
      have key:∀(l l':List Ft),(∀x ∈ l,x.t.text.size<=5000)->defS (dg D) l=some l'->∀x ∈ l',x.t.text.size<=5000:=by
        intro l
        induction l with
        | nil=>intro l' _ h;cases h
        | cons y l ih=>
          intro l' hl h x hx
          unfold defS at h
          cases hy:defAt (dg D) y with
          | none=>
            rw[hy]at h
            obtain⟨m,hm,rfl⟩:=Option.map_eq_some_iff.1 h
            rcases List.mem_cons.1 hx with rfl|hx
            · exact hl x (List.mem_cons_self ..)
            · exact ih m (λz hz=>hl z (List.mem_cons_of_mem _ hz)) hm x hx
          | some dd=>
            rw[hy]at h
            dsimp only at h
            cases h
            rcases List.mem_append.1 hx with hx|hx
            · obtain⟨t,ht3,rfl⟩:=List.mem_map.1 hx
              unfold defAt at hy
              split at hy
              · cases hg:dg D y.t.text with
                | none=>rw[hg]at hy;cases hy
                | some d2=>
                  rw[hg]at hy
                  dsimp only at hy
                  split at hy
                  · cases hy
                  · cases hy
                    unfold dg at hg
                    cases hv:AL.get D y.t.text with
                    | none=>rw[hv]at hg;cases hg
                    | some v=>
                      rw[hv]at hg
                      cases hg
                      obtain⟨z,hz,e⟩:=al_mem hv
                      exact((hD z hz).2 t (by rw[e];exact ht3)).2
              · cases hy
            · exact hl x (List.mem_cons_of_mem _ hx)
      exact key l l' hl hd x hx
theorem line_end {R:Rt} {b m:Nat} {D:Defs} {ra:Option Addr} {rk:Nat} (hL:Laid w) (hS:Stm w0 w b m D (.slice ra 0 rk)) (hD:OkD D) (d:List UInt8) (hd:d.length<=140737488355328)
    (hR:∀w',Pu w0 w'->R (.returned (.tuple #[.string (bs (endL (replS (dg D) d)).1),.int .i64 (endL (replS (dg D) d)).2])) w'):F9_1 R (bs d) (some ⟨b,0,none⟩) [] w:=by
  refine(replaced_nil_c (ra:=ra) (rk:=rk) hL (Stm.sta (rs:=⟨ra,0,rk⟩) hS) hD d hd).mono ?_
  rintro e w1 ⟨hp1,rfl⟩
  have hP:=hS.since.trans hp1
  have hlen:=repS_len hD d
  refine⟨_,_,rfl,Br.of (λq=>?_) (λq=>?_)⟩
  · have q:=bntrue q
    have e1:endL (replS (dg D) d)=([],(replS (dg D) d).2):=by unfold endL;rw[if_pos q]
    rw[e1]at hR
    exact hR _ hP
  · have q:=bnfalse q
    refine(suffix_c _ (by omega) w1).mono ?_
    rintro e w2 ⟨rfl,rfl⟩
    refine⟨_,rfl,?_⟩
    rw[bs_size]
    refine Br.of (λq2=>?_) (λq2=>?_)
    · have q2:=dtrue q2
      have e1:endL (replS (dg D) d)=([],3):=by unfold endL;rw[if_neg (by simp[q]),if_pos (by omega)]
      rw[e1]at hR
      exact hR _ hP
    · have q2:=dfalse q2
      have e1:endL (replS (dg D) d)=(Lib.trimSuffix (replS (dg D) d).1 [10],0):=by unfold endL;rw[if_neg (by simp[q]),if_neg (by omega)]
      rw[e1]at hR
      exact hR _ hP
theorem defR_ok{x:List UInt8}{n:ByteArray}{ts:List Tok}(h:DefR x n ts):ts.length<=1200/\∀t ∈ ts,okT t:=by
  have hd:=h.def_
  unfold defD at hd
  cases ht:tokP (dirS x).2.1 with
  | none=>rw[ht]at hd;cases hd
  | some l=>
    rw[ht]at hd
    have hl:=tokP_len ht
    have ho:=tokP_ok ht
    cases l with
    | nil=>cases hd
    | cons t l=>
      dsimp only at hd
      split at hd
      · cases hd
        rw[List.length_cons]at hl
        exact⟨by omega,λt ht=>ho t (List.mem_cons_of_mem _ ht)⟩
      · cases hd
def putR (D:Dfs) (x:List UInt8 × (ByteArray × List Tok)):Dfs:=AL.put D x.2.1 x.2.2
theorem line_defs_c (hL:Laid w0) {s:SV} (xs:List (List UInt8 × (ByteArray × List Tok))) (hs:RdSl w0 s (xs.map λx=>bs x.1)) (hx:∀x ∈ xs,DefR x.1 x.2.1 x.2.2) (d:List UInt8) (hd:d.length<=140737488355328) :
    Calls Tryz.prog 9 #[.string (bs d),.slice s.a s.len s.cap] w0 λe w'=>e=.returned (.tuple #[.string (bs (endL (replS (AL.get (xs.foldl putR [])) d)).1),.int .i64 (endL (replS (AL.get (xs.foldl putR [])) d)).2])/\Pu w0 w':=by
  have hsl:=hs.len
  rw[List.length_map]at hsl
  have hlim:=hs.lim
  refine calls_by (F9_calls _ _ w0) λR hR=>alE_intro λw1 hw1=>alE_intro λw2 hw2=>?_
  have hp1:Pu w0 w1:=by rw[hw1];exact Pu.alloc _ _
  have hp2:Pu w1 w2:=by rw[hw2];exact Pu.alloc _ _
  have hM:Go.Sh.MapAt w1 ekS slV w0.heap.size ([]:List (ByteArray × SV)):=by rw[hw1];exact Go.Sh.MapAt.new w0 ekS slV
  have hS2:Stm w0 w2 w1.heap.size w0.heap.size [] (.slice none 0 0):=⟨hp1.trans hp2,hp1.size,Nat.le_refl _,by rw[hw2];exact alloc_new _ _,hM.pu hp2,λx hx=>by cases hx⟩
  have hcell:∀{w:World},Pu w0 w->∀{k:Nat} {x:List UInt8 × (ByteArray × List Tok)},xs[k]?=some x->∃a,s.a=some a/\(0:Int)<=(k:Int)/\(k:Int)<((s.len:Nat):Int)/\w.cell? (a.add (((k:Int)).toNat * 1))=some (.string (bs x.1)):=λ{w} hp {k x} hk=>
    RdSl.wd (hs.pu hp) (i:=k) (x:=bs x.1) (by rw[List.getElem?_map,hk];rfl)
  refine loopUp xs.length (λk n w'=>n=(k:Int)/\Stm w0 w' w1.heap.size w0.heap.size [] (.slice none 0 0)) ⟨rfl,hS2⟩ ?_
  rintro k J n w3 hk ⟨rfl,hS3⟩ hJ
  refine Br.of (λq=>?_) (λq=>?_)
  · have q:=dtrue q
    obtain⟨x,hxk⟩:=at_k (l:=xs) (k:=k) (by omega)
    have hxR:=hx x (List.mem_of_getElem? hxk)
    obtain⟨a,ha,h1,h2,hc⟩:=hcell hS3.since hxk
    refine⟨a,ha,h1,h2,_,hc,(check_def_c (hL.pu hS3.since) hxR).mono ?_⟩
    rintro e w4 ⟨rfl,hp4⟩
    refine⟨_,rfl,Br.f rfl ?_⟩
    rw[wrap_in (by omega) (by omega)]
    exact hJ _ _ (by omega) ⟨rfl,hS3.pu hp4⟩
  · refine loopUp xs.length (λk n w'=>n=(k:Int)/\∃D,Stm w0 w' w1.heap.size w0.heap.size D (.slice none 0 0)/\OkD D/\dfs D=(xs.take k).foldl putR []) ⟨rfl,[],hS3,(λx hx=>by cases hx),rfl⟩ ?_
    rintro k J2 n w4 hk ⟨rfl,D,hS4,hD,he⟩ hJ2
    refine Br.of (λq2=>?_) (λq2=>?_)
    · have q2:=dtrue q2
      obtain⟨x,hxk⟩:=at_k (l:=xs) (k:=k) (by omega)
      have hxR:=hx x (List.mem_of_getElem? hxk)
      have hlen:=hxR.len
      obtain⟨a,ha,h1,h2,hc⟩:=hcell hS4.since hxk
      refine⟨a,ha,h1,h2,_,hc,(dir_c (hL.pu hS4.since) x.1 (by omega)).mono ?_⟩
      rintro e w5 ⟨rfl,hp5⟩
      have hS5:=hS4.pu hp5
      refine⟨_,_,_,rfl,(learn_def_c (hL.pu hS5.since) hS5 hxR).mono ?_⟩
      rintro e w6 ⟨rfl,s6,hS6⟩
      refine⟨_,rfl,Br.f rfl ?_⟩
      rw[wrap_in (by omega) (by omega)]
      refine hJ2 _ _ (by omega) ⟨rfl,_,hS6,λy hy=>?_,?_⟩
      · rcases put_mem hy with hy|hy
        · exact hD y hy
        · rw[hy];exact defR_ok hxR
      · rw[put_map2,take_at hxk,List.foldl_append,←he];rfl
    · have q2:=dfalse q2
      obtain rfl:k=xs.length:=by omega
      rw[List.take_length]at he
      have hf:dg D=AL.get (xs.foldl putR []):=by funext k;rw[dg_dfs,he]
      refine line_end (hL.pu hS4.since) hS4 hD d hd λw5 hp5=>?_
      rw[hf]
      exact hR _ _ ⟨rfl,hp5⟩
end Go.Proofs.YtjbfehippchniaaGreatDoor

/- Pre: a name that is defined as itself changes nothing: the plain law. No condition. -/
set_option maxRecDepth 100000
set_option linter.unusedVariables false
set_option linter.unusedSimpArgs false
namespace Go.Proofs.YtjbfehippchniaaGreatDoor
open Go.Sh Go.Sh.Lx Go.Sh.Pr Go.RowKit Go.Shelf
def slf(n:ByteArray):ByteArray->Option (List Tok):=AL.get [(n,[⟨0,0,n⟩])]
def todo(n:ByteArray)(l:List Ft):Nat:=l.countP λx=>(defAt (slf n) x).isSome
end Go.Proofs.YtjbfehippchniaaGreatDoor

/- Pre: PreUndone's law, but for the facts that are known. No condition but those stated. -/
set_option maxRecDepth 100000
set_option linter.unusedVariables false
set_option linter.unusedSimpArgs false
namespace Go.Proofs.YtjbfehippchniaaGreatDoor
open Go.Sh Go.Sh.Lx Go.Sh.Pr Go.RowKit Go.Shelf
variable {w0 w w' : World}
end Go.Proofs.YtjbfehippchniaaGreatDoor
