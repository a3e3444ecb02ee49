import Derived.Test.YtjbfehippchniaaGreatDoorShThirteen
/- Slices that own their row of cells: made, appended to, written. For every program. -/
set_option linter.unusedSectionVars false
set_option linter.unusedSimpArgs false
namespace Go.Sh
open Go.RowKit
variable {P : Program}
def blkOf(s:SV):List Nat:=match s.a with
  | some a=>[a.block]
  | none=>[]
/-- A slice that owns its row of cells. -/
def RowAt(w:World)(e:TypeId)(sz:Nat)(s:SV)(vs:List Value):Prop:=
  vs.length=s.len * sz ∧ (s=⟨none,0,0⟩∨∃g cur,s.a=some ⟨g,0,none⟩ ∧ w.heap[g]?=some (.cells cur e) ∧ s.len ≤ s.cap ∧ s.cap ≤ maxLen ∧ cur.size=s.cap * sz ∧ cur.toList.take (s.len * sz)=vs)
variable {w w' : World} {e : TypeId} {sz : Nat} {s : SV} {vs : List Value}
theorem RowAt.nil(w:World)(e:TypeId)(sz:Nat):RowAt w e sz ⟨none,0,0⟩ []:=⟨by simp,.inl rfl⟩
theorem RowAt.owns(h:RowAt w e sz s vs):w.ownsRow 0 e sz (.slice s.a s.len s.cap) s.len vs:=by
  obtain⟨h1,rfl|⟨g,cur,h3,h4,h5,h6,h7,h8⟩⟩:=h
  · exact⟨h1,.inl ⟨rfl,rfl⟩⟩
  · exact⟨h1,.inr ⟨g,s.cap,cur,by rw[h3],Nat.zero_le _,h4,h5,h6,h7,h8⟩⟩
theorem RowAt.fr{B:Nat → Prop}(h:RowAt w e sz s vs)(hf:Fr B w w')(hn:∀k ∈ blkOf s,¬B k):RowAt w' e sz s vs:=by
  obtain⟨h1,h2|⟨g,cur,h3,h4,h5⟩⟩:=h
  · exact⟨h1,.inl h2⟩
  · exact⟨h1,.inr ⟨g,cur,h3,hf.blk h4 (hn g (by simp[blkOf,h3])),h5⟩⟩
theorem RowAt.pu(h:RowAt w e sz s vs)(hp:Pu w w'):RowAt w' e sz s vs:=h.fr (Fr.pu hp:Fr (λ_=>False) w w') λ_ _ h=>h
theorem RowAt.lt(h:RowAt w e sz s vs):∀k ∈ blkOf s,k<w.heap.size:=λk hk=>by
  obtain⟨h1,rfl|⟨g,cur,h3,h4,_⟩⟩:=h
  · simp[blkOf]at hk
  · simp[blkOf,h3]at hk;subst hk;exact blk_lt h4
theorem RowAt.le_cap(h:RowAt w e sz s vs):s.len ≤ s.cap ∧ s.cap ≤ maxLen:=by
  obtain⟨h1,rfl|⟨g,cur,h3,h4,h5,h6,_⟩⟩:=h
  · simp[maxLen]
  · exact⟨h5,h6⟩
/-- A cell of it. -/
theorem RowAt.cell (h:RowAt w e sz s vs) {j:Nat} {v:Value} (hv:vs[j]?=some v):∃a,s.a=some a ∧ w.cell? (a.add j)=some v ∧ a.block ∈ blkOf s:=by
  obtain⟨h1,rfl|⟨g,cur,h3,h4,h5,h6,h7,h8⟩⟩:=h
  · have:=(List.getElem?_eq_some_iff.1 hv).1;simp at h1;simp[h1]at this
  · refine⟨_,h3,?_,by simp[blkOf,h3]⟩
    rw[add_def,cell_blk h4,Nat.zero_add]
    rw[←h8,List.getElem?_take]at hv
    split at hv
    · simpa using hv
    · cases hv
theorem RowAt.base (h:RowAt w e sz s vs) (hne:vs ≠ []):∃g,s.a=some ⟨g,0,none⟩ ∧ (∀(j:Nat) (v:Value),vs[j]?=some v → w.cell? ⟨g,j,none⟩=some v) ∧ g ∈ blkOf s:=by
  obtain⟨h1,rfl|⟨g,cur,h3,h4,h5,h6,h7,h8⟩⟩:=h
  · exact absurd (List.eq_nil_of_length_eq_zero (by simpa using h1)) hne
  · refine⟨g,h3,λj v hv=>?_,by simp[blkOf,h3]⟩
    rw[cell_blk h4]
    rw[←h8,List.getElem?_take]at hv
    split at hv
    · simpa using hv
    · cases hv
/-- A cell of it is set. -/
theorem RowAt.st1 (h:RowAt w e sz s vs) {j:Nat} (hj:j<vs.length) (v:Value) {K:World → Prop} (hK:∀w',RowAt w' e sz s (vs.set j v) → Fr (· ∈ blkOf s) w w' → w'.heap.size=w.heap.size → K w') :
    ∃a,s.a=some a ∧ Sh.st1 (a.add j) v w K:=by
  obtain⟨h1,rfl|⟨g,cur,h3,h4,h5,h6,h7,h8⟩⟩:=h
  · simp at h1;simp[h1]at hj
  · refine⟨_,h3,?_⟩
    rw[add_def,Nat.zero_add]
    have hjl:j<s.len * sz:=by omega
    have hjc:j<cur.size:=by rw[h7];exact Nat.lt_of_lt_of_le hjl (Nat.mul_le_mul_right _ h5)
    refine st1_intro h4 hjc λw1 hw1 hb1=>hK w1 ⟨by simp[h1],.inr ⟨g,_,h3,hb1,h5,h6,by simp[h7],?_⟩⟩ ?_ (by rw[hw1];simp)
    · rw[Array.toList_setIfInBounds,List.take_set,h8]
    · rw[hw1]
      exact(Fr.setCell w ⟨g,j,none⟩ v).mono λi hi _=>by simp[blkOf,h3,show i=g from hi]
theorem Fr.cell(w:World)(b o:Nat)(v:Value):Fr (·=b) w (w.setCell ⟨b,o,none⟩ v):=Fr.setCell w ⟨b,o,none⟩ v
theorem Pu.andNew{B:Nat → Prop}{a b c:World}(h:Pu a b)(k:Fr B b c)(hB:∀i,B i → a.heap.size ≤ i):Pu a c:=((Fr.pu h:Fr B a b).trans k λ_ hi _=>hi).toPu hB
theorem MapAt.pu {κ ν:Type} [DecidableEq κ] {ek:κ → Value} {ev:ν → Value} {w w':World} {b:Nat} {l:List (κ × ν)} (h:MapAt w ek ev b l) (hp:Pu w w'):MapAt w' ek ev b l:=h.fr (Fr.pu hp:Fr (λ_=>False) w w') λh=>h
theorem dtrue{p:Prop}[Decidable p](h:decide p=true):p:=of_decide_eq_true h
theorem dfalse{p:Prop}[Decidable p](h:decide p=false):¬p:=of_decide_eq_false h
/-- Appending some. -/
theorem row_append {t ty:TypeId} {i:TypeInfo} {z:Value} (ht:P.underlying t=some (.slice e)) (hi:P.info? e=some i) (hz:i.zero=some z) (hsize:i.size=sz) (hzs:z.cells.size=sz) (hsz:0<sz)
    (h:RowAt w e sz s vs) {a:Addr} {m c:Nat} {news:List Value} (hl:news.length=m * sz) (hnews:∀j u,news[j]?=some u → w.cell? (a.add j)=some u) (h1:∀u ∈ news,u.oneCell'=true)
    (hb:(s.len+m) * (i.bytes+1) ≤ 140737488355328) :
    ∃(s':SV) (w':World),(Builtin.append_ #[t,t] ty #[.slice s.a s.len s.cap,.slice (some a) m c]).run P w=.ok (.slice s'.a s'.len s'.cap) w' ∧ RowAt w' e sz s' (vs ++ news) ∧ Fr (· ∈ blkOf s) w w' ∧ (∀k ∈ blkOf s',k ∈ blkOf s∨w.heap.size ≤ k) ∧ s'.len=s.len+m:=by
  subst hsize
  have hbm:(s.len+m) * i.bytes ≤ 140737488355328 ∧ s.len+m ≤ 140737488355328:=by
    rw[Nat.mul_add]at hb;omega
  have hmx:s.len+m ≤ maxLen:=by unfold maxLen;omega
  have hlen:(vs ++ news).length=(s.len+m) * i.size:=by rw[List.length_append,h.1,hl,Nat.add_mul]
  have grown:∀(old:Nat),old<s.len+m →
      RowAt (w.drew.alloc (.cells (vs.toArray ++ news.toArray ++ Builtin.zeroCells z.cells (grownCap w (s.len+m) old e - (s.len+m))) e)) e i.size
        ⟨some ⟨w.heap.size,0,none⟩,s.len+m,grownCap w (s.len+m) old e⟩ (vs ++ news):=by
    intro old ho
    have hge:=grownCap_ge w (s.len+m) old e
    have hcm:grownCap w (s.len+m) old e ≤ maxLen:=grownCap_le_maxLen w (s.len+m) old e hmx
    refine⟨hlen,.inr ⟨w.heap.size,_,rfl,heap_alloc_new w.drew _,hge,hcm,?_,?_⟩⟩
    · simp only[Array.size_append,List.size_toArray,size_zeroCells,hzs,h.1,hl,←Nat.add_mul]
      congr 1
      omega
    · simp only[Array.toList_append,List.append_assoc]
      rw[←List.append_assoc,←hlen]
      exact List.take_left
  have hfr:∀o,Fr (· ∈ blkOf s) w (w.drew.alloc o):=λo=>(Fr.drew w).trans (Fr.alloc w.drew o) λi hi _=>hi
  obtain⟨hv,hc|⟨g,cur,h3,h4,h5,h6,h7,h8⟩⟩:=h
  · subst hc
    have hx:vs=[]:=List.eq_nil_of_length_eq_zero (by simpa using hv)
    subst hx
    by_cases hm:m=0
    · subst hm
      have hn:news=[]:=List.eq_nil_of_length_eq_zero (by simpa using hl)
      subst hn
      refine⟨⟨none,0,0⟩,w,?_,RowAt.nil w e _,Fr.refl _ _,by simp[blkOf],rfl⟩
      simp[Builtin.append_,run_underlying ht,sizeOf,typeInfo,hi,Builtin.lenOf,Builtin.firstCells,loadCells,loadCellsFrom]
    · have hr:=run_append_nil (P:=P) w t ty e i z ht hi hz a m c news hl hnews (by omega) (by omega) (by have:=hbm.1;simp only[Nat.zero_add]at this;omega)
      have hgr:=grown 0 (by show 0<0+m;omega)
      simp only[Nat.zero_add,List.nil_append,Array.empty_append]at hgr ⊢
      exact⟨⟨some ⟨w.heap.size,0,none⟩,m,grownCap w m 0 e⟩,_,hr,hgr,hfr _,λk hk=>by simp[blkOf]at hk;omega,rfl⟩
  · by_cases hroom:s.len+m ≤ s.cap
    · have hfit:s.len * i.size+news.length ≤ cur.size:=by rw[hl,h7,←Nat.add_mul];exact Nat.mul_le_mul_right _ hroom
      have hr:=run_append_room (P:=P) w t ty e i ht hi g s.len s.cap cur h4 a m c news hl hnews h1 hroom hfit
      refine⟨⟨some ⟨g,0,none⟩,s.len+m,s.cap⟩,_,by rw[h3];exact hr,⟨hlen,.inr ⟨g,_,rfl,setRow_heap w g cur _ e _ h4,hroom,h6,?_,?_⟩⟩,⟨rfl,rfl,rfl,by simp,λk _ hk=>setRow_other w g k _ (λe=>hk (by simp[blkOf,h3,e]))⟩,λk hk=>.inl (by simpa[blkOf,h3] using hk),rfl⟩
      · simp only[List.size_toArray,List.length_append,List.length_take,List.length_drop,Array.length_toList]
        omega
      · show List.take ((s.len+m) * i.size) _=_
        rw[←hlen,h8]
        exact List.take_left
    · have holds:∀j u,vs[j]?=some u → w.cell? ((⟨g,0,none⟩:Addr).add j)=some u:=λj u hu=>by
        obtain⟨a',ha',hc',_⟩:=RowAt.cell (w:=w) (s:=s) ⟨hv,.inr ⟨g,cur,h3,h4,h5,h6,h7,h8⟩⟩ hu
        rw[h3]at ha';cases ha';exact hc'
      have hr:=run_append_grow (P:=P) w t ty e i z ht hi hz ⟨g,0,none⟩ s.len s.cap vs hv holds a m c news hl hnews (by omega) (by omega) (growslice_fits (by omega) hbm.1)
      exact⟨⟨some ⟨w.heap.size,0,none⟩,s.len+m,grownCap w (s.len+m) s.cap e⟩,_,by rw[h3];exact hr,grown s.cap (by omega),hfr _,λk hk=>by simp[blkOf]at hk;omega,rfl⟩
theorem row_make {t:TypeId} {i:TypeInfo} {z:Value} (ht:P.underlying t=some (.slice e)) (hi:P.info? e=some i) (hz:i.zero=some z) (hsize:i.size=sz) (kl kc:IntKind) (n:Nat) (hb:i.bytes * n ≤ 281474976710656) (h63:n ≤ 140737488355328) :
    ∃w',(Instr.makeSlice t (.int kl n) (.int kc n)).run P w=.ok (.slice (some ⟨w.heap.size,0,none⟩) n n) w' ∧ RowAt w' e sz ⟨some ⟨w.heap.size,0,none⟩,n,n⟩ (madeCells z.cells (n * sz)).toList ∧ Pu w w' ∧ w'.heap.size=w.heap.size+1:=by
  subst hsize
  have hb':(i.bytes:Int) * (n:Int) ≤ 281474976710656:=by
    have h:((i.bytes * n:Nat):Int) ≤ 281474976710656:=by omega
    rwa [Int.natCast_mul]at h
  have hr:=run_make (P:=P) w t e i z ht hi hz kl kc n n (by omega) (Int.le_refl _) hb' (by omega)
  simp only[Int.toNat_natCast]at hr
  refine⟨_,hr,⟨by simp[size_madeCells],.inr ⟨_,_,rfl,alloc_new w _,Nat.le_refl _,by show n ≤ maxLen;unfold maxLen;omega,size_madeCells _ _,?_⟩⟩,Pu.alloc w _,by simp⟩
  show List.take (n * i.size) _=_
  rw[List.take_of_length_le (by simp[size_madeCells])]
theorem ptrE_some(a:Addr)(K:Addr → Prop):ptrE (some a) K=K a:=rfl
/-- A variable that is there is filled. -/
theorem stA_fill {t e:TypeId} {b:Nat} {c vs:Array Value} {K:World → Prop} (hb:w.heap[b]?=some (.cells c e)) (hs:vs.size=sizeB P t) (hc:c.size=vs.size) (ho:vs.toList.all oneC=true)
    (h:∀w',w'.heap[b]?=some (.cells vs e) → Fr (·=b) w w' → w'.heap.size=w.heap.size → K w'):stA P t ⟨b,0,none⟩ vs w K:=by
  refine⟨hs,ho,stL_fill vs.toList 0 c w _ hb (by simp[hc]) λw' h1 h2 h3 h4 h5 h6=>h w' (by rw[h1];simp) ⟨h4,h5,h6,by rw[h2];exact Nat.le_refl _,λk _ hk=>h3 k hk⟩ h2⟩
end Go.Sh
