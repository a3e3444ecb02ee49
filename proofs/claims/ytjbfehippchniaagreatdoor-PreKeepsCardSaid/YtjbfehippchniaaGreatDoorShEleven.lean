import Derived.Test.YtjbfehippchniaaGreatDoorShTen
/- Ranging over a map that is an association list; keys that are strings or numbers. For every program. -/
set_option linter.unusedSectionVars false
set_option linter.unusedSimpArgs false
namespace Go.Sh
open Go.RowKit
open Go.ChangeMaps (setBlock)
variable {P : Program}
/-- A loop in whose every round a number falls. -/
theorem loopDown {σ:Type} {F:(σ → World → Prop) → σ → World → Prop} {s:σ} {w:World} (n:Nat) (I:Nat → σ → World → Prop) (h0:I n s w)
    (hstep:∀(n:Nat) (J:σ → World → Prop) s w,I n s w → (∀m s' w',m<n → I m s' w' → J s' w') → F J s w):loopT F s w:=λJ hJ=>by
  have key:∀n s w,I n s w → J s w:=by
    intro n
    induction n using Nat.strongRecOn with
    | _ n ih=>exact λs w hI=>hJ s w (hstep n J s w hI λm s' w' hlt hI'=>ih m hlt s' w' hI')
  exact key n s w h0
section
variable {κ ν : Type} [DecidableEq κ] {ek : κ → Value} {ev : ν → Value}
theorem Keys.inj{kt:TypeId}(K:Keys P kt ek){x y:κ}(h:ek x=ek y):x=y:=by
  obtain⟨d,hd,hs|⟨_,hs⟩⟩:=K.und
  · have h1:=hs x x;have h2:=hs x y
    rw[←h,h1]at h2
    simpa using h2.symm
  · have h1:=hs x x default;have h2:=hs x y default
    rw[←h,h1]at h2
    simpa using h2.symm
theorem Ents.pick {L:List MapEntry} {l:List (κ × ν)} (h:Ents ek ev L l) (hb:(L.map (·.born)).Nodup) (hn:(l.map Prod.fst).Nodup) {e:MapEntry} (he:e ∈ L) :
    ∃p ∈ l,e.key=ek p.1 ∧ e.val=ev p.2 ∧ Ents ek ev (L.filter λx=>!(x.born == e.born)) (AL.del l p.1):=by
  induction L generalizing l with
  | nil=>cases he
  | cons a L ih=>cases l with
    | nil=>exact h.elim
    | cons p l=>
      simp only[List.map_cons,List.nodup_cons]at hb hn
      rcases List.mem_cons.1 he with rfl|he
      · refine⟨p,by simp,h.1,h.2.1,?_⟩
        obtain⟨k,v⟩:=p
        simp only[AL.del,if_true,List.filter_cons,beq_self_eq_true,Bool.not_true,Bool.false_eq_true,if_false]
        rw[List.filter_eq_self.2 λx hx=>?_]
        · exact h.2.2
        · have:x.born ≠ e.born:=λh'=>hb.1 (List.mem_map.2 ⟨x,hx,h'⟩)
          simp[this]
      · obtain⟨q,hq,h1,h2,h3⟩:=ih h.2.2 hb.2 hn.2 he
        refine⟨q,List.mem_cons_of_mem _ hq,h1,h2,?_⟩
        have hne:a.born ≠ e.born:=λh'=>hb.1 (List.mem_map.2 ⟨e,he,h'.symm⟩)
        have hk:p.1 ≠ q.1:=λh'=>hn.1 (h' ▸ List.mem_map.2 ⟨q,hq,rfl⟩)
        obtain⟨k,v⟩:=p
        simp only[AL.del,if_neg hk,List.filter_cons,show(a.born == e.born)=false by simpa using hne,Bool.not_false,if_true]
        exact⟨h.1,h.2.1,h3⟩
/-- Block r ranges over the map of block b; what is left to come. -/
def IterAt (w:World) (ek:κ → Value) (ev:ν → Value) (r b:Nat) (l todo:List (κ × ν)):Prop:=
  ∃es clk since seen c0,w.heap[r]?=some (.mapIter (some b) since seen c0) ∧ w.heap[b]?=some (.map es clk) ∧ (since ≤ c0 ∧ since ≤ clk) ∧ (∀e ∈ es.toList,e.born<since) ∧ Ents ek ev es.toList l ∧ Ents ek ev (leftOf es seen).toList todo ∧
    (es.toList.map (·.born)).Pairwise (· < ·) ∧ (∀e ∈ es.toList,e.born<clk) ∧ (l.map Prod.fst).Nodup ∧ (todo.map Prod.fst).Nodup
theorem IterAt.map {w:World} {r b:Nat} {l todo:List (κ × ν)} (h:IterAt w ek ev r b l todo):MapAt w ek ev b l:=
  let ⟨es,clk,_,_,_,_,h2,_,_,h5,_,h7,h8,h9,_⟩:=h;⟨es,clk,h2,h5,h7,h8,h9⟩
theorem IterAt.ne {w:World} {r b:Nat} {l todo:List (κ × ν)} (h:IterAt w ek ev r b l todo):r ≠ b:=λe=>by
  obtain⟨_,_,_,_,_,h1,h2,_⟩:=h
  rw[e,h2]at h1;cases h1
theorem IterAt.fr {B:Nat → Prop} {w w':World} {r b:Nat} {l todo:List (κ × ν)} (h:IterAt w ek ev r b l todo) (hf:Fr B w w') (hr:¬B r) (hb:¬B b):IterAt w' ek ev r b l todo:=
  let ⟨es,clk,since,seen,c0,h1,h2,h3⟩:=h;⟨es,clk,since,seen,c0,hf.blk h1 hr,hf.blk h2 hb,h3⟩
theorem MapAt.range {w:World} {b:Nat} {l:List (κ × ν)} (h:MapAt w ek ev b l) {t kt e:TypeId} (ht:P.underlying t=some (.map kt e)) :
    ∃w',(Instr.range t (.map (some b))).run P w=.ok (.pointer (some ⟨w.heap.size,0,none⟩)) w' ∧ IterAt w' ek ev w.heap.size b l l ∧ Pu w w' ∧ w'.heap.size=w.heap.size+1:=by
  obtain⟨es,clk,hb,hE,hp,hc,hn⟩:=h
  refine⟨_,run_range_map w t kt e b es clk ht hb,⟨es,clk,clk,#[],clk,alloc_new w _,?_,⟨Nat.le_refl _,Nat.le_refl _⟩,hc,hE,?_,hp,hc,hn,hn⟩,Pu.alloc w _,by simp⟩
  · exact(Pu.alloc w _).blk hb
  · have:leftOf es #[]=es:=by unfold leftOf;simp
    rw[this];exact hE
/-- The next step of a range, and what it hands out. -/
theorem IterAt.next {w:World} {r b:Nat} {l todo:List (κ × ν)} (h:IterAt w ek ev r b l todo) (ty:TypeId) :
    (todo=[] ∧ (Instr.next (.pointer (some ⟨r,0,none⟩)) false ty).run P w=.ok (.tuple #[.bool false]) w) ∨
    ∃p ∈ todo,∃w',(Instr.next (.pointer (some ⟨r,0,none⟩)) false ty).run P w=.ok (.tuple #[.bool true,ek p.1,ev p.2]) w' ∧ Fr (·=r) w w' ∧ w'.heap.size=w.heap.size ∧
      IterAt w' ek ev r b l (AL.del todo p.1) ∧ (Instr.entry (.pointer (some ⟨r,0,none⟩))).run P w'=.ok (.tuple #[ek p.1,ev p.2]) w':=by
  have hne:=h.ne
  obtain⟨es,clk,since,seen,c0,hr,hb,hsc,hold,hE,hL,hp,hc,hn,hnt⟩:=h
  have hnod:(es.toList.map (·.born)).Nodup:=hp.imp λh=>Nat.ne_of_lt h
  rcases run_next_at (P:=P) w ty r b since c0 seen es clk hr hb hold hsc.1 with⟨h0,hrun⟩|⟨e,he,w1,hw1,hrun⟩
  · left
    refine⟨?_,hrun⟩
    have:=hL.length
    rw[Array.length_toList,h0]at this
    exact List.eq_nil_of_length_eq_zero this.symm
  · right
    have hleft:(leftOf es seen).toList=es.toList.filter λe=>!seen.contains e.born:=by unfold leftOf;simp
    have hsub:((leftOf es seen).toList.map (·.born)).Nodup:=by rw[hleft];exact hnod.sublist ((List.filter_sublist).map _)
    obtain⟨p,hp',h1,h2,h3⟩:=hL.pick hsub hnt he
    rw[h1,h2]at hrun
    have hf1:Fr (·=r) w w1:=by
      rcases hw1 with rfl|rfl
      · exact Fr.refl _ _
      · exact Fr.drew w
    have hs1:w1.heap.size=w.heap.size:=by rcases hw1 with rfl|rfl <;> rfl
    have hr1:w1.heap[r]?=some (.mapIter (some b) since seen c0):=by rcases hw1 with rfl|rfl <;> exact hr
    have hb1:w1.heap[b]?=some (.map es clk):=by rcases hw1 with rfl|rfl <;> exact hb
    have hrw:(setBlock w1 r (.mapIter (some b) since (seen.push e.born) clk)).heap[r]?=some (.mapIter (some b) since (seen.push e.born) clk):=by
      simp[ChangeMaps.setBlock,blk_lt hr1]
    have hbw:(setBlock w1 r (.mapIter (some b) since (seen.push e.born) clk)).heap[b]?=some (.map es clk):=(Fr.setBlock w1 r _).blk hb1 (Ne.symm hne)
    have hees:e ∈ es.toList:=(List.mem_filter.1 (hleft ▸ he)).1
    refine⟨p,hp',_,hrun,hf1.trans (Fr.setBlock w1 r _) (λi hi _=>hi),by simp[ChangeMaps.setBlock,hs1],⟨es,clk,since,seen.push e.born,clk,hrw,hbw,⟨hsc.2,hsc.2⟩,hold,hE,?_,hp,hc,hn,AL.nodup_del hnt _⟩,?_⟩
    · have:(leftOf es (seen.push e.born)).toList=(leftOf es seen).toList.filter λx=>!(x.born == e.born):=by
        rw[hleft];unfold leftOf
        simp only[Array.toList_filter,List.filter_filter]
        congr 1
        funext x
        rw[contains_push]
        cases seen.contains x.born <;> cases (x.born == e.born) <;> rfl
      rw[this];exact h3
    · have:=run_entry_at (P:=P) (setBlock w1 r (.mapIter (some b) since (seen.push e.born) clk)) r b since seen es clk e hrw hbw hees hnod
      rw[h1,h2]at this;exact this
theorem filter_modify {α:Type} (p:α → Bool) (f:α → α) (hf:∀x,p (f x)=p x):∀(l:List α) (i:Nat) (e:α),l[i]?=some e → p e=false → (l.modify i f).filter p=l.filter p
  | [],i,e,h,_=>by simp at h
  | a :: l,0,e,h,he=>by
    simp at h;subst h
    simp[List.filter_cons,hf,he]
  | a :: l,i+1,e,h,he=>by
    simp only[List.modify_succ_cons,List.filter_cons,filter_modify p f hf l i e (by simpa using h) he]
theorem filter_eraseIdx{α:Type}(p:α → Bool):∀(l:List α) (i:Nat) (e:α),l[i]?=some e → p e=false → (l.eraseIdx i).filter p=l.filter p
  | [],i,e,h,_=>by simp at h
  | a :: l,0,e,h,he=>by
    simp at h;subst h
    simp[List.filter_cons,he]
  | a :: l,i+1,e,h,he=>by
    simp only[List.eraseIdx_cons_succ,List.filter_cons,filter_eraseIdx p l i e (by simpa using h) he]
theorem left_mem {es:Array MapEntry} {seen:Array Nat} {todo:List (κ × ν)} (hL:Ents ek ev (leftOf es seen).toList todo) (hinj:∀x y:κ,ek x=ek y → x=y) {i:Nat} {e:MapEntry} {x:κ} (hi:es.toList[i]?=some e) (hk:e.key=ek x) (hx:x ∉ todo.map Prod.fst) :
    (!seen.contains e.born)=false:=by
  cases hs:seen.contains e.born with
  | true=>rfl
  | false=>
    have:e ∈ (leftOf es seen).toList:=by
      unfold leftOf
      simp only[Array.toList_filter,List.mem_filter]
      exact⟨List.mem_of_getElem? hi,by rw[hs];rfl⟩
    obtain⟨k,v,h1,_,h3⟩:=hL.mem this
    exact absurd (List.mem_map.2 ⟨(k,v),h3,(hinj _ _ (hk.symm.trans h1)).symm⟩) hx
/-- In a round: the value of a key that was handed out is set. -/
theorem IterAt.upd {w:World} {r b:Nat} {l todo:List (κ × ν)} (h:IterAt w ek ev r b l todo) {kt t e:TypeId} (K:Keys P kt ek) (ht:P.underlying t=some (.map kt e)) {x:κ} (hx:x ∉ todo.map Prod.fst) (hl:x ∈ l.map Prod.fst) (v:ν) :
    ∃w',(Instr.mapUpdate t (.map (some b)) (ek x) (ev v)).run P w=.ok () w' ∧ IterAt w' ek ev r b (AL.put l x v) todo ∧ Fr (·=b) w w' ∧ w'.heap.size=w.heap.size:=by
  have hne:=h.ne
  obtain⟨es,clk,since,seen,c0,hr0,hb,hsc,hold,hE,hL,hp,hc,hnd,hnt⟩:=h
  obtain⟨r',hr',hf⟩:=K.find x w hE
  unfold Instr.mapUpdate
  simp only[Sem.run_bind,run_under ht,Result.andThen_ok,run_getB hb,Sem.run_pure,K.chk,hr']
  rcases hf with⟨rfl,hg⟩|⟨i,e',v0,rfl,hi,hk,hg,hm,_⟩
  · exact absurd hl (AL.get_none.1 hg)
  · have hkk:(Instr.keyThatStays (((es[0+i]?).map (·.key)).getD (ek x)) (ek x)).run P w=.ok (ek x) w:=by
      have:es[0+i]?=some e':=by simpa using hi
      rw[this];simp only[Option.map_some,Option.getD_some,hk]
      unfold Instr.keyThatStays;simp[K.bits]
    simp only[Sem.run_bind,hkk,Result.andThen_ok]
    have hb2:((es.modify (0+i) λe=>{ e with key:=ek x,val:=ev v }).toList.map (·.born))=es.toList.map (·.born):=by
      rw[Array.toList_modify]
      apply List.ext_getElem?
      intro j
      simp only[List.getElem?_map,List.getElem?_modify]
      cases es.toList[j]? with
      | none=>rfl
      | some q=>
        simp only[Option.map_some]
        split <;> simp
    have hbn:∀q ∈ (es.modify (0+i) λe=>{ e with key:=ek x,val:=ev v }).toList,∃q' ∈ es.toList,q'.born=q.born:=λq hq=>by
      have:q.born ∈ (es.toList.map (·.born)):=by rw[←hb2];exact List.mem_map.2 ⟨q,hq,rfl⟩
      obtain⟨q',h1,h2⟩:=List.mem_map.1 this
      exact⟨q',h1,h2⟩
    refine⟨_,run_setObj hb,⟨_,_,since,seen,c0,(Fr.setBlock w b _).blk hr0 hne,setBlock_at hb,hsc,?_,?_,?_,by rw[hb2];exact hp,?_,AL.nodup_put hnd x v,hnt⟩,Fr.setBlock w b _,by simp[ChangeMaps.setBlock]⟩
    · intro q hq;obtain⟨q',h1,h2⟩:=hbn q hq;rw[←h2];exact hold q' h1
    · rw[Array.toList_modify,Nat.zero_add];exact hm v
    · have hs:=left_mem hL (λ_ _ h=>K.inj h) hi hk hx
      have:(leftOf (es.modify (0+i) λe=>{ e with key:=ek x,val:=ev v }) seen).toList=(leftOf es seen).toList:=by
        unfold leftOf
        simp only[Array.toList_filter,Array.toList_modify,Nat.zero_add]
        exact filter_modify (λe=>!seen.contains e.born) (λe=>{ e with key:=ek x,val:=ev v }) (λ_=>rfl) _ i e' hi hs
      rw[this];exact hL
    · intro q hq;obtain⟨q',h1,h2⟩:=hbn q hq;rw[←h2];exact hc q' h1
/-- In a round: a key that was handed out is deleted. -/
theorem IterAt.drop {w:World} {r b:Nat} {l todo:List (κ × ν)} (h:IterAt w ek ev r b l todo) {kt t e r0:TypeId} {tys:Array TypeId} (K:Keys P kt ek) (hty:tys[0]?=some t) (ht:P.underlying t=some (.map kt e)) {x:κ} (hx:x ∉ todo.map Prod.fst) :
    ∃w',(Builtin.delete_ tys r0 #[.map (some b),ek x]).run P w=.ok (.tuple #[]) w' ∧ IterAt w' ek ev r b (AL.del l x) todo ∧ Fr (·=b) w w' ∧ w'.heap.size=w.heap.size:=by
  have hne:=h.ne
  obtain⟨es,clk,since,seen,c0,hr0,hb,hsc,hold,hE,hL,hp,hc,hnd,hnt⟩:=h
  obtain⟨r',hr',hf⟩:=K.find x w hE
  unfold Builtin.delete_
  have e0:(#[.map (some b),ek x]:Array Value)[0]?=some (.map (some b)):=rfl
  have e1:(#[.map (some b),ek x]:Array Value)[1]?=some (ek x):=rfl
  simp only[hty,e0,e1,Sem.run_bind,run_under ht,Result.andThen_ok,run_getB hb,Sem.run_pure,K.chk,hr']
  rcases hf with⟨rfl,hg⟩|⟨i,e',v0,rfl,hi,hk,hg,_,hm⟩
  · have:=run_setObj (P:=P) (es':=es) (k':=clk) hb
    refine⟨setBlock w b (.map es clk),?_,⟨_,_,since,seen,c0,(Fr.setBlock w b _).blk hr0 hne,setBlock_at hb,hsc,hold,?_,hL,hp,hc,AL.nodup_del hnd x,hnt⟩,Fr.setBlock w b _,by simp[ChangeMaps.setBlock]⟩
    · simp only[Sem.run_bind,this,Result.andThen_ok,Sem.run_pure]
    · rw[AL.del_none hg];exact hE
  · have:=run_setObj (P:=P) (es':=es.eraseIdxIfInBounds (0+i)) (k':=clk) hb
    have hsub:(es.eraseIdxIfInBounds (0+i)).toList=es.toList.eraseIdx i:=by simp
    refine⟨setBlock w b (.map (es.eraseIdxIfInBounds (0+i)) clk),?_,⟨_,_,since,seen,c0,(Fr.setBlock w b _).blk hr0 hne,setBlock_at hb,hsc,?_,?_,?_,?_,?_,AL.nodup_del hnd x,hnt⟩,Fr.setBlock w b _,by simp[ChangeMaps.setBlock]⟩
    · simp only[Sem.run_bind,this,Result.andThen_ok,Sem.run_pure]
    · rw[hsub];exact λq hq=>hold q ((List.eraseIdx_sublist _ _).subset hq)
    · rw[hsub];exact hm
    · have hs:=left_mem hL (λ_ _ h=>K.inj h) hi hk hx
      have:(leftOf (es.eraseIdxIfInBounds (0+i)) seen).toList=(leftOf es seen).toList:=by
        unfold leftOf
        simp only[Array.toList_filter,hsub]
        exact filter_eraseIdx (λe=>!seen.contains e.born) _ i e' hi hs
      rw[this];exact hL
    · rw[hsub];exact hp.sublist ((List.eraseIdx_sublist _ _).map _)
    · rw[hsub];exact λq hq=>hc q ((List.eraseIdx_sublist _ _).subset hq)
end
theorem beq_bytes(a b:ByteArray):(a == b)=decide (a=b):=by
  have h:(a == b)=(a.data == b.data):=by
    obtain⟨⟨x⟩⟩:=a
    obtain⟨⟨y⟩⟩:=b
    rfl
  rw[h]
  by_cases e:a=b
  · simp[e]
  · have:a.data ≠ b.data:=λh'=>e (by cases a;cases b;simpa using h')
    simp[e,this]
theorem keys_str{kt:TypeId}(h:P.underlying kt=some .string):Keys P kt (λs:ByteArray=>.string s) where
  chk e x w:=by
    show(Instr.checkKey e (9999+1) kt _).run P w=_
    unfold Instr.checkKey
    simp[run_under h]
  und:=⟨_,h,.inl λx y=>by simp[Instr.sameNow,beq_bytes]⟩
  bits x:=by
    show Instr.sameBits (9999+1) _ _=true
    simp[Instr.sameBits,beq_bytes]
end Go.Sh
