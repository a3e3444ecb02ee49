import Derived.Test.YtjbfehippchniaaGreatDoorShNine
import Derived.Maps.RangeRun
/- Maps as association lists: what a block that is a map holds, and what reading, writing, deleting and ranging do to it. For every program. -/
set_option linter.unusedSectionVars false
set_option linter.unusedSimpArgs false
namespace Go.Sh
open Go.RowKit
open Go.ChangeMaps (setBlock)
variable {P : Program}
structure Fr(B:Nat → Prop)(w w':World):Prop where
  os:w'.os=w.os
  tape:w'.tape=w.tape
  output:w'.output=w.output
  size:w.heap.size ≤ w'.heap.size
  block:∀k,k<w.heap.size → ¬B k → w'.heap[k]?=w.heap[k]?
theorem Fr.refl(B:Nat → Prop)(w:World):Fr B w w:=⟨rfl,rfl,rfl,Nat.le_refl _,λ_ _ _=>rfl⟩
theorem Fr.trans{B B':Nat → Prop}{a b c:World}(h:Fr B a b)(k:Fr B' b c)(hB:∀i,B' i → i<a.heap.size → B i):Fr B a c:=
  ⟨k.os.trans h.os,k.tape.trans h.tape,k.output.trans h.output,Nat.le_trans h.size k.size,λi hi hn=>(k.block i (Nat.lt_of_lt_of_le hi h.size) (λhb=>hn (hB i hb hi))).trans (h.block i hi hn)⟩
theorem Fr.mono{B B':Nat → Prop}{a b:World}(h:Fr B a b)(hB:∀i,B i → i<a.heap.size → B' i):Fr B' a b:=
  ⟨h.os,h.tape,h.output,h.size,λi hi hn=>h.block i hi λhb=>hn (hB i hb hi)⟩
theorem Fr.pu{B:Nat → Prop}{a b:World}(h:Pu a b):Fr B a b:=⟨h.os,h.tape,h.output,h.size,λi hi _=>h.block i hi⟩
theorem Fr.toPu{B:Nat → Prop}{a b:World}(h:Fr B a b)(hB:∀i,B i → a.heap.size ≤ i):Pu a b:=
  ⟨h.os,h.tape,h.output,h.size,λi hi=>h.block i hi λhb=>absurd (hB i hb) (by omega)⟩
theorem Fr.drew{B:Nat → Prop}(w:World):Fr B w w.drew:=Fr.pu (Pu.drew w)
theorem Fr.alloc{B:Nat → Prop}(w:World)(o:Obj):Fr B w (w.alloc o):=Fr.pu (Pu.alloc w o)
theorem Fr.setBlock(w:World)(b:Nat)(o:Obj):Fr (·=b) w (setBlock w b o):=
  ⟨rfl,rfl,rfl,by simp[ChangeMaps.setBlock],λk _ hn=>by simp only[ChangeMaps.setBlock];rw[Array.getElem?_setIfInBounds_ne (Ne.symm hn)]⟩
theorem Fr.setCell(w:World)(a:Addr)(v:Value):Fr (·=a.block) w (w.setCell a v):=⟨rfl,rfl,rfl,by simp,λ_ _ hn=>setCell_other hn⟩
theorem Fr.lt{B:Nat → Prop}{w w':World}(h:Fr B w w'){b:Nat}(hb:b<w.heap.size):b<w'.heap.size:=Nat.lt_of_lt_of_le hb h.size
theorem blk_lt {w:World} {b:Nat} {o:Obj} (h:w.heap[b]?=some o):b<w.heap.size:=(Array.getElem?_eq_some_iff.1 h).1
theorem Fr.blk {B:Nat → Prop} {w w':World} (h:Fr B w w') {b:Nat} {o:Obj} (hb:w.heap[b]?=some o) (hn:¬B b):w'.heap[b]?=some o:=by
  rw[h.block b (blk_lt hb) hn];exact hb
theorem setBlock_at {w:World} {b:Nat} {o o':Obj} (h:w.heap[b]?=some o):(setBlock w b o').heap[b]?=some o':=by
  simp[ChangeMaps.setBlock,blk_lt h]
theorem run_getB {w:World} {b:Nat} {es:Array MapEntry} {k:Nat} (h:w.heap[b]?=some (.map es k)):(getObj b).run P w=.ok (.map es k) w:=by simp[getObj,Sem.run,h]
theorem run_setObj {w:World} {b:Nat} {es es':Array MapEntry} {k k':Nat} (h:w.heap[b]?=some (.map es k)):(setObj b (.map es' k')).run P w=.ok () (setBlock w b (.map es' k')):=by
  simp[setObj,Sem.run,h,ChangeMaps.setBlock]
section
variable {κ ν : Type} [DecidableEq κ]
namespace AL
def get:List (κ × ν) → κ → Option ν
  | [],_=>none
  | (a,b) :: l,k=>if a=k then some b else get l k
def put:List (κ × ν) → κ → ν → List (κ × ν)
  | [],k,v=>[(k,v)]
  | (a,b) :: l,k,v=>if a=k then(a,v) :: l else(a,b) :: put l k v
def del:List (κ × ν) → κ → List (κ × ν)
  | [],_=>[]
  | (a,b) :: l,k=>if a=k then l else(a,b) :: del l k
theorem mem_keys_put (l:List (κ × ν)) (k:κ) (v:ν) (x:κ):x ∈ (put l k v).map Prod.fst ↔ x=k∨x ∈ l.map Prod.fst:=by
  induction l with
  | nil=>simp[put]
  | cons p l ih=>
    obtain⟨a,b⟩:=p
    simp only[put]
    by_cases h:a=k
    · subst h;simp
    · simp only[h,if_false,List.map_cons,List.mem_cons,ih]
      constructor <;> rintro(h|h|h) <;> simp_all
theorem mem_keys_del (l:List (κ × ν)) (k:κ) (x:κ):x ∈ (del l k).map Prod.fst → x ∈ l.map Prod.fst:=by
  induction l with
  | nil=>simp[del]
  | cons p l ih=>
    obtain⟨a,b⟩:=p
    simp only[del]
    by_cases h:a=k
    · simp[h];exact λy hy=>.inr ⟨y,hy⟩
    · simp only[h,if_false,List.map_cons,List.mem_cons]
      rintro(h|h)
      · exact .inl h
      · exact .inr (ih h)
theorem nodup_put {l:List (κ × ν)} (h:(l.map Prod.fst).Nodup) (k:κ) (v:ν):((put l k v).map Prod.fst).Nodup:=by
  induction l with
  | nil=>simp[put]
  | cons p l ih=>
    obtain⟨a,b⟩:=p
    simp only[List.map_cons,List.nodup_cons]at h
    simp only[put]
    by_cases hk:a=k
    · simp only[hk,if_true,List.map_cons,List.nodup_cons];rw[←hk];exact h
    · simp only[hk,if_false,List.map_cons,List.nodup_cons]
      refine⟨λhm=>?_,ih h.2⟩
      rcases(mem_keys_put l k v a).1 hm with h'|h'
      · exact hk h'
      · exact h.1 h'
theorem nodup_del {l:List (κ × ν)} (h:(l.map Prod.fst).Nodup) (k:κ):((del l k).map Prod.fst).Nodup:=by
  induction l with
  | nil=>simp[del]
  | cons p l ih=>
    obtain⟨a,b⟩:=p
    simp only[List.map_cons,List.nodup_cons]at h
    simp only[del]
    by_cases hk:a=k
    · simp only[hk,if_true];exact h.2
    · simp only[hk,if_false,List.map_cons,List.nodup_cons]
      exact⟨λhm=>h.1 (mem_keys_del l k a hm),ih h.2⟩
theorem get_none {l:List (κ × ν)} {k:κ}:get l k=none ↔ k ∉ l.map Prod.fst:=by
  induction l with
  | nil=>simp[get]
  | cons p l ih=>
    obtain⟨a,b⟩:=p
    simp only[get]
    by_cases h:a=k
    · simp[h]
    · simp only[h,if_false,List.map_cons,List.mem_cons,ih]
      simp[Ne.symm h]
theorem put_new {l:List (κ × ν)} {k:κ} (h:get l k=none) (v:ν):put l k v=l ++ [(k,v)]:=by
  induction l with
  | nil=>rfl
  | cons p l ih=>
    obtain⟨a,b⟩:=p
    simp only[get]at h
    by_cases hk:a=k
    · simp[hk]at h
    · simp only[hk,if_false]at h;simp[put,hk,ih h]
theorem del_none {l:List (κ × ν)} {k:κ} (h:get l k=none):del l k=l:=by
  induction l with
  | nil=>rfl
  | cons p l ih=>
    obtain⟨a,b⟩:=p
    simp only[get]at h
    by_cases hk:a=k
    · simp[hk]at h
    · simp only[hk,if_false]at h;simp[del,hk,ih h]
end AL
/-- Entries that stand for an association list. -/
def Ents(ek:κ → Value)(ev:ν → Value):List MapEntry → List (κ × ν) → Prop
  | [],[]=>True
  | e :: es,p :: l=>e.key=ek p.1 ∧ e.val=ev p.2 ∧ Ents ek ev es l
  | _,_=>False
variable {ek : κ → Value} {ev : ν → Value}
theorem Ents.push {es:List MapEntry} {l:List (κ × ν)} (h:Ents ek ev es l) {e:MapEntry} {k:κ} {v:ν} (h1:e.key=ek k) (h2:e.val=ev v):Ents ek ev (es ++ [e]) (l ++ [(k,v)]):=by
  induction es generalizing l with
  | nil=>cases l with
    | nil=>exact⟨h1,h2,trivial⟩
    | cons p l=>exact h.elim
  | cons a es ih=>cases l with
    | nil=>exact h.elim
    | cons p l=>exact⟨h.1,h.2.1,ih h.2.2⟩
theorem Ents.length {es:List MapEntry} {l:List (κ × ν)} (h:Ents ek ev es l):es.length=l.length:=by
  induction es generalizing l with
  | nil=>cases l with
    | nil=>rfl
    | cons p l=>exact h.elim
  | cons a es ih=>cases l with
    | nil=>exact h.elim
    | cons p l=>simp[ih h.2.2]
theorem Ents.mem {es:List MapEntry} {l:List (κ × ν)} (h:Ents ek ev es l) {e:MapEntry} (he:e ∈ es):∃k v,e.key=ek k ∧ e.val=ev v ∧ (k,v) ∈ l:=by
  induction es generalizing l with
  | nil=>cases he
  | cons a es ih=>cases l with
    | nil=>exact h.elim
    | cons p l=>
      rcases List.mem_cons.1 he with rfl|he
      · exact⟨p.1,p.2,h.1,h.2.1,by simp⟩
      · obtain⟨k,v,h1,h2,h3⟩:=ih h.2.2 he;exact⟨k,v,h1,h2,List.mem_cons_of_mem _ h3⟩
/-- Keys of a type: they are met by being equal. -/
structure Keys(P:Program)(kt:TypeId)(ek:κ → Value):Prop where
  chk:∀e x w,(Instr.checkKey e 10000 kt (ek x)).run P w=.ok () w
  und:∃d,P.underlying kt=some d ∧ ((∀x y,Instr.sameNow d (ek x) (ek y)=some (decide (x=y))) ∨
    ((∀x y,Instr.sameNow d (ek x) (ek y)=none) ∧ ∀x y w,(Op.equal kt (ek x) (ek y)).run P w=.ok (decide (x=y)) w))
  bits:∀x,Instr.sameBits 10000 (ek x) (ek x)=true
/-- Where a key stands. -/
def Found (ek:κ → Value) (ev:ν → Value) (es:List MapEntry) (l:List (κ × ν)) (x:κ) (n:Nat) (r:Option (Nat × Value)):Prop:=
  (r=none ∧ AL.get l x=none) ∨
  ∃i e v,r=some (n+i,ev v) ∧ es[i]?=some e ∧ e.key=ek x ∧ AL.get l x=some v ∧
    (∀v',Ents ek ev (es.modify i λe=>{ e with key:=ek x,val:=ev v' }) (AL.put l x v')) ∧ Ents ek ev (es.eraseIdx i) (AL.del l x)
theorem Found.cons {es:List MapEntry} {l:List (κ × ν)} {x:κ} {n:Nat} {r:Option (Nat × Value)} {e:MapEntry} {p:κ × ν} (h1:e.key=ek p.1) (h2:e.val=ev p.2) (hne:¬x=p.1) (h:Found ek ev es l x (n+1) r):Found ek ev (e :: es) (p :: l) x n r:=by
  have hne':¬p.1=x:=λh=>hne h.symm
  rcases h with⟨h3,h4⟩|⟨i,e',v,h3,h4,h5,h6,h7,h8⟩
  · exact .inl ⟨h3,by obtain⟨a,b⟩:=p;simpa[AL.get,hne'] using h4⟩
  · obtain⟨a,b⟩:=p
    refine .inr ⟨i+1,e',v,by rw[h3];congr 2;omega,by simpa using h4,h5,by simpa[AL.get,hne'] using h6,λv'=>?_,?_⟩
    · simp only[List.modify_succ_cons,AL.put,if_neg hne']
      exact⟨h1,h2,h7 v'⟩
    · simp only[List.eraseIdx_cons_succ,AL.del,if_neg hne']
      exact⟨h1,h2,h8⟩
theorem Found.head {es:List MapEntry} {l:List (κ × ν)} {x:κ} {n:Nat} {e:MapEntry} {p:κ × ν} (hE:Ents ek ev es l) (h1:e.key=ek p.1) (h2:e.val=ev p.2) (he:x=p.1):Found ek ev (e :: es) (p :: l) x n (some (n,e.val)):=by
  obtain⟨a,b⟩:=p
  subst he
  refine .inr ⟨0,e,b,by rw[h2];rfl,rfl,h1,by simp[AL.get],λv'=>?_,?_⟩
  · simp only[List.modify_zero_cons,AL.put,if_true];exact⟨rfl,rfl,hE⟩
  · simp only[List.eraseIdx_cons_zero,AL.del,if_true];exact hE
theorem findNow_spec {d:TypeDesc} (hs:∀x y,Instr.sameNow d (ek x) (ek y)=some (decide (x=y))) (x:κ):∀(es:List MapEntry) (l:List (κ × ν)) (n:Nat),Ents ek ev es l →
    ∃r,Instr.findNow d (ek x) es n=some r ∧ Found ek ev es l x n r
  | [],[],n,_=>⟨none,rfl,.inl ⟨rfl,rfl⟩⟩
  | e :: es,p :: l,n,⟨h1,h2,h3⟩=>by
    obtain⟨r,h4,h5⟩:=findNow_spec hs x es l (n+1) h3
    by_cases he:x=p.1
    · exact⟨some (n,e.val),by simp[Instr.findNow,h1,hs,he],Found.head h3 h1 h2 he⟩
    · exact⟨r,by simp[Instr.findNow,h1,hs,he,h4],Found.cons h1 h2 he h5⟩
theorem findAsking_spec {kt:TypeId} (hs:∀x y w,(Op.equal kt (ek x) (ek y)).run P w=.ok (decide (x=y)) w) (x:κ) (w:World):∀(es:List MapEntry) (l:List (κ × ν)) (n:Nat),Ents ek ev es l →
    ∃r,(Instr.findAsking kt (ek x) es n).run P w=.ok r w ∧ Found ek ev es l x n r
  | [],[],n,_=>⟨none,rfl,.inl ⟨rfl,rfl⟩⟩
  | e :: es,p :: l,n,⟨h1,h2,h3⟩=>by
    obtain⟨r,h4,h5⟩:=findAsking_spec hs x w es l (n+1) h3
    by_cases he:x=p.1
    · exact⟨some (n,e.val),by simp[Instr.findAsking,h1,hs,he],Found.head h3 h1 h2 he⟩
    · exact⟨r,by simp[Instr.findAsking,h1,hs,he,h4],Found.cons h1 h2 he h5⟩
theorem Keys.find {kt:TypeId} (K:Keys P kt ek) (x:κ) (w:World) {es:List MapEntry} {l:List (κ × ν)} (h:Ents ek ev es l) :
    ∃r,(Instr.findKey kt (ek x) es).run P w=.ok r w ∧ Found ek ev es l x 0 r:=by
  obtain⟨d,hd,hs⟩:=K.und
  unfold Instr.findKey
  rcases hs with hs|⟨hn,hs⟩
  · obtain⟨r,h1,h2⟩:=findNow_spec hs x es l 0 h
    exact⟨r,by simp[run_under hd,h1],h2⟩
  · cases es with
    | nil=>cases l with
      | nil=>exact⟨none,by simp[run_under hd,Instr.findNow],.inl ⟨rfl,rfl⟩⟩
      | cons p l=>exact h.elim
    | cons e es=>cases l with
      | nil=>exact h.elim
      | cons p l=>
        obtain⟨r,h1,h2⟩:=findAsking_spec hs x w _ _ 0 h
        exact⟨r,by simp[run_under hd,Instr.findNow,h.1,hn,h1],h2⟩
/-- Block b is a map that holds an association list. -/
def MapAt (w:World) (ek:κ → Value) (ev:ν → Value) (b:Nat) (l:List (κ × ν)):Prop:=
  ∃es clk,w.heap[b]?=some (.map es clk) ∧ Ents ek ev es.toList l ∧ (es.toList.map (·.born)).Pairwise (· < ·) ∧ (∀e ∈ es.toList,e.born<clk) ∧ (l.map Prod.fst).Nodup
theorem MapAt.lt {w:World} {b:Nat} {l:List (κ × ν)} (h:MapAt w ek ev b l):b<w.heap.size:=let ⟨_,_,h,_⟩:=h;blk_lt h
theorem MapAt.fr {B:Nat → Prop} {w w':World} {b:Nat} {l:List (κ × ν)} (h:MapAt w ek ev b l) (hf:Fr B w w') (hn:¬B b):MapAt w' ek ev b l:=
  let ⟨es,clk,h1,h2⟩:=h;⟨es,clk,hf.blk h1 hn,h2⟩
theorem MapAt.new(w:World)(ek:κ → Value)(ev:ν → Value):MapAt (w.alloc (.map #[] 0)) ek ev w.heap.size ([]:List (κ × ν)):=
  ⟨#[],0,alloc_new w _,trivial,by simp,by simp,by simp⟩
theorem MapAt.look {w:World} {b:Nat} {l:List (κ × ν)} (h:MapAt w ek ev b l) {kt t e:TypeId} (K:Keys P kt ek) (ht:P.underlying t=some (.map kt e)) {z:Value} (hz:(zeroValue e).run P w=.ok z w) (x:κ) (ok:Bool) :
    (Instr.lookup t (.map (some b)) (ek x) ok).run P w=.ok (if ok then .tuple #[(AL.get l x).elim z ev,.bool (AL.get l x).isSome]else(AL.get l x).elim z ev) w:=by
  obtain⟨es,clk,hb,hE,_⟩:=h
  obtain⟨r,hr,hf⟩:=K.find x w hE
  unfold Instr.lookup
  simp only[Sem.run_bind,run_under ht,Result.andThen_ok,run_getB hb,Sem.run_pure,K.chk,hr]
  rcases hf with⟨rfl,hg⟩|⟨i,e',v,rfl,_,_,hg,_⟩
  · simp only[Sem.run_bind,hz,hg,Result.andThen_ok,Sem.run_pure];rfl
  · simp only[Sem.run_bind,hg,Result.andThen_ok,Sem.run_pure];rfl
theorem MapAt.upd {w:World} {b:Nat} {l:List (κ × ν)} (h:MapAt w ek ev b l) {kt t e:TypeId} (K:Keys P kt ek) (ht:P.underlying t=some (.map kt e)) (x:κ) (v:ν) :
    ∃w',(Instr.mapUpdate t (.map (some b)) (ek x) (ev v)).run P w=.ok () w' ∧ MapAt w' ek ev b (AL.put l x v) ∧ Fr (·=b) w w' ∧ w'.heap.size=w.heap.size:=by
  obtain⟨es,clk,hb,hE,hp,hc,hnd⟩:=h
  obtain⟨r,hr,hf⟩:=K.find x w hE
  unfold Instr.mapUpdate
  simp only[Sem.run_bind,run_under ht,Result.andThen_ok,run_getB hb,Sem.run_pure,K.chk,hr]
  rcases hf with⟨rfl,hg⟩|⟨i,e',v0,rfl,hi,hk,hg,hm,_⟩
  · refine⟨_,run_setObj hb,⟨_,_,setBlock_at hb,?_,?_,?_,AL.nodup_put hnd x v⟩,Fr.setBlock w b _,by simp[ChangeMaps.setBlock]⟩
    · rw[AL.put_new hg];simp only[Array.toList_push];exact hE.push rfl rfl
    · simp only[Array.toList_push,List.map_append,List.map_cons,List.map_nil]
      rw[List.pairwise_append]
      refine⟨hp,by simp,λa ha c hc'=>?_⟩
      obtain⟨q,hq,rfl⟩:=List.mem_map.1 ha
      simp at hc';subst hc';exact hc q hq
    · intro q hq
      simp only[Array.toList_push,List.mem_append,List.mem_singleton]at hq
      rcases hq with hq|rfl
      · exact Nat.lt_succ_of_lt (hc q hq)
      · exact Nat.lt_succ_self _
  · have hkk:(Instr.keyThatStays (((es[0+i]?).map (·.key)).getD (ek x)) (ek x)).run P w=.ok (ek x) w:=by
      have:es[0+i]?=some e':=by simpa using hi
      rw[this];simp only[Option.map_some,Option.getD_some,hk]
      unfold Instr.keyThatStays;simp[K.bits]
    simp only[Sem.run_bind,hkk,Result.andThen_ok]
    have hborn:∀(f:MapEntry → MapEntry),(∀e,(f e).born=e.born) → ((es.modify (0+i) f).toList.map (·.born))=es.toList.map (·.born):=by
      intro f hfb
      rw[Array.toList_modify]
      apply List.ext_getElem?
      intro j
      simp only[List.getElem?_map,List.getElem?_modify]
      cases es.toList[j]? with
      | none=>rfl
      | some q=>
        simp only[Option.map_some]
        split <;> simp[hfb]
    have hb2:=hborn (λe=>{ e with key:=ek x,val:=ev v }) (λ_=>rfl)
    refine⟨_,run_setObj hb,⟨_,_,setBlock_at hb,?_,by rw[hb2];exact hp,?_,AL.nodup_put hnd x v⟩,Fr.setBlock w b _,by simp[ChangeMaps.setBlock]⟩
    · rw[Array.toList_modify,Nat.zero_add];exact hm v
    · intro q hq
      have:q.born ∈ (es.toList.map (·.born)):=by rw[←hb2];exact List.mem_map.2 ⟨q,hq,rfl⟩
      obtain⟨q',h1,h2⟩:=List.mem_map.1 this
      rw[←h2];exact hc q' h1
theorem MapAt.del {w:World} {b:Nat} {l:List (κ × ν)} (h:MapAt w ek ev b l) {kt t e r0:TypeId} {tys:Array TypeId} (K:Keys P kt ek) (hty:tys[0]?=some t) (ht:P.underlying t=some (.map kt e)) (x:κ) :
    ∃w',(Builtin.delete_ tys r0 #[.map (some b),ek x]).run P w=.ok (.tuple #[]) w' ∧ MapAt w' ek ev b (AL.del l x) ∧ Fr (·=b) w w' ∧ w'.heap.size=w.heap.size:=by
  obtain⟨es,clk,hb,hE,hp,hc,hnd⟩:=h
  obtain⟨r,hr,hf⟩:=K.find x w hE
  unfold Builtin.delete_
  have e0:(#[.map (some b),ek x]:Array Value)[0]?=some (.map (some b)):=rfl
  have e1:(#[.map (some b),ek x]:Array Value)[1]?=some (ek x):=rfl
  simp only[hty,e0,e1,Sem.run_bind,run_under ht,Result.andThen_ok,run_getB hb,Sem.run_pure,K.chk,hr]
  rcases hf with⟨rfl,hg⟩|⟨i,e',v0,rfl,hi,hk,hg,_,hm⟩
  · have:=run_setObj (P:=P) (es':=es) (k':=clk) hb
    refine⟨setBlock w b (.map es clk),?_,⟨_,_,setBlock_at hb,?_,hp,hc,AL.nodup_del hnd x⟩,Fr.setBlock w b _,by simp[ChangeMaps.setBlock]⟩
    · simp only[Sem.run_bind,this,Result.andThen_ok,Sem.run_pure]
    · rw[AL.del_none hg];exact hE
  · have:=run_setObj (P:=P) (es':=es.eraseIdxIfInBounds (0+i)) (k':=clk) hb
    have hsub:(es.eraseIdxIfInBounds (0+i)).toList=es.toList.eraseIdx i:=by simp
    refine⟨setBlock w b (.map (es.eraseIdxIfInBounds (0+i)) clk),?_,⟨_,_,setBlock_at hb,?_,?_,?_,AL.nodup_del hnd x⟩,Fr.setBlock w b _,by simp[ChangeMaps.setBlock]⟩
    · simp only[Sem.run_bind,this,Result.andThen_ok,Sem.run_pure]
    · rw[hsub];exact hm
    · rw[hsub];exact hp.sublist ((List.eraseIdx_sublist _ _).map _)
    · rw[hsub];exact λq hq=>hc q ((List.eraseIdx_sublist _ _).subset hq)
theorem MapAt.len {w:World} {b:Nat} {l:List (κ × ν)} (h:MapAt w ek ev b l) {kt t e r0:TypeId} {tys:Array TypeId} (hty:tys[0]?=some t) (ht:P.underlying t=some (.map kt e)) :
    (Builtin.len_ tys r0 #[.map (some b)]).run P w=.ok (.int .i64 l.length) w:=by
  obtain⟨es,clk,hb,hE,_⟩:=h
  unfold Builtin.len_
  have e0:(#[.map (some b)]:Array Value)[0]?=some (.map (some b)):=rfl
  simp only[hty,e0,Sem.run_bind,run_under ht,Result.andThen_ok,run_getB hb,Sem.run_pure]
  rw[show(es.size:Nat)=l.length by rw[←hE.length];simp]
  rfl
end
end Go.Sh
