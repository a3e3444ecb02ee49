import Derived.RangeFuncNested
import Derived.RangeFuncBound
import Derived.RangeFuncLeaves
import Derived.OwnWalkIn
import Derived.Test.YtjbfehippchniaaGreatDoorShFourteen
/- A range over an iterator that keeps a state of its own in memory: what such an iterator owes, and the loop over it. For every program. -/
set_option linter.unusedVariables false
set_option linter.unusedSimpArgs false
namespace Go.Sh
open Go.RowKit
variable {F : Fence} {n : Nat} {P : Program}
theorem Fr.putObj(W:World)(l:Nat)(o:Obj):Fr (·=l) W (W.putObj l o):=by
  refine⟨rfl,rfl,rfl,by simp,λk _ hn=>?_⟩
  exact World.putObj_heap_other hn
/-- What an iterator owes that writes in the blocks of 'B' alone: each round goes on; what the rounds keep lies below 'n₀'; 'S' says what has come, and how it ends. -/
def SeqOwn{α:Type}(F:Fence)(n:Nat)(P:Program)(g:Nat)(lb:Array Value)(encs:α → Array Value)(B:Nat → Prop)(n₀:Nat)(S:List α → World → Prop)(N:Nat)(w:World):Prop:=
  ∀(l:Nat) (J:List α → World → Prop) (W:World),Below n₀ w W → (∀s A A',J s A → Fr B A A' → J s A') →
    (∀pre x W1,J pre W1 → pre.length<N → YieldAt F (n - 1) P l (encs x) W1 λe W'=>e=.returned (.bool true) ∧ J (pre ++ [x]) W' ∧ Below n₀ W1 W') →
    J [] W → CallsIn F n P g (#[.func (.yield l) #[] #[]] ++ lb) W λe W'=>(∃v,e=.returned v) ∧ ∃xs,S xs W' ∧ J xs W'
def bodyPost{α:Type}(n₀ m₀:Nat)(I:List α → World → Prop)(xs:List α)(W:World):Exit → Act → World → Prop
  | .normal,_,W'=>KeepsFrom m₀ W W' ∧ Below n₀ W W' ∧ I xs W'
  | _,_,_=>False
theorem wpIn_rangeFunc_state{α:Type}{g:Operand}{ps:Array Tmp}{assign body:Code}{Q:Exit → Act → World → Prop}{a:Act}{w:World}
    (hro:F.round=none) (h1:1 ≤ n) {gf:Nat} {lb:Array Value} (hg:a.eval g=.func (.func gf) #[] lb) (hFg:F.fn gf) (eg:∀args w,(callFunc gf args).run P w=.ok (.enter gf args) w)
    {encs:α → Array Value} {B:Nat → Prop} {n₀:Nat} {S:List α → World → Prop} {N:Nat} (hn₀:n₀ ≤ w.heap.size) (hB:∀i,B i → i<n₀) (hseq:SeqOwn F (n - 1) P gf lb encs B n₀ S N w) (hps:∀x,(encs x).size=ps.size)
    (I:List α → World → Prop) (hI:∀s A A',I s A → Fr (λk=>B k∨k=w.heap.size∨k=w.heap.size+1) A A' → I s A') (hS:∀xs A A',S xs A → Fr (n₀ ≤ ·) A A' → S xs A') (h0:I [] w) (Ax:α → Act → World → Prop) (hAx:∀x a' A A',Ax x a' A → Fr (·=w.heap.size+1) A A' → Ax x a' A')
    (hassign:∀(l:Nat) (pre:List α) (x:α) (W:World) (K:Act → World → Prop),I pre W → w.heap.size+2 ≤ W.heap.size → (∀a' W',Pu W W' → I pre W' → Ax x a' W' → K a' W') →
      assign.wpIn (F.inRound l) (n - 1 - 1) P (Exit.then K (λ_ _ _=>False)) { tmps:=(ps.zip (encs x)).foldl (λt (p,v)=>t.setIfInBounds p v) a.tmps,defers:=[] } W)
    (hbody:∀(l:Nat) (pre:List α) (x:α) (a':Act) (W:World),I pre W → Ax x a' W → pre.length<N → w.heap.size+2 ≤ W.heap.size → body.wpIn (F.inRound l) (n - 1 - 1) P (bodyPost n₀ w.heap.size I (pre ++ [x]) W) a' W)
    (hdone:∀(D:Nat) (xs:List α) (W:World),w.heap.size ≤ D → S xs W → I xs W → W.heap[D]?=some (.deferred (some [])) → Q .normal { a with defers:={ target:=.collected D,args:=#[] } :: a.defers } W) :
    (Code.rangeFunc g ps assign body).wpIn F n P Q a w:=by
  refine wpIn_rangeFunc ?_
  intro fn hfn
  rw[hro]
  obtain⟨rec,hrec⟩:∃rec:LoopState → Option Code → Loop,rec=λst pe=>{ state:=st,pending:=pe,fn,tmps:=a.tmps,params:=ps,assign,body,defers:=w.heap.size }:=⟨_,rfl⟩
  obtain⟨W1,hW1⟩:∃W1,(w.alloc (.deferred (some []))).alloc (.loop (rec .ready none))=W1:=⟨_,rfl⟩
  have hL1:W1.heap[w.heap.size+1]?=some (.loop (rec .ready none)):=by
    rw[←hW1];have:=World.alloc_heap_new (w.alloc (.deferred (some []))) (.loop (rec .ready none));rwa [World.size_alloc]at this
  have hK1:W1.heap[w.heap.size]?=some (.deferred (some [])):=by
    rw[←hW1];exact(Below.heap_alloc _ _ _ (by simp)).trans (World.alloc_heap_new w _)
  have hp1:Pu w W1:=by rw[←hW1];exact(Pu.alloc w _).trans (Pu.alloc _ _)
  have hI1:I [] W1:=hI _ _ _ h0 (Fr.pu hp1)
  have hb1:Below n₀ w W1:=hp1.mono hn₀
  have frL:∀(W:World) (o:Obj),Fr (λk=>B k∨k=w.heap.size∨k=w.heap.size+1) W (W.putObj (w.heap.size+1) o):=λW o=>(Fr.putObj W _ o).mono λi hi _=>.inr (.inr hi)
  have blL:∀(W:World) (o:Obj),n₀ ≤ W.heap.size → Below n₀ W (W.putObj (w.heap.size+1) o):=λW o hW=>by
    have h:=Fr.putObj W (w.heap.size+1) o
    exact⟨h.os,h.tape,h.output,h.size,λk hk=>h.block k (by omega) (by intro e;omega)⟩
  refine⟨w.heap.size+1,[{ target:=.collected w.heap.size,args:=#[] }],W1,{ target:=.fn (.func gf) lb,args:=#[.func (.yield (w.heap.size+1)) #[] #[]] },W1,gf,
    #[.func (.yield (w.heap.size+1)) #[] #[]] ++ lb,W1,?_,?_,?_,?_,λ_=>h1,?_⟩
  · rw[←hW1,hrec];exact run_enterLoop_outer _ _ _ _ _
  · simp only[resolve,hg]
    simp[go_sem]
  · intro f' hf';simp[Target.leads]at hf';subst hf';exact hFg
  · simp[invoke,go_sem,eg]
  · refine(hseq (w.heap.size+1)
      (λpre W=>I pre W ∧ W.heap[w.heap.size+1]?=some (.loop (rec .ready none)) ∧ W.heap[w.heap.size]?=some (.deferred (some [])))
      W1 hb1 (λs A A' hs hf=>⟨hI s A A' hs.1 (hf.mono λi hi _=>.inl hi),hf.blk hs.2.1 (λh=>by have:=hB _ h;omega),hf.blk hs.2.2 (λh=>by have:=hB _ h;omega)⟩)
      ?_ ⟨hI1,hL1,hK1⟩).mono ?_
    · -- ONE ROUND
      rintro pre x W ⟨hi,hl,hk⟩ hlen
      have hlt:w.heap.size+1<W.heap.size:=(Array.getElem?_eq_some_iff.1 hl).1
      have hy:=run_yield (P:=P) (args:=encs x) hl (by rw[hrec];exact hps x)
      rw[hrec]at hy
      refine⟨fn,_,assign,body,hy,roundIn_of_wpIn hfn (hassign _ pre x W _ hi (by omega) ?_)⟩
      clear hy
      intro a' Wa hpa hia hax
      have hba:Below n₀ W Wa:=hpa.mono (by omega)
      replace hl:=hpa.blk hl
      replace hk:=hpa.blk hk
      replace hlt:w.heap.size+1<Wa.heap.size:=(Array.getElem?_eq_some_iff.1 hl).1
      replace hi:=hia
      clear hia
      revert hba hpa
      generalize W=Wb
      intro hpa hba
      obtain⟨W,rfl⟩:∃W,W=Wa:=⟨_,rfl⟩
      refine⟨_,run_beginRound hl (by rw[hrec]),?_⟩
      have hl2:(W.putObj (w.heap.size+1) (.loop { rec .ready none with state:=.busy })).heap[w.heap.size+1]?=some (.loop { rec .ready none with state:=.busy }):=World.putObj_heap_same hlt
      have hk2:(W.putObj (w.heap.size+1) (.loop { rec .ready none with state:=.busy })).heap[w.heap.size]?=some (.deferred (some [])):=(World.putObj_heap_other (by omega)).trans hk
      refine wpIn_mono (hbody _ pre x a' _ (hI _ _ _ hi (frL _ _)) (hAx x a' _ _ hax (Fr.putObj _ _ _)) hlen (by simp;omega)) ?_
      rintro e a3 W3 hp
      cases e with
      | normal=>
        obtain⟨hk3,hb3,hi3⟩:=hp
        have hl3:=hk3.same _ _ (by omega) hl2 rfl
        have hd3:=hk3.same _ _ (Nat.le_refl _) hk2 rfl
        have hr:=run_endRound (P:=P) none hl3
        rw[hrec]at hr
        refine⟨_,_,hr,rfl,⟨?_,?_,?_⟩,?_⟩
        · exact hI _ _ _ hi3 (frL _ _)
        · rw[hrec];exact World.putObj_heap_same (Array.getElem?_eq_some_iff.1 hl3).1
        · exact(World.putObj_heap_other (by omega)).trans hd3
        · have h3:=(Array.getElem?_eq_some_iff.1 hl3).1
          exact hba.trans (((blL _ _ (by omega)).trans hb3).trans (blL _ _ (by omega)))
      | _=>exact hp.elim
    · -- BEHIND THE ITERATOR
      rintro e W2 ⟨⟨v,rfl⟩,xs,hs,hi,hl,hk⟩
      exact⟨none,_,by have:=run_endLoop (P:=P) hl (by rw[hrec];simp);rw[hrec]at this;exact this,hdone _ xs _ (Nat.le_refl _) (hS _ _ _ hs ((Fr.putObj _ _ _).mono λi hi _=>by show n₀ ≤ i;rw[hi];omega)) (hI _ _ _ hi (frL _ _)) ((World.putObj_heap_other (by omega)).trans hk)⟩
/-- Appending to a row of one's own, as an operation of a walk. -/
theorem wpListIn_append_row{F:Fence}{n:Nat}{P:Program}(w:World){ops:Array Oper}{rest:List Oper}{o:Oper}{a:Act}{Q:Exit → Act → World → Prop}
    (hg:o.guard=none) (s x:Operand) (t:TypeId) (hop:o.op=Op.call { callee:=Callee.builtin Builtin.append,args:=#[s,x],argTypes:=#[t,t] })
    (e:TypeId) (i:TypeInfo) (z:Value) (sz:Nat) (h1:P.underlying t=some (.slice e)) (h2:P.info? e=some i) (h3:i.zero=some z) (h4:i.size=sz) (h6:z.cells.size=sz) (h7:0<sz)
    (sv:SV) (vs:List Value) (hs:a.eval s=.slice sv.a sv.len sv.cap) (hrow:RowAt w e sz sv vs) (ad:Addr) (m c:Nat) (news:List Value) (hx:a.eval x=.slice (some ad) m c) (hn:news.length=m * sz)
    (hc:∀j u,news[j]?=some u → w.cell? (ad.add j)=some u) (h1c:∀u ∈ news,u.oneCell'=true) (hb:(sv.len+m) * (i.bytes+1) ≤ 140737488355328)
    (hK:∀(s':SV) (w':World),RowAt w' e sz s' (vs ++ news) → Fr (· ∈ blkOf sv) w w' → (∀k ∈ blkOf s',k ∈ blkOf sv∨w.heap.size ≤ k) → wpListIn F n P ops Q rest (a.put o.dst (.slice s'.a s'.len s'.cap)) w') :
    wpListIn F n P ops Q (o :: rest) a w:=by
  refine wpListIn_plain hg λK hK'=>?_
  obtain⟨s',w',hrun,r1,r2,r3,r4⟩:=row_append (P:=P) (w:=w) (s:=sv) (vs:=vs) (t:=t) (ty:=o.type) h1 h2 h3 h4 h6 h7 hrow (a:=ad) (m:=m) (c:=c) (news:=news) hn hc h1c hb
  unfold Oper.wpIn
  refine⟨?_,?_⟩
  · simp[Oper.about,hop,resolve,Target.leads,Sem.run_pure]
  · rw[Oper.semAt_plain F _ _ (by rw[hop];intro c hc';cases hc')]
    simp[execOp,hop,resolve,invoke,builtin,hs,hx,hrun,Result.andThen]
    exact hK' _ _ (hK s' w' r1 r2 r3)
end Go.Sh
