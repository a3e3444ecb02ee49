import Derived.Test.YtjbfehippchniaaGreatDoorPrOwH
import Derived.Test.YtjbfehippchniaaGreatDoorShThirteen
import Derived.Test.YtjbfehippchniaaGreatDoorPrOwF
import Derived.Test.YtjbfehippchniaaGreatDoorPrOwD
import Derived.Test.YtjbfehippchniaaGreatDoorPrPrB
/- Pre: the matcher: an expression. No condition but those stated. -/
set_option maxRecDepth 100000
set_option linter.unusedVariables false
set_option linter.unusedSimpArgs false
namespace Go.Proofs.YtjbfehippchniaaGreatDoor
open Go.Sh Go.Sh.Lx Go.Sh.Pr Go.RowKit Go.Shelf
variable {w0 w w' : World}
theorem size112:sizeB Tryz.prog 112=4:=by kernel_rfl
theorem stF {b:Nat} {c:Array Value} (t:Tok × SV) (hb:w.heap[b]?=some (.cells c 112)) (hc:c.size=4) {K:World->Prop} (hK:∀w',w'.heap[b]?=some (.cells (ftV t).toArray 112)->Fr (·=b) w w'->K w'):stA Tryz.prog 112 ⟨b,0,none⟩ (ftV t).toArray w K:=by
  refine⟨by rw[size112];rfl,rfl,?_⟩
  refine stL_fill (ftV t) 0 c w K hb (by rw[hc];rfl) λw' h1 h2 h3 h4 h5 h6=>hK w' ?_ ⟨h4,h5,h6,by omega,λk hk hn=>h3 k hn⟩
  rw[h1];rfl
theorem maxP(n:Int)(w:World):(Builtin.max_ #[3,3] 3 #[.int .i64 0,.int .i64 n]).run Tryz.prog w=.ok (.int .i64 (max 0 n)) w:=max_run _ _ _ _ _ _
def stopP(f:Bool)(t:Tok)(fs:List Pt)(d:Nat):Bool:=decide (d=0) && ((decide (t.kind=4) && decide (t.text=(⟨#[44]⟩:ByteArray))) || fs.any (isP f t))
def depP(t:Tok)(d:Nat):Nat:=if t.kind=4 then(if t.text=(⟨#[40]⟩:ByteArray)∨t.text=(⟨#[91]⟩:ByteArray)∨t.text=(⟨#[123]⟩:ByteArray)then d+1 else if t.text=(⟨#[41]⟩:ByteArray)∨t.text=(⟨#[93]⟩:ByteArray)∨t.text=(⟨#[125]⟩:ByteArray)then d - 1 else d)else d
def exprP (f:Bool) (T:List (Tok × SV)) (fs:List Pt):Nat->Nat->Nat->Nat
  | 0,i,_=>i
  | n+1,i,d=>match T[i]? with
    | none=>i
    | some t=>if stopP f t.1 fs d then i else exprP f T fs n (i+1) (depP t.1 d)
theorem Mst.set {r m i:Nat} {s:SV} {T:List (Tok × SV)} {f:Bool} (h:Mst w0 w r m s T i f) (j:Nat) {K:World->Prop} (hK:∀w',Mst w0 w' r m s T j f->Fr (·=r) w w'->K w'):st1 ⟨r,0+1,none⟩ (.int .i64 (j:Int)) w K:=by
  refine st1_intro (b:=r) (o:=1) h.blk (by show 1<4;omega) λw7 hw7 hb7=>?_
  have hf7:Fr (·=r) w w7:=by rw[hw7];exact Fr.setCell w ⟨r,1,none⟩ _
  exact hK w7 ⟨h.since.andNew hf7 λi hi=>by rw[show i=r from hi];exact h.nr,h.nr,h.nm,hb7,h.cells0⟩ hf7
theorem expr_c {r m i:Nat} {s q:SV} {T:List (Tok × SV)} {f:Bool} (h:Mst w0 w r m s T i f) {fs:List Pt} (hq:RdSl w q fs) (hT:∀t ∈ T,t.1.text.size<=140737488355328) (hTl:T.length<=100000) (hi:i<=T.length) :
    Calls Tryz.prog 198 #[.pointer (some ⟨r,0,none⟩),.bool false,.slice q.a q.len q.cap] w λe w'=>e=.returned (.tuple #[])/\Mst w0 w' r m s T (exprP f T fs T.length i 0) f/\Fr (·=r) w w':=by
  have hTs:=h.cells0.1
  refine calls_by (F198_calls _ _ _ w) λR hR=>alB λw1 hp1 hb1=>?_
  have h1:=h.pu hp1
  have hrlt:=blk_lt h.blk
  refine⟨_,cl0 hb1,?_⟩
  rw[ptrE_some]
  refine⟨_,cl h1.blk 1,?_⟩
  obtain⟨b,hb⟩:∃b,b=w.heap.size:=⟨_,rfl⟩
  obtain⟨i0,hi0⟩:∃n:Int,n=(i:Int):=⟨_,rfl⟩
  rw[←hb]at hb1 ⊢
  rw[←hi0]
  intro J hJ
  have key:∀(n i d:Nat) (w2:World),T.length<=i+n->i<=T.length->d<=i->exprP f T fs n i d=exprP f T fs T.length i 0∨True->Mst w0 w2 r m s T i f->RdSl w2 q fs->w2.heap[b]?=some (.cells #[.pointer (some ⟨r,0,none⟩)] 184)->Fr (·=r) w w2->(∀w3,Mst w0 w3 r m s T (exprP f T fs n i d) f->Fr (·=r) w w3->R (.returned (.tuple #[])) w3)->J (d:Int) w2:=by
    intro n
    induction n with
    | zero=>
      intro i d w2 hn hi hd _ h2 hq2 hb2 hf2 hend
      refine hJ _ _ (dwE_intro λw3 hp3 _=>?_)
      have h3:=h2.pu hp3
      have hb3:=hp3.blk hb2
      rw[ptrE_some]
      refine⟨_,cl0 hb3,?_⟩
      rw[ptrE_some]
      refine⟨_,cl h3.blk 1,?_⟩
      rw[ptrE_some]
      refine⟨_,cl0 hb3,?_⟩
      rw[ptrE_some]
      refine⟨s,cl0 h3.blk,Br.f (decide_eq_false (by omega)) ?_⟩
      refine⟨_,cl0 hb3,_,cl h3.blk 1,Br.f rfl (hend _ h3 (hf2.trans (Fr.pu hp3:Fr (·=r) _ _) λ_ hi _=>hi))⟩
    | succ n ih=>
      intro i d w2 hn hi hd _ h2 hq2 hb2 hf2 hend
      refine hJ _ _ (dwE_intro λw3 hp3 _=>?_)
      have h3:=h2.pu hp3
      have hb3:=hp3.blk hb2
      have hf3:=hf2.trans (Fr.pu hp3:Fr (·=r) _ _) λ_ hi _=>hi
      rw[ptrE_some]
      refine⟨_,cl0 hb3,?_⟩
      rw[ptrE_some]
      refine⟨_,cl h3.blk 1,?_⟩
      rw[ptrE_some]
      refine⟨_,cl0 hb3,?_⟩
      rw[ptrE_some]
      refine⟨s,cl0 h3.blk,Br.of (λc=>?_) (λc=>?_)⟩
      · have c:=dtrue c
        have hlt:i<T.length:=by omega
        obtain⟨t,ht⟩:=at_k (l:=T) (k:=i) hlt
        have htz:=hT t (List.mem_of_getElem? ht)
        have he:exprP f T fs (n+1) i d=if stopP f t.1 fs d then i else exprP f T fs n (i+1) (depP t.1 d):=by
          conv=>lhs;unfold exprP
          rw[ht]
        refine dwE_intro λw4 hp4 _=>⟨λu=>Pu w4 u,Pu.refl _,?_⟩
        have h4:=h3.pu hp4
        have hb4:=hp4.blk hb3
        obtain⟨a,ha,k1,k2,hc⟩:=h4.cells.at ht
        simp only[ptrE_some]
        refine⟨_,λu hu=>cl0 (hu.blk hb4),?_⟩
        simp only[ptrE_some]
        refine⟨s,λu hu=>cl0 (hu.blk h4.blk),_,λu hu=>cl0 (hu.blk hb4),?_⟩
        simp only[ptrE_some]
        refine⟨_,λu hu=>cl (hu.blk h4.blk) 1,a,ha,k1,k2,_,λu hu=>hu.cell (hc 0 _ rfl),_,λu hu=>hu.cell (hc 1 _ rfl),_,λu hu=>hu.cell (hc 2 _ rfl),t.2,λu hu=>hu.cell (hc 3 _ rfl),alB λw5 hp5 hb5=>⟨hp5,?_⟩⟩
        have h5:=h4.pu hp5
        have hz4:=blk_lt h4.blk
        refine stF t hb5 rfl λw6 hb6 hf6=>?_
        have hp46:Pu w4 w6:=hp5.andNew hf6 λi hi=>by rw[show i=_ from hi];exact Nat.le_refl _
        have h6:=h4.pu hp46
        have hbb6:=hp46.blk hb4
        have hq6:=((hq2.pu hp3).pu hp4).pu hp46
        have hf36:=hf3.trans (Fr.pu (hp4.trans hp46):Fr (·=r) _ _) λ_ hi _=>hi
        obtain⟨bt,hbt⟩:∃bt,bt=w4.heap.size:=⟨_,rfl⟩
        rw[←hbt]at hb6 ⊢
        -- one token further
        have step:∀{w7:World} {d':Nat},stopP f t.1 fs d=false->d'=depP t.1 d->Pu w6 w7->F198_2 R J false q (some ⟨b,0,none⟩) i0 (d':Int) [] w7:=λ{w7 d'} hs hd' hp7=>by
          have h7:=h6.pu hp7
          have hb7:=hp7.blk hbb6
          refine⟨_,cl0 hb7,_,cl h7.blk 1,?_⟩
          rw[ptrE_some,show IntKind.i64.wrap ((i:Int)+1)=((i+1:Nat):Int)from by rw[wrap_in (by omega) (by omega)];omega]
          refine h7.set (i+1) λw8 h8 hf8=>?_
          have hd2:d'<=i+1:=by
            rw[hd'];unfold depP
            split
            · split
              · omega
              · split <;> omega
            · omega
          refine ih (i+1) d' w8 (by omega) (by omega) hd2 (.inr trivial) h8 (rd_small h7.blk (by show 4<7;omega) hf8 (hq6.pu hp7)) (hf8.blk hb7 (by omega)) ((hf36.trans (Fr.pu hp7:Fr (·=r) _ _) λ_ hi _=>hi).trans hf8 λ_ hi _=>hi) λw9 h9 hf9=>hend w9 ?_ hf9
          rw[he,hs,if_neg (by decide),←hd'];exact h9
        have dz:∀{w7:World},stopP f t.1 fs d=false->Pu w6 w7->t.1.kind=4->F198_3 R J false q (some ⟨b,0,none⟩) i0 (d:Int) t.1.text [] w7:=λ{w7} hs hp7 hk=>by
          have up:depP t.1 d=d+1->F198_2 R J false q (some ⟨b,0,none⟩) i0 (IntKind.i64.wrap ((d:Int)+1)) [] w7:=λe=>by
            rw[show IntKind.i64.wrap ((d:Int)+1)=((d+1:Nat):Int)from by rw[wrap_in (by omega) (by omega)];omega]
            exact step hs e.symm hp7
          have down:depP t.1 d=d - 1->∃n85:Int,∃w22:World,(Builtin.max_ #[3,3] 3 #[.int .i64 0,.int .i64 (IntKind.i64.wrap ((d:Int) - 1))]).run Tryz.prog w7=.ok (.int .i64 n85) w22/\F198_2 R J false q (some ⟨b,0,none⟩) i0 n85 [] w22:=λe=>by
            refine⟨_,w7,maxP _ w7,?_⟩
            rw[show max 0 (IntKind.i64.wrap ((d:Int) - 1))=((d - 1:Nat):Int)from by rw[wrap_in (by omega) (by omega)];omega]
            exact step hs e.symm hp7
          unfold F198_3
          simp only[toList_beq]
          refine Br.of (λq=>Br.t q (up ?_)) (λq=>Br.of (λq2=>Br.t q2 (up ?_)) (λq2=>Br.of (λq3=>up ?_) (λq3=>Br.of (λq4=>Br.t q4 (down ?_)) (λq4=>Br.of (λq5=>Br.t q5 (down ?_)) (λq5=>Br.of (λq6=>down ?_) (λq6=>step hs ?_ hp7))))))
          all_goals unfold depP;rw[if_pos hk]
          · rw[if_pos (.inl (dtrue q))]
          · rw[if_pos (.inr (.inl (dtrue q2)))]
          · rw[if_pos (.inr (.inr (dtrue q3)))]
          all_goals rw[if_neg (λh=>by
            rcases h with h|h|h
            · exact dfalse q h
            · exact dfalse q2 h
            · exact dfalse q3 h)]
          · rw[if_pos (.inl (dtrue q4))]
          · rw[if_pos (.inr (.inl (dtrue q5)))]
          · rw[if_pos (.inr (.inr (dtrue q6)))]
          · rw[if_neg (λh=>by
              rcases h with h|h|h
              · exact dfalse q4 h
              · exact dfalse q5 h
              · exact dfalse q6 h)]
        have cont:∀{w7:World},Pu w6 w7->F198_4 R J false q (some ⟨b,0,none⟩) i0 (d:Int) (some ⟨bt,0,none⟩) (stopP f t.1 fs d) [] w7:=λ{w7} hp7=>by
          have h7:=h6.pu hp7
          have hb7:=hp7.blk hbb6
          have ht7:=hp7.blk hb6
          refine Br.of (λc2=>?_) (λc2=>?_)
          · refine⟨_,cl0 hb7,_,cl h7.blk 1,Br.f rfl (hend _ ?_ (hf36.trans (Fr.pu hp7:Fr (·=r) _ _) λ_ hi _=>hi))⟩
            rw[he,if_pos c2];exact h7
          · refine⟨_,cl0 ht7,Br.of (λc3=>step c2 ?_ hp7) (λc3=>⟨_,cl ht7 2,dz c2 hp7 (by simpa using c3)⟩)⟩
            unfold depP;rw[if_neg (by simpa using c3)]
        have anyc:∀{K:Bool->World->Prop},(∀w7,Pu w6 w7->K (fs.any (isP f t.1)) w7)->Calls Tryz.prog 152 #[.slice q.a q.len q.cap,.func (.func 204) #[] #[.pointer (some ⟨b,0,none⟩),.pointer (some (⟨bt,0,none⟩:Addr))]] w6 λe w'=>∃b63:Bool,e=.returned (.bool b63)/\K b63 w':=λ{K} hK=>by
          refine(many_p h6 hbb6 hb6 htz hq6).mono ?_
          rintro e w7 ⟨rfl,hp7⟩
          exact⟨_,rfl,hK w7 hp7⟩
        refine⟨_,cl0 hb6,Br.of (λc4=>⟨_,cl hb6 2,Br.of (λc5=>Br.of (λc6=>Br.t rfl ?_) (λc6=>anyc λw7 hp7=>?_)) (λc5=>?_)⟩) (λc4=>Br.of (λc5=>anyc λw7 hp7=>?_) (λc5=>?_))⟩
        · have e:stopP f t.1 fs d=true:=by
            rw[toList_beq]at c6
            unfold stopP
            rw[decide_eq_true (by have:=btrue c5;omega:d=0),decide_eq_true (btrue c4),c6];rfl
          have:=cont (Pu.refl w6);rw[e]at this;exact this
        · have e:stopP f t.1 fs d=fs.any (isP f t.1):=by
            rw[toList_beq]at c6
            unfold stopP
            rw[decide_eq_true (by have:=btrue c5;omega:d=0),decide_eq_true (btrue c4),c6];rfl
          have:=cont hp7;rw[e]at this;exact this
        · have e:stopP f t.1 fs d=false:=by
            unfold stopP
            rw[decide_eq_false (by have:=bfalse c5;omega:¬d=0)];rfl
          have:=cont (Pu.refl w6);rw[e]at this;exact this
        · have e:stopP f t.1 fs d=fs.any (isP f t.1):=by
            unfold stopP
            rw[decide_eq_true (by have:=btrue c5;omega:d=0),decide_eq_false (bfalse c4)];rfl
          have:=cont hp7;rw[e]at this;exact this
        · have e:stopP f t.1 fs d=false:=by
            unfold stopP
            rw[decide_eq_false (by have:=bfalse c5;omega:¬d=0)];rfl
          have:=cont (Pu.refl w6);rw[e]at this;exact this
      · have c:=dfalse c
        have hend2:exprP f T fs (n+1) i d=i:=by
          conv=>lhs;unfold exprP
          rw[List.getElem?_eq_none (by omega)]
        rw[hend2]at hend
        refine⟨_,cl0 hb3,_,cl h3.blk 1,Br.f rfl (hend _ h3 hf3)⟩
  exact key T.length i 0 w1 (by omega) hi (by omega) (.inr trivial) h1 (hq.pu hp1) hb1 (Fr.pu hp1) λw3 h3 hf3=>hR _ _ ⟨rfl,h3,hf3⟩
end Go.Proofs.YtjbfehippchniaaGreatDoor

/- Pre: the matcher: a marker takes tokens. No condition but those stated. -/
set_option maxRecDepth 100000
set_option linter.unusedVariables false
set_option linter.unusedSimpArgs false
namespace Go.Proofs.YtjbfehippchniaaGreatDoor
open Go.Sh Go.Sh.Lx Go.Sh.Pr Go.RowKit Go.Shelf
variable {w0 w w' : World}
abbrev Hs:=List (ByteArray × (SV × List (Tok × SV)))
theorem put_mapH (D:Hs) (k:ByteArray) (s:SV) (ts:List (Tok × SV)):(AL.put D k (s,ts)).map (λx=>(x.1,x.2.1))=AL.put (D.map λx=>(x.1,x.2.1)) k s:=by
  induction D with
  | nil=>rfl
  | cons x D ih=>
    obtain⟨a,b⟩:=x
    simp only[AL.put,List.map_cons]
    split
    · rfl
    · rw[List.map_cons,ih]
theorem put_memH {D:Hs} {k:ByteArray} {v:SV × List (Tok × SV)} {x:ByteArray × (SV × List (Tok × SV))} (h:x ∈ AL.put D k v):x ∈ D∨x.2=v:=by
  induction D with
  | nil=>
    simp only[AL.put,List.mem_singleton]at h
    exact .inr (by rw[h])
  | cons y D ih=>
    obtain⟨a,b⟩:=y
    simp only[AL.put]at h
    split at h
    · rcases List.mem_cons.1 h with h|h
      · exact .inr (by rw[h])
      · exact .inl (List.mem_cons_of_mem _ h)
    · rcases List.mem_cons.1 h with h|h
      · exact .inl (by rw[h];exact List.mem_cons_self)
      · rcases ih h with h|h
        · exact .inl (List.mem_cons_of_mem _ h)
        · exact .inr h
structure HasA(w:World)(m:Nat)(H:Hs):Prop where
  map:Go.Sh.MapAt w ekS slV m (H.map λx=>(x.1,x.2.1))
  rows:∀x ∈ H,RowAt w 112 4 x.2.1 (x.2.2.flatMap ftV)
theorem HasA.pu{m:Nat}{H:Hs}(h:HasA w m H)(hp:Pu w w'):HasA w' m H:=⟨h.map.pu hp,λx hx=>(h.rows x hx).pu hp⟩
theorem HasA.st {m r:Nat} {H:Hs} (h:HasA w m H) {c:Array Value} (hr:w.heap[r]?=some (.cells c 186)) (hf:Fr (·=r) w w'):HasA w' m H:=by
  have hmr:m ≠ r:=λe=>by
    obtain⟨es,clk,hmb,_⟩:=h.map
    rw[e,hr]at hmb;cases hmb
  exact⟨h.map.fr hf hmr,λx hx=>(h.rows x hx).fr hf λk hk e=>by
    rw[show k=r from e]at hk
    exact(h.rows x hx).other hr (by decide) hk⟩
theorem cells_sub {s:SV} {T:List (Tok × SV)} (h:CellsR w s T) (hcap:s.len<=s.cap) {i j:Nat} (hij:i<=j) (hj:j<=T.length):CellsR w ⟨if s.cap=i then s.a else s.a.map (λx=>x.add (i * 4)),j - i,s.cap - i⟩ ((T.take j).drop i):=by
  have hl:=h.1
  refine⟨by simp;omega,cells_flat ftV_len (by decide) λk x hx=>?_⟩
  have hk:k<j - i:=by
    have:=(List.getElem?_eq_some_iff.1 hx).1
    simp at this;omega
  rw[List.getElem?_drop,List.getElem?_take,if_pos (by omega)]at hx
  obtain⟨a,ha,_,_,hc⟩:=h.at hx
  dsimp only
  rw[if_neg (by omega),ha]
  refine⟨_,rfl,λo v hv=>?_⟩
  have:=hc o v hv
  rw[toNat_i,Nat.add_mul,←Addr.add_add]at this
  exact this
theorem cloneT_c {s:SV} {L:List (Tok × SV)} (h:CellsR w s L) (hl:L.length<=100000):Calls Tryz.prog 199 #[.slice s.a s.len s.cap] w (CloneR w 112 4 (L.flatMap ftV)):=by
  have hsl:=h.1
  refine F199_calls s w _ (clone_any Tryz.underlying84 info112 rfl (by decide) s (by rw[flatMap_len ftV_len,hsl]) h.2 (λu hu=>?_) (by omega))
  obtain⟨x,_,hx⟩:=List.mem_flatMap.1 hu
  exact ftV_one x u hx
theorem exprP_le {f:Bool} {T:List (Tok × SV)} {fs:List Pt}:∀(n i d:Nat),i<=T.length->i<=exprP f T fs n i d/\exprP f T fs n i d<=T.length
  | 0,i,d,h=>⟨Nat.le_refl _,h⟩
  | n+1,i,d,h=>by
    unfold exprP
    cases ht:T[i]? with
    | none=>exact⟨Nat.le_refl _,h⟩
    | some t=>
      have hlt:=(List.getElem?_eq_some_iff.1 ht).1
      dsimp only
      split
      · exact⟨Nat.le_refl _,h⟩
      · have:=exprP_le (f:=f) (T:=T) (fs:=fs) n (i+1) (depP t.1 d) (by omega)
        exact⟨by omega,this.2⟩
theorem marker_c {r m i:Nat} {s q:SV} {T:List (Tok × SV)} {f:Bool} {H:Hs} (h:Mst w0 w r m s T i f) (hH:HasA w m H) {fs:List Pt} (hq:RdSl w q fs) (hT:∀t ∈ T,t.1.text.size<=140737488355328) (hTl:T.length<=100000) (hcap:s.len<=s.cap) (hi:i<=T.length) {p:Pt} (hp:p.kind=1) :
    Calls Tryz.prog 174 #[.pointer (some ⟨r,0,none⟩),.agg (ptV p).toArray,.slice q.a q.len q.cap] w λe w'=>e=.returned (.bool (decide (exprP f T fs T.length i 0 ≠ i)))/\(exprP f T fs T.length i 0 ≠ i->Mst w0 w' r m s T (exprP f T fs T.length i 0) f/\∃sl:SV,HasA w' m (AL.put H p.nm (sl,(T.take (exprP f T fs T.length i 0)).drop i)))/\∃k,Mst w0 w' r m s T k f:=by
  have hTs:=h.cells0.1
  obtain⟨j1,j2⟩:=exprP_le (f:=f) (T:=T) (fs:=fs) T.length i 0 hi
  refine calls_by (F174_calls _ _ _ _ _ _ ⟨none,0,0⟩ ⟨none,0,0⟩ _ w) λR hR=>alB λw1 hp1 hb1=>?_
  have h1:=h.pu hp1
  have hrlt:=blk_lt h.blk
  rw[ptrE_some]
  refine⟨_,cl h1.blk 1,_,cl0 hb1,Br.f (by rw[hp];rfl) ⟨_,cl0 hb1,?_⟩⟩
  rw[hp]
  refine(expr_c h1 (hq.pu hp1) hT hTl hi).mono ?_
  rintro e w2 ⟨rfl,h2,hf2⟩
  obtain⟨j,hj⟩:∃j,j=exprP f T fs T.length i 0:=⟨_,rfl⟩
  rw[←hj]at h2 j1 j2 hR
  have hb2:=hf2.blk hb1 (by omega)
  have hH2:=(hH.pu hp1).st h1.blk hf2
  refine⟨rfl,?_⟩
  rw[ptrE_some]
  refine⟨_,cl h2.blk 1,Br.of (λc=>hR _ _ ⟨?_,λhn=>?_,_,h2⟩) (λc=>?_)⟩
  · rw[decide_eq_false (λhn=>hn (by have:=btrue c;omega))]
  · exact absurd (by have:=btrue c;omega) hn
  have hne:j ≠ i:=λe=>bfalse c (by rw[e])
  refine dwE_intro λw3 hp3 _=>⟨λu=>Pu w3 u,Pu.refl _,?_⟩
  have h3:=h2.pu hp3
  have hb3:=hp3.blk hb2
  have hH3:=hH2.pu hp3
  simp only[ptrE_some]
  refine⟨some m,λu hu=>cl (hu.blk h3.blk) 3,_,λu hu=>cl (hu.blk hb3) 4,s,λu hu=>cl0 (hu.blk h3.blk),_,λu hu=>cl (hu.blk h3.blk) 1,by omega,by omega,by omega,by omega,?_⟩
  rw[toNat_i,toNat_i]
  refine(cloneT_c (cells_sub h3.cells hcap j1 j2) (by simp;omega)).mono ?_
  rintro e w4 ⟨sl,rfl,hrow,hnew,hp4⟩
  refine⟨sl,rfl,hp4,?_⟩
  have h4:=h3.pu hp4
  have hH4:=hH3.pu hp4
  obtain⟨w5,hrun,hM5,hf5,hz5⟩:=hH4.map.upd (P:=Tryz.prog) (kt:=9) (t:=161) (e:=84) (keys_str Tryz.underlying9) (by kernel_rfl) p.nm sl
  have hrun2:(Instr.mapUpdate 161 (.map (some m)) (.string p.nm) (.slice sl.a sl.len sl.cap)).run Tryz.prog w4=.ok () w5:=hrun
  obtain⟨es,clk,hmb,_⟩:=hH4.map
  have hrm:r ≠ m:=λe=>by
    have:=h4.blk
    rw[e,hmb]at this;cases this
  have h05:Pu w0 w5:=h4.since.andNew hf5 λi hi=>by rw[show i=m from hi];exact h4.nm
  have rowm:∀{s':SV} {vs:List Value},RowAt w4 112 4 s' vs->RowAt w5 112 4 s' vs:=λ{s' vs} hr=>hr.fr hf5 λk hk e=>by
    rw[show k=m from e]at hk
    obtain⟨_,rfl|⟨g,cur,g1,g2,_⟩⟩:=hr
    · simp[blkOf]at hk
    · simp[blkOf,g1]at hk
      rw[←hk,hmb]at g2;cases g2
  have h5:Mst w0 w5 r m s T j f:=⟨h05,h4.nr,h4.nm,hf5.blk h4.blk hrm,h4.cells0⟩
  refine⟨w5,hrun2,hR _ _ ⟨by rw[decide_eq_true hne],λ_=>⟨h5,sl,?_,λy hy=>?_⟩,_,h5⟩⟩
  · rw[put_mapH];exact hM5
  · rcases put_memH hy with hy|hy
    · exact rowm (hH4.rows y hy)
    · rw[hy];exact rowm hrow
end Go.Proofs.YtjbfehippchniaaGreatDoor

/- Pre: the matcher: a row. No condition but those stated. -/
set_option maxRecDepth 100000
set_option linter.unusedVariables false
set_option linter.unusedSimpArgs false
namespace Go.Proofs.YtjbfehippchniaaGreatDoor
open Go.Sh Go.Sh.Lx Go.Sh.Pr Go.RowKit Go.Shelf
variable {w0 w w' : World}
abbrev Gs:=List (ByteArray × List (Tok × SV))
def gs(H:Hs):Gs:=H.map λx=>(x.1,x.2.2)
theorem put_gs (D:Hs) (k:ByteArray) (s:SV) (ts:List (Tok × SV)):gs (AL.put D k (s,ts))=AL.put (gs D) k ts:=by
  unfold gs
  induction D with
  | nil=>rfl
  | cons x D ih=>
    obtain⟨a,b⟩:=x
    simp only[AL.put,List.map_cons]
    split
    · rfl
    · rw[List.map_cons,ih]
def mrow (f:Bool) (T:List (Tok × SV)):List Pt->Nat->Gs->Option (Nat × Gs)
  | [],i,H=>some (i,H)
  | p :: ps,i,H=>if p.kind=0 then(if atP f T i p=true then mrow f T ps (i+1) H else none)
    else if exprP f T (firstsP ps) T.length i 0 ≠ i then mrow f T ps (exprP f T (firstsP ps) T.length i 0) (AL.put H p.nm ((T.take (exprP f T (firstsP ps) T.length i 0)).drop i))else none
theorem mrow_c {r m:Nat} {s q:SV} {T:List (Tok × SV)} {f:Bool} (h:Mst w0 w r m s T 0 f) (hH:HasA w m []) {ps:List Pt} (hq:RdSl w0 q ps) (hk:∀p ∈ ps,p.kind=0∨p.kind=1) (hpl:ps.length<=1000) (hT:∀t ∈ T,t.1.text.size<=140737488355328) (hTl:T.length<=100000) (hcap:s.len<=s.cap) :
    Calls Tryz.prog 151 #[.pointer (some ⟨r,0,none⟩),.slice q.a q.len q.cap,.slice none 0 0] w λe w'=>e=.returned (.bool (mrow f T ps 0 []).isSome)/\(∃k,Mst w0 w' r m s T k f)/\∀j G,mrow f T ps 0 []=some (j,G)->Mst w0 w' r m s T j f/\∃H,HasA w' m H/\gs H=G:=by
  have hql:=hq.len
  have hqc:=hq.cap
  refine calls_by (F151_calls _ _ ⟨none,0,0⟩ w) λR hR=>loopUp ps.length (λk n w'=>n=(k:Int)/\∃i H,i<=T.length/\Mst w0 w' r m s T i f/\HasA w' m H/\mrow f T (ps.drop k) i (gs H)=mrow f T ps 0 []) ⟨rfl,0,[],Nat.zero_le _,h,hH,rfl⟩ ?_
  rintro k J n w1 hk2 ⟨rfl,i,H,hi,h1,hH1,he⟩ hJ
  have next:∀{w2:World},k<ps.length->(∃i H,i<=T.length/\Mst w0 w2 r m s T i f/\HasA w2 m H/\mrow f T (ps.drop (k+1)) i (gs H)=mrow f T ps 0 [])->F151_2 R J (some ⟨r,0,none⟩) q ⟨none,0,0⟩ (k:Int) [] w2:=λ{w2} hlt hx=>by
    unfold F151_2
    rw[wrap_in (by omega) (by omega)]
    exact hJ _ _ hlt ⟨by omega,hx⟩
  have fail:∀{w2:World} {j:Nat},mrow f T ps 0 []=none->Mst w0 w2 r m s T j f->R (.returned (.bool false)) w2:=λ{w2 j} hn hm=>hR _ _ ⟨by rw[hn];rfl,⟨_,hm⟩,λj G hj=>by rw[hn]at hj;cases hj⟩
  refine Br.of (λc=>?_) (λc=>?_)
  · have c:=dtrue c
    have hlt:k<ps.length:=by omega
    obtain⟨p,hp⟩:=at_k (l:=ps) (k:=k) hlt
    obtain⟨a,ha,k1,k2,hc⟩:=RdSl.pt (hq.pu h1.since) hp
    rw[drop_at hp]at he
    refine⟨a,ha,k1,k2,_,by have:=hc 0 _ rfl;rw[add0]at this;exact this,Br.of (λc0=>?_) (λc0=>?_)⟩
    · have c0:p.kind=0:=btrue c0
      refine⟨a,ha,k1,k2,_,hc 0 _ rfl,_,hc 1 _ rfl,_,hc 2 _ rfl,_,hc 3 _ rfl,_,hc 4 _ rfl,⟨none,0,0⟩,hc 5 _ rfl,⟨none,0,0⟩,hc 6 _ rfl,(mnext_c h1 p hT).mono ?_⟩
      rintro e w2 ⟨rfl,hp2⟩
      have h2:=h1.pu hp2
      have he2:mrow f T (p :: ps.drop (k+1)) i (gs H)=if atP f T i p=true then mrow f T (ps.drop (k+1)) (i+1) (gs H)else none:=by
        conv=>lhs;unfold mrow
        rw[if_pos c0]
      rw[he2]at he
      refine⟨_,rfl,Br.of (λc1=>?_) (λc1=>?_)⟩
      · rw[if_neg (by simpa using c1)]at he
        exact fail he.symm h2
      · have c1:atP f T i p=true:=by simpa using c1
        rw[if_pos c1]at he
        have hlt2:i<T.length:=by
          cases hti:T[i]? with
          | none=>unfold atP at c1;rw[hti]at c1;cases c1
          | some t=>exact(List.getElem?_eq_some_iff.1 hti).1
        rw[ptrE_some]
        refine⟨_,cl h2.blk 1,?_⟩
        rw[ptrE_some,show IntKind.i64.wrap ((i:Int)+1)=((i+1:Nat):Int)from by rw[wrap_in (by omega) (by omega)];omega]
        exact h2.set (i+1) λw3 h3 hf3=>next hlt ⟨i+1,H,by omega,h3,(hH1.pu hp2).st h2.blk hf3,he⟩
    · have c0:¬p.kind=0:=bfalse c0
      have c1:p.kind=1:=(hk p (List.mem_of_getElem? hp)).resolve_left c0
      refine Br.f (by rw[c1];rfl) (dwE_intro λw2 hp2 _=>⟨λu=>Pu w2 u,Pu.refl _,?_⟩)
      have h2:=h1.pu hp2
      have hc2:∀(o:Nat) (v:Value),(ptV p)[o]?=some v->∀u,Pu w2 u->u.cell? ((a.add (((k:Int)).toNat * 7)).add o)=some v:=λo v hv u hu=>(hp2.trans hu).cell (hc o v hv)
      refine⟨a,ha,k1,k2,_,hc2 0 _ rfl,_,hc2 1 _ rfl,_,hc2 2 _ rfl,_,hc2 3 _ rfl,_,hc2 4 _ rfl,⟨none,0,0⟩,hc2 5 _ rfl,⟨none,0,0⟩,hc2 6 _ rfl,?_⟩
      rw[show IntKind.i64.wrap ((k:Int)+1)=((k+1:Nat):Int)from by rw[wrap_in (by omega) (by omega)];omega,toNat_i]
      refine⟨hqc,by omega,by omega,alB λw3 hp3 hb3=>⟨hp3,?_⟩⟩
      have h3:=h2.pu hp3
      have hsub:=rd_sub (hq.pu h3.since) (lo:=k+1) (hi:=ps.length) (by omega) (Nat.le_refl _) (if q.cap=k+1 then q.a else q.a.map (λx=>x.add ((k+1) * 7))) (q.len - (k+1)) (q.cap - (k+1)) rfl (by rw[hql]) rfl
      rw[List.take_length]at hsub
      refine(concatP_c (rows:=[((⟨if q.cap=k+1 then q.a else q.a.map (λx=>x.add ((k+1) * 7)),q.len - (k+1),q.cap - (k+1)⟩:SV),ps.drop (k+1)),(⟨none,0,0⟩,[])]) hb3 (λx hx=>?_) (by show 2<=10;omega) (by simp;omega)).mono ?_
      · simp only[List.mem_cons,List.mem_nil_iff,or_false]at hx
        rcases hx with rfl|rfl
        · exact CellsP.of hsub
        · exact⟨rfl,λj u hu=>by simp at hu⟩
      rintro e w4 ⟨hp4,s4,rfl,hr4,_⟩
      have hr4:RowAt w4 128 7 s4 ((ps.drop (k+1)).flatMap ptV):=by simpa using hr4
      have hd4:=rd_pts hr4 (by simp;omega)
      refine⟨s4,rfl,hp3.trans hp4,(firsts_c hd4 λp hp=>hk p (List.mem_of_mem_drop hp)).mono ?_⟩
      rintro e w5 ⟨hp5,s5,rfl,hd5⟩
      have h5:=(h3.pu hp4).pu hp5
      refine⟨s5,rfl,(hp3.trans hp4).trans hp5,(marker_c h5 (hH1.pu (hp2.trans (hp3.trans (hp4.trans hp5)))) hd5 hT hTl hcap hi c1).mono ?_⟩
      rintro e w6 ⟨rfl,hy,kk,hn⟩
      have he2:mrow f T (p :: ps.drop (k+1)) i (gs H)=if exprP f T (firstsP (ps.drop (k+1))) T.length i 0 ≠ i then mrow f T (ps.drop (k+1)) (exprP f T (firstsP (ps.drop (k+1))) T.length i 0) (AL.put (gs H) p.nm ((T.take (exprP f T (firstsP (ps.drop (k+1))) T.length i 0)).drop i))else none:=by
        conv=>lhs;unfold mrow
        rw[if_neg c0]
      rw[he2]at he
      refine⟨_,rfl,Br.of (λc2=>?_) (λc2=>?_)⟩
      · have c2:¬(exprP f T (firstsP (ps.drop (k+1))) T.length i 0 ≠ i):=by simpa using c2
        rw[if_neg c2]at he
        exact fail he.symm hn
      · have c2:exprP f T (firstsP (ps.drop (k+1))) T.length i 0 ≠ i:=by simpa using c2
        rw[if_pos c2]at he
        obtain⟨h6,sl,hH6⟩:=hy c2
        exact next hlt ⟨_,_,(exprP_le _ _ _ hi).2,h6,hH6,by rw[put_gs];exact he⟩
  · have c:=dfalse c
    obtain rfl:k=ps.length:=by omega
    rw[List.drop_length]at he
    have he:some (i,gs H)=mrow f T ps 0 []:=he
    refine hR _ _ ⟨by rw[←he];rfl,⟨_,h1⟩,λj G hj=>?_⟩
    rw[←he]at hj
    cases hj
    exact⟨h1,H,hH1,rfl⟩
end Go.Proofs.YtjbfehippchniaaGreatDoor

/- Pre: a pattern matched with all tokens; a result filled. No condition but those stated. -/
set_option maxRecDepth 100000
set_option linter.unusedVariables false
set_option linter.unusedSimpArgs false
namespace Go.Proofs.YtjbfehippchniaaGreatDoor
open Go.Sh Go.Sh.Lx Go.Sh.Pr Go.RowKit Go.Shelf
variable {w0 w w' : World}
def matP (T:List (Tok × SV)) (ps:List Pt):Option Gs:=match mrow true T ps 0 []with
  | some (j,G)=>if j=T.length then some G else none
  | none=>none
theorem matched_c {s q:SV} {T:List (Tok × SV)} (hs:CellsR w s T) {ps:List Pt} (hq:RdSl w q ps) (hk:∀p ∈ ps,p.kind=0∨p.kind=1) (hpl:ps.length<=1000) (hT:∀t ∈ T,t.1.text.size<=140737488355328) (hTl:T.length<=100000) (hcap:s.len<=s.cap) :
    Calls Tryz.prog 124 #[.slice q.a q.len q.cap,.slice s.a s.len s.cap,.int .i64 0,.bool true] w λe w'=>Pu w w'/\∃(m:Nat) (n:Int),e=.returned (.tuple #[.map (some m),.int .i64 n,.bool (matP T ps).isSome])/\∀G,matP T ps=some G->n=(T.length:Int)/\∃H,HasA w' m H/\gs H=G:=by
  have hsl:=hs.1
  refine calls_by (F124_calls _ _ _ _ w) λR hR=>alE_intro λw1 hw1=>alB λw2 hp2 hb2=>?_
  have hp1:Pu w w1:=by rw[hw1];exact Pu.alloc _ _
  have hM:Go.Sh.MapAt w1 ekS slV w.heap.size ([]:List (ByteArray × SV)):=by rw[hw1];exact Go.Sh.MapAt.new w ekS slV
  have hP:=hp1.trans hp2
  have h2:Mst w w2 w1.heap.size w.heap.size s T 0 true:=⟨hP,hp1.size,Nat.le_refl _,hb2,hs⟩
  have hH2:HasA w2 w.heap.size []:=⟨hM.pu hp2,λx hx=>by cases hx⟩
  refine(mrow_c h2 hH2 hq hk hpl hT hTl hcap).mono ?_
  rintro e w3 ⟨rfl,⟨i,h3⟩,hy⟩
  refine⟨_,rfl,dwE_intro λw4 hp4 _=>?_⟩
  have h4:=h3.pu hp4
  refine⟨_,cl h4.blk 3,_,cl h4.blk 1,Br.of (λc=>Br.f rfl ⟨_,cl h4.blk 1,?_⟩) (λc=>?_)⟩
  · obtain⟨⟨j,G⟩,hj⟩:=Option.isSome_iff_exists.1 c
    obtain⟨h5,H,hH,hG⟩:=hy j G hj
    have e1:((i:Nat):Int)=(j:Int):=by
      have a1:=cl h3.blk 1
      have a2:=cl h5.blk 1
      rw[a1]at a2
      simpa using a2
    have e2:(((i:Nat):Int) == ((s.len:Nat):Int))=(matP T ps).isSome:=by
      unfold matP
      rw[hj,e1,hsl,beq_dec]
      dsimp only
      split
      · rename_i h;rw[h];simp
      · rename_i h
        rw[decide_eq_false (by omega)];rfl
    refine hR _ _ ⟨h4.since,_,_,by rw[e2],λG' hG'=>?_⟩
    unfold matP at hG'
    rw[hj]at hG'
    dsimp only at hG'
    split at hG'
    · rename_i h
      cases hG'
      exact⟨by omega,H,hH.pu hp4,hG⟩
    · cases hG'
  · have hn:mrow true T ps 0 []=none:=by
      cases h:mrow true T ps 0 []with
      | none=>rfl
      | some x=>rw[h]at c;cases c
    have hm:matP T ps=none:=by unfold matP;rw[hn]
    refine hR _ _ ⟨h4.since,_,_,by rw[hm];rfl,λG hG=>by rw[hm]at hG;cases hG⟩
def partT(G:Gs)(p:Pt):List (Tok × SV):=if p.kind=0 then [(p.t,⟨none,0,0⟩)]else(AL.get G p.nm).getD []
def fillP(G:Gs)(ps:List Pt):List (Tok × SV):=ps.flatMap (partT G)
theorem get_hs(H:Hs)(nm:ByteArray):(AL.get (H.map λx=>(x.1,x.2.1)) nm=none/\AL.get (gs H) nm=none)∨∃x ∈ H,AL.get (H.map λx=>(x.1,x.2.1)) nm=some x.2.1/\AL.get (gs H) nm=some x.2.2:=by
  induction H with
  | nil=>exact .inl ⟨rfl,rfl⟩
  | cons x H ih=>
    obtain⟨a,b⟩:=x
    simp only[gs,List.map_cons,AL.get]
    by_cases e:a=nm
    · rw[if_pos e,if_pos e]
      exact .inr ⟨(a,b),List.mem_cons_self,rfl,rfl⟩
    · rw[if_neg e,if_neg e]
      rcases ih with h|⟨x,hx,h1,h2⟩
      · exact .inl h
      · exact .inr ⟨x,List.mem_cons_of_mem _ hx,h1,h2⟩
theorem fill_c {m:Nat} {H:Hs} (hH:HasA w m H) {q:SV} {ps:List Pt} (hq:RdSl w q ps) (hk:∀p ∈ ps,p.kind=0∨p.kind=1) (hpl:ps.length<=1000) (hfl:(fillP (gs H) ps).length<=50000) :
    Calls Tryz.prog 125 #[.slice q.a q.len q.cap,.map (some m)] w λe w'=>Pu w w'/\∃s:SV,e=.returned (.tuple #[.slice s.a s.len s.cap,.bool true])/\RowAt w' 112 4 s ((fillP (gs H) ps).flatMap ftV):=by
  have hql:=hq.len
  refine calls_by (F125_calls _ _ w) λR hR=>alB λw1 hp1 hb1=>?_
  have hle:∀k,(fillP (gs H) (ps.take k)).length<=50000:=λk=>by
    have e:fillP (gs H) ps=fillP (gs H) (ps.take k) ++ fillP (gs H) (ps.drop k):=by
      unfold fillP;rw[←List.flatMap_append,List.take_append_drop]
    have:=congrArg List.length e
    rw[List.length_append]at this;omega
  refine loopUp ps.length (λk t w'=>∃s':SV,t=(s',(k:Int))/\Pu w1 w'/\RowAt w' 112 4 s' ((fillP (gs H) (ps.take k)).flatMap ftV)/\NewR w1 s') ⟨⟨none,0,0⟩,rfl,Pu.refl _,RowAt.nil _ _ _,by simp[NewR,blkOf]⟩ ?_
  rintro k J t w2 hk2 ⟨s',rfl,hp2,hr2,hn2⟩ hJ
  dsimp only
  refine Br.of (λc=>?_) (λc=>?_)
  · have c:=dtrue c
    have hlt:k<ps.length:=by omega
    obtain⟨p,hp⟩:=at_k (l:=ps) (k:=k) hlt
    have hP2:=hp1.trans hp2
    obtain⟨a,ha,k1,k2,hc⟩:=RdSl.pt (hq.pu hP2) hp
    have hpre:fillP (gs H) (ps.take (k+1))=fillP (gs H) (ps.take k) ++ partT (gs H) p:=by
      unfold fillP;rw[take_at hp,List.flatMap_append];simp
    have hl1:=hle (k+1)
    have hl0:=hle k
    rw[hpre,List.length_append]at hl1
    refine⟨a,ha,k1,k2,_,hc 0 _ rfl,_,hc 1 _ rfl,_,hc 2 _ rfl,_,hc 3 _ rfl,_,hc 4 _ rfl,⟨none,0,0⟩,hc 5 _ rfl,⟨none,0,0⟩,hc 6 _ rfl,?_⟩
    refine boxA (vs:=(ptV p).toArray) (zs:=pz) rfl (by rw[size128];rfl) rfl λw3 hp3 hz3 hb3=>⟨_,cl0 hb3,Br.of (λc0=>?_) (λc0=>?_)⟩
    · have c0:p.kind=0:=btrue c0
      have e:partT (gs H) p=[(p.t,⟨none,0,0⟩)]:=if_pos c0
      refine⟨_,cl hb3 1,_,cl hb3 2,_,cl hb3 3,alB λw4 hp4 hb4=>?_⟩
      obtain⟨s2,w5,hrun,hr5,hf5,hn5⟩:=push_ft (hr2.pu (hp3.trans hp4)) (by omega) (p.t,(⟨none,0,0⟩:SV)) hb4
      have hP4:=hp2.trans (hp3.trans hp4)
      refine⟨s2,w5,hrun,?_⟩
      rw[wrap_in (by omega) (by omega)]
      refine hJ _ _ hlt ⟨s2,by rw[show(k:Int)+1=((k+1:Nat):Int)by omega],hP4.andNew hf5 λi hi=>hn2 i hi,?_,λi hi=>?_⟩
      · rw[hpre,e];exact hr5
      · rcases hn5 i hi with h|h
        · exact hn2 i h
        · have:=hP4.size;omega
    · have c0:¬p.kind=0:=bfalse c0
      have c1:p.kind=1:=(hk p (List.mem_of_getElem? hp)).resolve_left c0
      have e:partT (gs H) p=(AL.get (gs H) p.nm).getD []:=if_neg c0
      refine Br.t (by rw[c1];rfl) ?_
      have hP3:=hP2.trans hp3
      have hb13:=hp3.blk (hp2.blk hb1)
      refine⟨_,cl0 hb13,_,cl hb3 4,?_⟩
      have hlook:=(hH.pu hP3).map.look (P:=Tryz.prog) (kt:=9) (t:=161) (e:=84) (keys_str Tryz.underlying9) (by kernel_rfl) (z:=.slice none 0 0) (Tryz.zeroValue84 _) p.nm false
      rw[if_neg (by decide)]at hlook
      have fin:∀(g:SV),((AL.get (H.map λx=>(x.1,x.2.1)) p.nm).elim (Value.slice none 0 0) slV)=slV g->CellsR w1 g (partT (gs H) p)->∃l52:SV,∃w8:World,(Instr.lookup 161 (.map (some m)) (.string p.nm) false).run Tryz.prog w3=.ok (.slice l52.a l52.len l52.cap) w8/\∃l53:SV,∃w9:World,(Builtin.append_ #[84,84] 84 #[.slice s'.a s'.len s'.cap,.slice l52.a l52.len l52.cap]).run Tryz.prog w8=.ok (.slice l53.a l53.len l53.cap) w9/\J (l53,(IntKind.i64.wrap ((k:Int)+1))) w9:=λg hg hcl=>by
        rw[hg]at hlook
        obtain⟨s2,w5,hrun,hr5,hp5,hn5⟩:=push_cells (hr2.pu hp3) hn2 (hp2.trans hp3) hcl (by omega)
        refine⟨g,w3,hlook,s2,w5,hrun,?_⟩
        rw[wrap_in (by omega) (by omega)]
        exact hJ _ _ hlt ⟨s2,by rw[show(k:Int)+1=((k+1:Nat):Int)by omega],hp5,by rw[hpre];exact hr5,hn5⟩
      rcases get_hs H p.nm with⟨g1,g2⟩|⟨x,hx,g1,g2⟩
      · exact fin ⟨none,0,0⟩ (by rw[g1];rfl) (by rw[e,g2];exact⟨rfl,λj u hu=>by simp at hu⟩)
      · exact fin x.2.1 (by rw[g1];rfl) (by rw[e,g2];exact CellsR.of ((hH.rows x hx).pu hp1))
  · have c:=dfalse c
    obtain rfl:k=ps.length:=by omega
    rw[List.take_length]at hr2
    exact hR _ _ ⟨hp1.trans hp2,s',rfl,hr2⟩
end Go.Proofs.YtjbfehippchniaaGreatDoor

/- Pre: a command applied. No condition but those stated. -/
set_option maxRecDepth 100000
set_option linter.unusedVariables false
set_option linter.unusedSimpArgs false
namespace Go.Proofs.YtjbfehippchniaaGreatDoor
open Go.Sh Go.Sh.Lx Go.Sh.Pr Go.RowKit Go.Shelf
variable {w0 w w' : World}
def cmdP (pa pb:List Pt) (T:List (Tok × SV)):Option (List (Tok × SV)):=(matP T pa).map λG=>fillP G pb
def emptyF:Ending:=.returned (.tuple #[.slice none 0 0,.bool false,.int .i64 0])
theorem apply_c {s s1 s2:SV} {T:List (Tok × SV)} {pa pb:List Pt} (hs:CellsR w s T) (hcap:s.len<=s.cap) (ha:RdSl w s1 pa) (hb:RdSl w s2 pb) (ka:∀p ∈ pa,p.kind=0∨p.kind=1) (kb:∀p ∈ pb,p.kind=0∨p.kind=1) (la:pa.length<=1000) (lb:pb.length<=1000)
    (hT:∀t ∈ T,t.1.text.size<=140737488355328) (hTl:T.length<=100000) (hf:∀l,cmdP pa pb T=some l->l.length<=50000) :
    Calls Tryz.prog 87 #[.agg (ruV true s1 s2).toArray,.slice s.a s.len s.cap] w λe w'=>Pu w w'/\(cmdP pa pb T=none->e=emptyF)/\∀l,cmdP pa pb T=some l->∃s':SV,e=.returned (.tuple #[.slice s'.a s'.len s'.cap,.bool true,.int .i64 0])/\RowAt w' 112 4 s' (l.flatMap ftV):=by
  have hsl:=hs.1
  refine calls_by (F87_calls _ _ _ _ w) λR hR=>alB λw1 hp1 hb1=>⟨_,cl0 hb1,Br.t rfl ?_⟩
  intro J hJ
  refine hJ _ _ (Br.t (by decide) ?_)
  rw[ptrE_some]
  refine⟨s1,cl hb1 1,?_⟩
  rw[ptrE_some]
  refine⟨_,cl0 hb1,(matched_c (hs.pu hp1) (ha.pu hp1) ka la hT hTl hcap).mono ?_⟩
  rintro e w2 ⟨hp2,m,n,rfl,hy⟩
  have hP2:=hp1.trans hp2
  refine⟨some m,n,_,rfl,Br.of (λc=>?_) (λc=>?_)⟩
  · have hm:matP T pa=none:=by
      cases h:matP T pa with
      | none=>rfl
      | some x=>rw[h]at c;cases c
    have hn:cmdP pa pb T=none:=by unfold cmdP;rw[hm];rfl
    refine hJ _ _ (Br.f (by decide) (hR _ _ ⟨hP2,λ_=>rfl,λl hl=>by rw[hn]at hl;cases hl⟩))
  · obtain⟨G,hG⟩:∃G,matP T pa=some G:=by
      cases h:matP T pa with
      | none=>rw[h]at c;cases c
      | some x=>exact⟨x,rfl⟩
    obtain⟨rfl,H,hH,rfl⟩:=hy G hG
    have hn:cmdP pa pb T=some (fillP (gs H) pb):=by unfold cmdP;rw[hG];rfl
    have hfl:=hf _ hn
    have hb12:=hp2.blk hb1
    rw[ptrE_some]
    refine⟨s2,cl hb12 2,(fill_c hH (hb.pu hP2) kb lb hfl).mono ?_⟩
    rintro e w3 ⟨hp3,s3,rfl,hr3⟩
    refine⟨s3,_,rfl,Br.f rfl (dwE_intro λw4 hp4 _=>?_)⟩
    refine⟨by omega,by show 0<=s.cap;omega,by omega,hcap,by omega,by rw[toNat_i];omega,alB λw5 hp5 hb5=>?_⟩
    rw[toNat_i]at hb5
    have hP4:=hP2.trans (hp3.trans hp4)
    obtain⟨sa,hsa⟩:∃x:SV,x=⟨if s.cap=0 then s.a else s.a.map (λx=>x.add (0 * 4)),(0:Int).toNat - 0,s.cap - 0⟩:=⟨_,rfl⟩
    obtain⟨sc,hsc⟩:∃x:SV,x=⟨if s.cap=T.length then s.a else s.a.map (λx=>x.add (T.length * 4)),s.len - T.length,s.cap - T.length⟩:=⟨_,rfl⟩
    refine(concat_c (rows:=[(sa,[]),(s3,fillP (gs H) pb),(sc,[])]) (by rw[hb5,hsa,hsc];rfl) (λx hx=>?_) (by show 3<=10;omega) (by simp;omega)).mono ?_
    · simp only[List.mem_cons,List.mem_nil_iff,or_false]at hx
      rcases hx with rfl|rfl|rfl
      · exact⟨by rw[hsa];rfl,λj u hu=>by simp at hu⟩
      · exact(CellsR.of hr3).pu (hp4.trans hp5)
      · exact⟨by rw[hsc];show s.len - T.length=0;omega,λj u hu=>by simp at hu⟩
    rintro e w6 ⟨hp6,s6,rfl,hr6,_⟩
    refine⟨s6,rfl,hR _ _ ⟨hP4.trans (hp5.trans hp6),λh=>?_,λl hl=>?_⟩⟩
    · rw[hn]at h;cases h
    · rw[hn]at hl
      cases hl
      exact⟨s6,rfl,by simpa using hr6⟩
end Go.Proofs.YtjbfehippchniaaGreatDoor

/- Pre: once, where there is one command: the range's body. No condition but those stated. -/
set_option maxRecDepth 100000
set_option linter.unusedVariables false
set_option linter.unusedSimpArgs false
namespace Go.Proofs.YtjbfehippchniaaGreatDoor
open Go.Sh Go.Sh.Lx Go.Sh.Pr Go.RowKit Go.Shelf
variable {w0 w w' : World}
structure Axo(w0:World)(p:Addr)(q B:Nat)(s1 s2:SV)(a:Act)(W:World):Prop where
  sz:a.tmps.size=119
  df:a.defers=[]
  sl:Slt w0 p (envOf a)
  t15:envOf a 15=.pointer (some ⟨q,0,none⟩)
  rule:∃r,B<=r/\envOf a 17=.pointer (some ⟨r,0,none⟩)/\W.heap[r]?=some (.cells (ruV true s1 s2).toArray 72)
def QAsg(w0:World)(p:Addr)(q B:Nat)(s1 s2:SV)(W:World)(e:Exit)(v0 v3 v4 v5 v6 v15 v17:Value)(ds:Ds)(w':World):Prop:=
  e=.normal/\ds=[]/\Pu W w'/\(v0=.pointer (some p)/\v3=.pointer (some ⟨w0.heap.size,0,none⟩)/\v4=.pointer (some ⟨w0.heap.size+1,0,none⟩)/\v5=.pointer (some ⟨w0.heap.size+1+1,0,none⟩)/\v6=.pointer (some ⟨w0.heap.size+1+1+1,0,none⟩))/\v15=.pointer (some ⟨q,0,none⟩)/\∃r,B<=r/\v17=.pointer (some ⟨r,0,none⟩)/\w'.heap[r]?=some (.cells (ruV true s1 s2).toArray 72)
theorem asg_one {p:Addr} {q B r:Nat} {s1 s2:SV} {a:Act} {W:World} {K:Act->World->Prop} (hsz:a.tmps.size=119) (hdf:a.defers=[]) (hsl:Slt w0 p (envOf a)) (h15:envOf a 15=.pointer (some ⟨q,0,none⟩)) (h98:envOf a 98=.agg (ruV true s1 s2).toArray) (hB:B<=W.heap.size)
    (hK:∀a' W',Pu W W'->Axo w0 p q B s1 s2 a' W'->K a' W'):(asgOf rng49).wpIn (Fence.wide.inRound r) 2 Tryz.prog (Exit.then K (λ_ _ _=>False)) a W:=by
  refine rd_in (n:=119) (l:=[pS 0,pS 3,pS 4,pS 5,pS 6,pS 15,aS 98 [.bool,.slice,.slice]]) (Q:=λe ρ ds w'=>QAsg w0 p q B s1 s2 W e (ρ 0) (ρ 3) (ρ 4) (ρ 5) (ρ 6) (ρ 15) (ρ 17) ds w')
    (F:=λ(p0 p3 p4 p5 p6 p15:Option Addr) (b98:Bool) (l1 l2:SV) (ds:Ds) (w1:World)=>alE (.cells #[.bool false,.slice none 0 0,.slice none 0 0] 72) w1 λr17 w2=>stA Tryz.prog 72 (⟨r17,0,none⟩:Addr) #[.bool b98,.slice l1.a l1.len l1.cap,.slice l2.a l2.len l2.cap] w2 λw3=>QAsg w0 p q B s1 s2 W .normal (.pointer p0) (.pointer p3) (.pointer p4) (.pointer p5) (.pointer p6) (.pointer p15) (.pointer (some ⟨r17,0,none⟩)) ds w3)
    hsz (by kernel_rfl) ?_ (λe a' w' h=>?_)
  · refine kof_t (ty:=.ptr) (some p:Option Addr) hsl.s0 (kof_t (ty:=.ptr) (some ⟨w0.heap.size,0,none⟩:Option Addr) hsl.s3 (kof_t (ty:=.ptr) (some ⟨w0.heap.size+1,0,none⟩:Option Addr) hsl.s4 (kof_t (ty:=.ptr) (some ⟨w0.heap.size+1+1,0,none⟩:Option Addr) hsl.s5 (kof_t (ty:=.ptr) (some ⟨w0.heap.size+1+1+1,0,none⟩:Option Addr) hsl.s6 (kof_t (ty:=.ptr) (some ⟨q,0,none⟩:Option Addr) h15 ?_)))))
    show Shp.take (.agg [.bool,.slice,.slice]) (envOf a 98) _ _
    rw[h98]
    show alE (.cells #[.bool false,.slice none 0 0,.slice none 0 0] 72) W λr17 w2=>stA Tryz.prog 72 (⟨r17,0,none⟩:Addr) (ruV true s1 s2).toArray w2 λw3=>QAsg w0 p q B s1 s2 W .normal (.pointer (some p)) (.pointer (some ⟨w0.heap.size,0,none⟩)) (.pointer (some ⟨w0.heap.size+1,0,none⟩)) (.pointer (some ⟨w0.heap.size+1+1,0,none⟩)) (.pointer (some ⟨w0.heap.size+1+1+1,0,none⟩)) (.pointer (some ⟨q,0,none⟩)) (.pointer (some ⟨r17,0,none⟩)) a.defers w3
    refine boxA (t:=72) (vs:=(ruV true s1 s2).toArray) (zs:=#[.bool false,.slice none 0 0,.slice none 0 0]) rfl (by rw[size72];rfl) rfl λw3 hp3 _ hb3=>⟨rfl,hdf,hp3,⟨rfl,rfl,rfl,rfl,rfl⟩,rfl,_,hB,rfl,hb3⟩
  · cases e with
    | normal=>
      obtain⟨hs,_,hd,hp,⟨e0,e3,e4,e5,e6⟩,e15,er⟩:=h
      exact hK a' w' hp ⟨hs,hd,⟨e0,e3,e4,e5,e6⟩,e15,er⟩
    | ret=>exact absurd h.2.1 (by simp)
    | exit id=>exact absurd h.2.1 (by simp)
    | _=>exact h.elim
end Go.Proofs.YtjbfehippchniaaGreatDoor

/- Pre: once, where there is one command: the range's body. No condition but those stated. -/
set_option maxRecDepth 100000
set_option linter.unusedVariables false
set_option linter.unusedSimpArgs false
namespace Go.Proofs.YtjbfehippchniaaGreatDoor
open Go.Sh Go.Sh.Lx Go.Sh.Pr Go.RowKit Go.Shelf
variable {w0 w w' : World}
structure Sto49 (w0 W w':World) (l:List (Tok × SV)):Prop where
  fr:Fr (λk=>k=w0.heap.size+1∨k=w0.heap.size+1+1∨k=w0.heap.size+1+1+1) W w'
  res:∃s':SV,w'.heap[w0.heap.size+1]?=some (.cells #[.slice s'.a s'.len s'.cap] 84)/\RowAt w' 112 4 s' (l.flatMap ftV)
  b5:w'.heap[w0.heap.size+1+1]?=some (.cells #[.bool true] 4)
  b6:w'.heap[w0.heap.size+1+1+1]?=some (.cells #[.int .i64 0] 26)
def QBdy (w0 W:World) (bb:Bool) (o:Option (List (Tok × SV))) (e:Exit) (w':World):Prop:=
  ((bb=false∨o=none)/\e=.normal/\Pu W w')∨(bb=true/\∃l,o=some l/\e=.ret/\Sto49 w0 W w' l)
theorem bdy_one {p:Addr} {q B r:Nat} {s s1 s2:SV} {bb:Bool} {T:List (Tok × SV)} {pa pb:List Pt} {a:Act} {W:World} {X:Exit->Act->World->Prop} (h:Axo w0 p q B s1 s2 a W) (hB:OnB w0 W s) (hq:W.heap[q]?=some (.cells #[.bool bb] 4))
    (hs:CellsR W s T) (hcap:s.len<=s.cap) (ha:RdSl W s1 pa) (hb:RdSl W s2 pb) (ka:∀p ∈ pa,p.kind=0∨p.kind=1) (kb:∀p ∈ pb,p.kind=0∨p.kind=1) (la:pa.length<=1000) (lb:pb.length<=1000)
    (hT:∀t ∈ T,t.1.text.size<=140737488355328) (hTl:T.length<=100000) (hf:∀l,cmdP pa pb T=some l->l.length<=50000)
    (hX:∀e a' w',QBdy w0 W bb (cmdP pa pb T) e w'->X e a' w'):(bdyOf rng49).wpIn (Fence.wide.inRound r) 2 Tryz.prog X a W:=by
  obtain⟨k,hkB,h17,hk⟩:=h.rule
  refine rd_in (n:=119) (l:=[pS 3,pS 4,pS 5,pS 6,pS 15,pS 17]) (Q:=λe ρ ds w'=>QBdy w0 W bb (cmdP pa pb T) e w')
    (F:=λ(p3 p4 p5 p6 p15 p17:Option Addr) (ds:Ds) (w:World)=>ptrE p17 λa1=>
      ∃b100:Bool,w.cell? a1=some (.bool b100)/\
      ptrE p15 λa2=>
      ∃b101:Bool,w.cell? a2=some (.bool b101)/\
      Br (!(b100 == b101)) (
      QBdy w0 W bb (cmdP pa pb T) .normal w) (
      ptrE p17 λa3=>
      ∃b104_0:Bool,w.cell? (a3.add 0)=some (.bool b104_0)/\
      ∃l104_1:SV,w.cell? (a3.add 1)=some (.slice l104_1.a l104_1.len l104_1.cap)/\
      ∃l104_2:SV,w.cell? (a3.add 2)=some (.slice l104_2.a l104_2.len l104_2.cap)/\
      ptrE p3 λa4=>
      ∃l105:SV,w.cell? a4=some (.slice l105.a l105.len l105.cap)/\
      Calls Tryz.prog 87 #[.agg #[.bool b104_0,.slice l104_1.a l104_1.len l104_1.cap,.slice l104_2.a l104_2.len l104_2.cap],.slice l105.a l105.len l105.cap] w λe w5=>
      ∃l106_0:SV,∃b106_1:Bool,∃n106_2:Int,e=.returned (.tuple #[.slice l106_0.a l106_0.len l106_0.cap,.bool b106_1,.int .i64 n106_2])/\
      Br b106_1 (
      ptrE p4 λa6=>
      st1 a6 (.slice l106_0.a l106_0.len l106_0.cap) w5 λw7=>
      ptrE p5 λa8=>
      st1 a8 (.bool b106_1) w7 λw9=>
      ptrE p6 λa10=>
      st1 a10 (.int .i64 n106_2) w9 λw11=>
      QBdy w0 W bb (cmdP pa pb T) .ret w11) (
      Br (n106_2 != 0) (
      ptrE p4 λa12=>
      st1 a12 (.slice l106_0.a l106_0.len l106_0.cap) w5 λw13=>
      ptrE p5 λa14=>
      st1 a14 (.bool b106_1) w13 λw15=>
      ptrE p6 λa16=>
      st1 a16 (.int .i64 n106_2) w15 λw17=>
      QBdy w0 W bb (cmdP pa pb T) .ret w17) (
      QBdy w0 W bb (cmdP pa pb T) .normal w5))))
    h.sz (by kernel_rfl) ?_ (λe a' w' h=>?_)
  · refine kof_t (ty:=.ptr) (some ⟨w0.heap.size,0,none⟩:Option Addr) h.sl.s3 (kof_t (ty:=.ptr) (some ⟨w0.heap.size+1,0,none⟩:Option Addr) h.sl.s4 (kof_t (ty:=.ptr) (some ⟨w0.heap.size+1+1,0,none⟩:Option Addr) h.sl.s5 (kof_t (ty:=.ptr) (some ⟨w0.heap.size+1+1+1,0,none⟩:Option Addr) h.sl.s6 (kof_t (ty:=.ptr) (some ⟨q,0,none⟩:Option Addr) h.t15 (kof_t (ty:=.ptr) (some ⟨k,0,none⟩:Option Addr) h17 (kof_nil ?_))))))
    refine⟨_,cl0 hk,_,cl0 hq,?_⟩
    cases bb with
    | false=>exact Br.t rfl (.inl ⟨.inl rfl,rfl,Pu.refl _⟩)
    | true=>
      refine Br.f rfl ⟨_,cl hk 0,s1,cl hk 1,s2,cl hk 2,s,cl0 hB.b3,(apply_c hs hcap ha hb ka kb la lb hT hTl hf).mono ?_⟩
      rintro e w5 ⟨hp5,hn,hy⟩
      cases hc:cmdP pa pb T with
      | none=>
        exact⟨⟨none,0,0⟩,false,0,hn hc,Br.f rfl (Br.f rfl (.inl ⟨.inr rfl,rfl,hp5⟩))⟩
      | some l=>
        obtain⟨s',rfl,hr⟩:=hy l hc
        refine⟨s',true,0,rfl,Br.t rfl ?_⟩
        have hB5:=hB.on hp5
        rw[ptrE_some]
        refine st1_intro (b:=w0.heap.size+1) (o:=0) hB5.b4 (by decide) λw1 hw1 hb1=>?_
        have f1:Fr (·=w0.heap.size+1) w5 w1:=by rw[hw1];exact Fr.setCell w5 ⟨_,0,none⟩ _
        have c5:=f1.blk hB5.b5 (by omega)
        have c6:=f1.blk hB5.b6 (by omega)
        rw[ptrE_some]
        refine st1_intro (b:=w0.heap.size+1+1) (o:=0) c5 (by decide) λw2 hw2 hb2=>?_
        have f2:Fr (·=w0.heap.size+1+1) w1 w2:=by rw[hw2];exact Fr.setCell w1 ⟨_,0,none⟩ _
        have d6:=f2.blk c6 (by omega)
        rw[ptrE_some]
        refine st1_intro (b:=w0.heap.size+1+1+1) (o:=0) d6 (by decide) λw3 hw3 hb3=>?_
        have f3:Fr (·=w0.heap.size+1+1+1) w2 w3:=by rw[hw3];exact Fr.setCell w2 ⟨_,0,none⟩ _
        have r1:=hr.fr f1 λk hk e=>by rw[show k=_ from e]at hk;exact hr.other hB5.b4 (by decide) hk
        have r2:=r1.fr f2 λk hk e=>by rw[show k=_ from e]at hk;exact r1.other c5 (by decide) hk
        have r3:=r2.fr f3 λk hk e=>by rw[show k=_ from e]at hk;exact r2.other d6 (by decide) hk
        refine .inr ⟨rfl,l,rfl,rfl,⟨?_,⟨s',f3.blk (f2.blk hb1 (by omega)) (by omega),r3⟩,f3.blk hb2 (by omega),hb3⟩⟩
        exact(((Fr.pu hp5:Fr (λk=>k=w0.heap.size+1∨k=w0.heap.size+1+1∨k=w0.heap.size+1+1+1) W w5).trans f1 λi hi _=>.inl hi).trans f2 λi hi _=>.inr (.inl hi)).trans f3 λi hi _=>.inr (.inr hi)
  · have h:QBdy w0 W bb (cmdP pa pb T) e w':=by
      cases e with
      | normal=>exact h.2
      | ret=>exact h.2
      | exit id=>exact h.2
      | _=>exact h.elim
    exact hX e a' w' h
end Go.Proofs.YtjbfehippchniaaGreatDoor

/- Pre: once, where there is one command: the range. No condition but those stated. -/
set_option maxRecDepth 100000
set_option linter.unusedVariables false
set_option linter.unusedSimpArgs false
namespace Go.Proofs.YtjbfehippchniaaGreatDoor
open Go.Sh Go.Sh.Lx Go.Sh.Pr Go.RowKit Go.Shelf
variable {w0 w w' : World}
theorem cells_own {W W':World} {row:Option Nat} {B:Nat} (hg:W.grownBy W' row) (hr:∀r,row=some r->B<=r/\∃o:Obj,W.heap[r]?=some o/\o.isCells=false) {k:Nat} {c:Array Value} {t:TypeId} {f:Nat × Nat} (h:W.heap[k]?=some (.cells c t f)):W'.heap[k]?=some (.cells c t f):=by
  rw[hg.block k (blk_lt h) λe=>?_]
  · exact h
  · obtain⟨_,o,ho,hc⟩:=hr k e.symm
    rw[h]at ho;cases ho;cases hc
theorem Sto49.own {β:Type} {w:World} {l:List (Tok × SV)}:OwnFrom w.heap.size (λ(_:β) W=>Sto49 w0 w W l):=λs W W' row hs hg hr=>by
  obtain⟨f,⟨s',h1,h2⟩,h3,h4⟩:=hs
  refine⟨⟨hg.os.trans f.os,hg.tape.trans f.tape,hg.output.trans f.output,Nat.le_trans f.size hg.size,λk hk hn=>(hg.block k (Nat.lt_of_lt_of_le hk f.size) λe=>?_).trans (f.block k hk hn)⟩,⟨s',cells_own hg hr h1,?_⟩,cells_own hg hr h3,cells_own hg hr h4⟩
  · have:=(hr k e.symm).1;omega
  · obtain⟨h1,h2|⟨g,cur,g1,g2,g3⟩⟩:=h2
    · exact⟨h1,.inl h2⟩
    · exact⟨h1,.inr ⟨g,cur,g1,cells_own hg hr g2,g3⟩⟩
theorem Axo.own{p:Addr}{q B B':Nat}{s1 s2:SV}{a':Act}:OwnFrom B' (λ(_:Unit) W=>Axo w0 p q B s1 s2 a' W):=λs W W' row hs hg hr=>by
  obtain⟨r,h1,h2,h3⟩:=hs.rule
  exact⟨hs.sz,hs.df,hs.sl,hs.t15,r,h1,h2,cells_own hg hr h3⟩
theorem envOf_set{a:Act}{n i:Nat}{v:Value}(hn:a.tmps.size=n)(hi:i<n)(ds:List Deferred):envOf { tmps:=a.tmps.setIfInBounds i v,defers:=ds } i=v/\∀j,j ≠ i->envOf { tmps:=a.tmps.setIfInBounds i v,defers:=ds } j=envOf a j:=by
  refine⟨?_,λj hj=>?_⟩
  · simp[envOf,Array.getElem?_setIfInBounds,hn,hi]
  · simp[envOf,Array.getElem?_setIfInBounds,Ne.symm hj]
end Go.Proofs.YtjbfehippchniaaGreatDoor

/- Pre: once, where there is one command: the range. No condition but those stated. -/
set_option maxRecDepth 100000
set_option linter.unusedVariables false
set_option linter.unusedSimpArgs false
namespace Go.Proofs.YtjbfehippchniaaGreatDoor
open Go.Sh Go.Sh.Lx Go.Sh.Pr Go.RowKit Go.Shelf
variable {w0 w w' : World}
theorem range_one {p:Addr} {s rs s1 s2:SV} {i b c q:Nat} {T:List (Tok × SV)} {pa pb:List Pt} {a:Act} {w:World} {X:Exit->Act->World->Prop} (h:Sti w0 p s i b c q rs a w) (hlen:rs.len=1) (hrow:RowAt w 72 3 rs (ruV true s1 s2))
    (hs:CellsR w s T) (hcap:s.len<=s.cap) (ha:RdSl w s1 pa) (hb:RdSl w s2 pb) (ka:∀p ∈ pa,p.kind=0∨p.kind=1) (kb:∀p ∈ pb,p.kind=0∨p.kind=1) (la:pa.length<=1000) (lb:pb.length<=1000)
    (hT:∀t ∈ T,t.1.text.size<=140737488355328) (hTl:T.length<=100000) (hf:∀l,cmdP pa pb T=some l->l.length<=50000)
    (hN:i ≠ 1∨cmdP pa pb T=none->∀a' w',Stt w0 p s i b a' w'->X .normal a' w')
    (hS:∀l,i=1->cmdP pa pb T=some l->∀D w',w.heap.size<=D->Sto49 w0 w w' l->w'.heap[D]?=some (.deferred (some []))->X .ret { a with defers:={ target:=.collected D,args:=#[] } :: a.defers } w') :
    rng49.wpIn Fence.wide 4 Tryz.prog (Exit.inBlock 6 X) a w:=by
  obtain⟨_,rfl|⟨g,cur,g1,g2,g3,g4,g5,g6⟩⟩:=hrow
  · cases hlen
  have hcell:∀(o:Nat) (v:Value),(ruV true s1 s2)[o]?=some v->w.cell? ⟨g,0+o,none⟩=some v:=λo v hv=>by
    rw[cell_blk g2,Nat.zero_add]
    have ho:o<3:=(List.getElem?_eq_some_iff.1 hv).1
    rw[←g6,List.getElem?_take,if_pos (by rw[hlen];omega)]at hv
    simpa using hv
  have hc:=cl0 h.bc
  rw[g1,hlen]at hc
  rw[rng49_eq]
  refine wpIn_rangeFunc_ownH (α:=Unit) rfl (by omega) (gf:=123) (lb:=#[.pointer (some ⟨c,0,none⟩)]) (eval_env h.t96) trivial enters123 (back_one 3 (by omega) c g 0 rs.cap true s1 s2 w (blk_lt h.bc) (blk_lt g2) hc (hcell 0 _ rfl) (hcell 1 _ rfl) (hcell 2 _ rfl)) (λ_ _=>trivial) (λ_ _ _ _ _ _ _ _=>trivial) (Below.refl _ w) (λx=>rfl)
    (λxs W=>Pu w W/\(xs ≠ []->i ≠ 1∨cmdP pa pb T=none)) (λcd _ W=>cd=.ret/\i=1/\∃l,cmdP pa pb T=some l/\Sto49 w0 w W l) ?_ ?_ ⟨Pu.refl _,λh=>absurd rfl h⟩ (λ_ a' W=>Axo w0 p q w.heap.size s1 s2 a' W) (λx a'=>Axo.own) ?_ ?_ ?_ ?_
  · exact(ownFrom_below (Nat.le_refl _) (Nat.le_refl _)).and (ownFrom_pure _ _)
  · intro cd
    exact(ownFrom_pure _ (λ_=>cd=Code.ret)).and ((ownFrom_pure _ (λ_=>i=1)).and λs' W W' row ⟨l,h1,h2⟩ hg hr=>⟨l,h1,Sto49.own (β:=Unit) () W W' row h2 hg hr⟩)
  · intro l pre x W K hI hK
    have e1:((#[97,98]:Array Tmp).zip (encR true s1 s2 x)).foldl (λt (p,v)=>t.setIfInBounds p v) a.tmps=(a.tmps.setIfInBounds 97 (.int .i64 0)).setIfInBounds 98 (.agg (ruV true s1 s2).toArray):=by
      rw[←Array.foldl_toList,Array.toList_zip];rfl
    rw[e1]
    obtain⟨u1,u2⟩:=envOf_set (a:=a) (i:=97) (v:=.int .i64 0) h.st.sz (by decide) []
    obtain⟨v1,v2⟩:=envOf_set (a:={ tmps:=a.tmps.setIfInBounds 97 (.int .i64 0),defers:=[] }) (n:=119) (i:=98) (v:=.agg (ruV true s1 s2).toArray) (by simp[h.st.sz]) (by decide) []
    have hk:∀j,j ≠ 97->j ≠ 98->envOf { tmps:=(a.tmps.setIfInBounds 97 (.int .i64 0)).setIfInBounds 98 (.agg (ruV true s1 s2).toArray),defers:=[] } j=envOf a j:=λj h1 h2=>(v2 j h2).trans (u2 j h1)
    refine asg_one (by simp[h.st.sz]) rfl ⟨(hk 0 (by decide) (by decide)).trans h.st.sl.s0,(hk 3 (by decide) (by decide)).trans h.st.sl.s3,(hk 4 (by decide) (by decide)).trans h.st.sl.s4,(hk 5 (by decide) (by decide)).trans h.st.sl.s5,(hk 6 (by decide) (by decide)).trans h.st.sl.s6⟩ ((hk 15 (by decide) (by decide)).trans h.t15) v1 hI.1.size λa' W' hp hA=>hK a' W' ⟨hp.size,λk o _ hk _=>hp.blk hk⟩ trivial ⟨hI.1.trans hp,hI.2⟩ hA
  · intro l pre x a' W hBl hL hI hA hlt
    refine bdy_one hA (h.st.on.on hI.1) (hI.1.blk h.bq) (hs.pu hI.1) hcap (ha.pu hI.1) (hb.pu hI.1) ka kb la lb hT hTl hf λe a'' w' hQ=>?_
    have hz:=h.st.on.pu.size
    have hz6:=blk_lt h.st.on.b6
    rcases hQ with⟨h1,rfl,hp⟩|⟨h1,l,h2,rfl,h3⟩
    · refine⟨⟨hp.size,λk o _ hk _=>hp.blk hk⟩,trivial,hI.1.trans hp,λ_=>?_⟩
      rcases h1 with h1|h1
      · exact .inl (of_decide_eq_false h1)
      · exact .inr h1
    · refine⟨⟨h3.fr.size,λk o hB hk _=>h3.fr.blk hk (by omega)⟩,rfl,of_decide_eq_true h1,l,h2,⟨?_,h3.res,h3.b5,h3.b6⟩⟩
      exact(Fr.pu hI.1:Fr _ w W).trans h3.fr λi hi _=>hi
  · intro D xs W hD hxs hI hK
    cases hxs
    exact hN (hI.2 (by simp)) _ _ (h.st.mark hI.1 hD hK)
  · rintro D cd pre W hD _ ⟨rfl,hi,l,hl,hst⟩ hK
    exact wpIn_ret (hS l hi hl D W hD hst hK)
end Go.Proofs.YtjbfehippchniaaGreatDoor

/- Pre: once, where there is one command. No condition but those stated. -/
set_option maxRecDepth 100000
set_option linter.unusedVariables false
set_option linter.unusedSimpArgs false
namespace Go.Proofs.YtjbfehippchniaaGreatDoor
open Go.Sh Go.Sh.Lx Go.Sh.Pr Go.RowKit Go.Shelf
variable {w0 w w' : World}
theorem Mks.at:∀{ds:List Deferred},Mks w ds->∀k,mkB ds k->w.heap[k]?=some (.deferred (some []))
  | [],_,k,hk=>by cases hk
  | d :: ds,⟨⟨D,e,h1,h2⟩,h3⟩,k,hk=>by
    rcases List.mem_cons.1 hk with h|h
    · rw[e]at h
      cases h
      exact h1
    · exact Mks.at h3 k h
theorem CellsR.up {s:SV} {T:List (Tok × SV)} (h:CellsR w s T) (hp:Pu w w'):CellsR w' s T:=h.pu hp
theorem tail_one {p:Addr} {D:Defs} {s rs s1 s2:SV} {T:List (Tok × SV)} {pa pb:List Pt} {a:Act} {w:World} {R:Ending->World->Prop} (hS:StA w0 p D rs) (hlen:rs.len=1) (hrow:RowAt w0 72 3 rs (ruV true s1 s2))
    (hcl:CellsR w0 s T) (hcap:s.len<=s.cap) (ha:RdSl w0 s1 pa) (hb:RdSl w0 s2 pb) (ka:∀p ∈ pa,p.kind=0∨p.kind=1) (kb:∀p ∈ pb,p.kind=0∨p.kind=1) (la:pa.length<=1000) (lb:pb.length<=1000)
    (hT:∀t ∈ T,t.1.text.size<=140737488355328) (hTl:T.length<=100000) (hf:∀l,cmdP pa pb T=some l->l.length<=50000)
    (hs:a.tmps.size=119) (hd:a.defers=[]) (hl:Slt w0 p (envOf a)) (hB:OnB w0 w s)
    (hN:cmdP pa pb T=none->∀w',Pu w0 w'->R (.returned (.tuple #[.slice none 0 0,.bool false,.int .i64 0])) w')
    (hY:∀l,cmdP pa pb T=some l->∀(s':SV) w',Pu w0 w'->RowAt w' 112 4 s' (l.flatMap ftV)->R (.returned (.tuple #[.slice s'.a s'.len s'.cap,.bool true,.int .i64 0])) w') :
    tail49.wpIn Fence.wide 4 Tryz.prog (bodyPostM Fence.wide 4 Tryz.prog Tryz.f49 R) a w:=by
  refine tail_enter hs hd hl hB λb a' w' h0=>?_
  show(Code.loop rnd49).wpIn Fence.wide 4 Tryz.prog _ a' w'
  have leave:∀{i:Nat} {a:Act} {w:World} (l:List (Tok × SV)),cmdP pa pb T=some l->Stt w0 p s i b a w->∀D w',w.heap.size<=D->Sto49 w0 w w' l->w'.heap[D]?=some (.deferred (some []))->
      bodyPostM Fence.wide 4 Tryz.prog Tryz.f49 R .ret { a with defers:={ target:=.collected D,args:=#[] } :: a.defers } w':=λ{i a w} l hc h D w' hD hst hK=>by
    show LeavesInM Fence.wide 4 Tryz.prog Tryz.f49 a.tmps R ({ target:=.collected D,args:=#[] } :: a.defers) .returning w'
    obtain⟨s',r1,r2⟩:=hst.res
    have hz:=blk_lt h.on.b6
    have hzz:=h.on.pu.size
    have hmk:Mks w' ({ target:=.collected D,args:=#[] } :: a.defers):=by
      refine⟨⟨D,rfl,hK,λd' hd' e=>?_⟩,h.mks.1.fr hst.fr λk hk=>by have:=h.mks.2 k hk;omega⟩
      have:=h.mks.1.lt D (by unfold mkB;rw[←e];exact hd')
      omega
    have hge:∀k,mkB ({ target:=.collected D,args:=#[] } :: a.defers) k->w0.heap.size+1+1+1<k:=λk hk=>by
      rcases List.mem_cons.1 hk with e|hk
      · cases e;omega
      · exact h.mks.2 k hk
    refine leave_mks _ hmk λw3 h3=>?_
    have keep:∀{k:Nat} {o:Obj},w'.heap[k]?=some o->k<=w0.heap.size+1+1+1->w3.heap[k]?=some o:=λ{k o} hb hle=>h3.blk hb λhk'=>by have:=hge k hk';omega
    refine⟨_,res49 h.sl (s4:=s') (cl0 (keep r1 (by omega))) (cl0 (keep hst.b5 (by omega))) (cl0 (keep hst.b6 (by omega))),hY l hc s' w3 ?_ ?_⟩
    · exact(h.on.pu.andNew hst.fr λi hi=>by omega).andNew h3 λi hi=>by have:=hge i hi;omega
    · refine r2.fr h3 λk hk hm=>?_
      have h1:=hmk.at k hm
      obtain⟨_,rfl|⟨g,cur,g1,g2,_⟩⟩:=r2
      · simp[blkOf]at hk
      · simp[blkOf,g1]at hk
        rw[hk,g2]at h1
        cases h1
  have fin:∀{i:Nat} {a:Act} {w:World},cmdP pa pb T=none->Stt w0 p s i b a w->(Exit.inBlock 4 (Exit.then ((sq2 tail49).wpIn Fence.wide 4 Tryz.prog (bodyPostM Fence.wide 4 Tryz.prog Tryz.f49 R)) (bodyPostM Fence.wide 4 Tryz.prog Tryz.f49 R))) (.exit 4) a w:=λ{i a w} hc h=>by
    simp only[Exit.inBlock,if_true]
    exact tail_end h (hN hc)
  refine wpIn_loop_rounds 3 ?_
  refine rnd_head h0 (λhi a1 h1=>?_) λhi=>absurd (by decide) hi
  refine wpIn_seq (wpIn_block ?_)
  refine rnd_in hi h1 hS λa2 w2 c q h2=>?_
  have hp2:=h2.st.on.pu
  refine range_one h2 hlen (hrow.pu hp2) (hcl.pu hp2) hcap (ha.pu hp2) (hb.pu hp2) ka kb la lb hT hTl hf (λ_ a3 w3 h3=>?_) λl hi1=>absurd hi1 (by decide)
  refine rnd_end hi h3 λa4 h4=>?_
  refine rnd_head h4 (λhi a5 h5=>?_) λhi=>absurd (by decide) hi
  refine wpIn_seq (wpIn_block ?_)
  refine rnd_in hi h5 hS λa6 w6 c q h6=>?_
  have hp6:=h6.st.on.pu
  refine range_one h6 hlen (hrow.pu hp6) (hcl.pu hp6) hcap (ha.pu hp6) (hb.pu hp6) ka kb la lb hT hTl hf (λhc a7 w7 h7=>?_) λl _ hc D w7 hD hst hK=>?_
  · have hc:cmdP pa pb T=none:=hc.resolve_left (by decide)
    refine rnd_end hi h7 λa8 h8=>?_
    exact rnd_head h8 (λhi=>absurd hi (by decide)) λhi a9 h9=>fin hc h9
  · exact leave l hc h6.st D w7 hD hst hK
theorem once_one_c {p:Addr} {D:Defs} {rs s s1 s2:SV} {l:List Ft} {T:List (Tok × SV)} {pa pb:List Pt} (hS:StA w0 p D rs) (hlen:rs.len=1) (hrow:RowAt w0 72 3 rs (ruV true s1 s2)) (ha:RdSl w0 s1 pa) (hb:RdSl w0 s2 pb)
    (ka:∀p ∈ pa,p.kind=0∨p.kind=1) (kb:∀p ∈ pb,p.kind=0∨p.kind=1) (la:pa.length<=1000) (lb:pb.length<=1000) (hl:RdSl w0 s l) (hn:l.length<=10000) (hfr:∀x ∈ l,x.fr.length<=100000)
    (hcl:CellsR w0 s T) (hcap:s.len<=s.cap) (hT:∀t ∈ T,t.1.text.size<=140737488355328) (hf:∀l,cmdP pa pb T=some l->l.length<=50000) (hdef:defS (dg D) l=none) :
    Calls Tryz.prog 49 #[.pointer (some p),.slice s.a s.len s.cap] w0 λe w'=>Pu w0 w'/\(cmdP pa pb T=none->e=.returned (.tuple #[.slice none 0 0,.bool false,.int .i64 0]))/\
      ∀l',cmdP pa pb T=some l'->∃s':SV,e=.returned (.tuple #[.slice s'.a s'.len s'.cap,.bool true,.int .i64 0])/\RowAt w' 112 4 s' (l'.flatMap ftV):=by
  have hTl:T.length<=100000:=by
    have h1:=hcl.1
    have h2:=hl.len
    omega
  refine(callsIn_wide (n:=4)).1 (head_calls Tryz.func49 rfl (by show 2<=119;decide) (by kernel_rfl) (by kernel_rfl) (F49_p _ (T49n w0 p s (defS (dg D) l=none))) (once_head hS hl hn hfr _ _ (λl' hd s' w' hr hp=>by rw[hdef]at hd;cases hd) (λhd w' hB=>?_)) ?_)
  · exact⟨rfl,rfl,rfl,rfl,rfl,rfl,hB,hd⟩
  · intro a w1 hsz hdf hK
    obtain⟨z0,z3,z4,z5,z6,hB,hd⟩:=T49n_open hK
    refine tail_one hS hlen hrow hcl hcap ha hb ka kb la lb hT hTl hf hsz hdf ⟨z0,z3,z4,z5,z6⟩ hB (λhc w' hp=>?_) λl' hc s' w' hp hr=>?_
    · refine⟨hp,λ_=>rfl,λl' hl'=>?_⟩
      rw[hc]at hl';cases hl'
    · refine⟨hp,λh=>?_,λl2 hl2=>?_⟩
      · rw[hc]at h;cases h
      · rw[hc]at hl2;cases hl2
        exact⟨s',rfl,hr⟩
end Go.Proofs.YtjbfehippchniaaGreatDoor

/- Pre: a line in which one command is replaced. No condition but those stated. -/
set_option maxRecDepth 100000
set_option linter.unusedVariables false
set_option linter.unusedSimpArgs false
namespace Go.Proofs.YtjbfehippchniaaGreatDoor
open Go.Sh Go.Sh.Lx Go.Sh.Pr Go.RowKit Go.Shelf
variable {w0 w w' : World}
theorem defS_no:∀l:List Ft,defS (dg []) l=none
  | []=>rfl
  | x :: l=>by
    have h:defAt (dg []) x=none:=by
      unfold defAt
      split
      · rfl
      · rfl
    unfold defS
    rw[h]
    dsimp only
    rw[defS_no l];rfl
structure CmdOk(pa pb:List Pt)(ts ts1:List Tok):Prop where
  one:∀F:List SV,F.length=ts.length->∃L,cmdP pa pb (ts.zip F)=some L/\L.map Prod.fst=ts1/\∀x ∈ L,x.2=⟨none,0,0⟩∨x.2 ∈ F
  two:∀F:List SV,F.length=ts1.length->cmdP pa pb (ts1.zip F)=none
  ok:∀t ∈ ts1,okT t/\In64 t.kind/\In64 t.at_
  ne:ts1 ≠ []
  len:ts1.length<=1000
  join:(joinP ts1).length<=4000
theorem ftz_zip {l:List Tok} {T:List (Tok × SV)} (h:Ftz w T (l.map hid)):∃F:List SV,F.length=l.length/\T=l.zip F/\∀f ∈ F,RdSl (α:=ByteArray) w f []:=by
  have hl:=h.1
  rw[List.length_map]at hl
  have h1:T.map Prod.fst=l:=by
    refine List.ext_getElem? λi=>?_
    rw[List.getElem?_map]
    cases hx:T[i]? with
    | none=>rw[List.getElem?_eq_none_iff]at hx;rw[Option.map_none,List.getElem?_eq_none (by omega)]
    | some x=>
      have hlt:=(List.getElem?_eq_some_iff.1 hx).1
      obtain⟨y,hy⟩:=at_k (l:=l) (k:=i) (by omega)
      have:=(h.2 i x (hid y) hx (by rw[List.getElem?_map,hy];rfl)).1
      rw[hy,Option.map_some,←this];rfl
  refine⟨T.map Prod.snd,by rw[List.length_map];exact hl,?_,λf hf=>?_⟩
  · rw[←h1,List.zip_map']
    simp
  · obtain⟨x,hx,rfl⟩:=List.mem_map.1 hf
    obtain⟨i,hi⟩:=List.mem_iff_getElem?.1 hx
    have hlt:=(List.getElem?_eq_some_iff.1 hi).1
    obtain⟨y,hy⟩:=at_k (l:=l) (k:=i) (by omega)
    exact(h.2 i x (hid y) hi (by rw[List.getElem?_map,hy];rfl)).2.1
theorem replaced_one_c (hL:Laid w0) {p:Addr} {rs:SV} {pa pb:List Pt} (hS:StA w0 p [] rs) (hru:RuA w0 rs pa pb)
    (ka:∀p ∈ pa,p.kind=0∨p.kind=1) (kb:∀p ∈ pb,p.kind=0∨p.kind=1) (la:pa.length<=1000) (lb:pb.length<=1000) (d:List UInt8) (hd:d.length<=140737488355328) {ts ts1:List Tok} (ht:tokP d=some ts) (hc:CmdOk pa pb ts ts1) :
    Calls Tryz.prog 20 #[.pointer (some p),.string (bs d)] w0 λe w'=>Pu w0 w'/\e=.returned (.tuple #[.string (bs (joinP ts1 ++ [10])),.int .i64 0]):=by
  have hl1:=hc.len
  have hjn:=hc.join
  refine calls_by (F20_calls _ _ w0) λR hR=>(tokens_c hL d hd).mono ?_
  rintro e w1 ⟨hp1,s,b,rfl,rfl,hrd⟩
  refine⟨s,_,rfl,?_⟩
  rw[ht]at hrd ⊢
  have hrd:=hrd rfl
  have e2:tokV2 d=ts:=by unfold tokV2;rw[ht];rfl
  rw[e2]at hrd
  have hlen:=tokP_len ht
  have hok:=tokP_ok ht
  refine Br.f rfl ((hidden_c hrd hlen).mono ?_)
  rintro e w2 ⟨s2,rfl,hr2,hp2⟩
  refine⟨s2,rfl,?_⟩
  have tk:∀l:List Tok,tks (l.map hid)=l:=λl=>by unfold tks;rw[List.map_map];exact List.map_id' l
  refine loopUp 2 (λk t w'=>∃(s':SV) (l:List Tok),t=(s',(k:Int))/\Pu w0 w'/\RdSl w' s' (l.map hid)/\(∀t ∈ l,okT t)/\l.length<=1200/\((k=0/\l=ts)∨(k=1/\l=ts1))) ⟨s2,ts,rfl,hp1.trans hp2,hr2,hok,hlen,.inl ⟨rfl,rfl⟩⟩ ?_
  rintro k J t w3 hk ⟨s',l,rfl,hp3,hr3,hokl,hll,hcase⟩ hJ
  dsimp only
  obtain⟨T,hz,hcl⟩:=rd_cells hr3
  obtain⟨F,hF,rfl,hnil⟩:=ftz_zip hz
  obtain⟨hrl,s1,s2,hrow,ha,hb⟩:=hru.pu hp3
  have hfl:∀L,cmdP pa pb (l.zip F)=some L->L.length<=50000:=λL hL=>by
    rcases hcase with⟨_,rfl⟩|⟨_,rfl⟩
    · obtain⟨L2,h1,h2,_⟩:=hc.one F hF
      rw[h1]at hL;cases hL
      have:=congrArg List.length h2
      rw[List.length_map]at this;omega
    · rw[hc.two F hF]at hL;cases hL
  refine(once_one_c (hS.pu hp3) hrl hrow ha hb ka kb la lb hr3 (by rw[List.length_map];omega) (λx hx=>by
    obtain⟨t,ht2,rfl⟩:=List.mem_map.1 hx
    exact Nat.zero_le _) hcl hr3.cap (λt ht=>by
    have:=(hokl t.1 (List.of_mem_zip ht).1).2;omega) hfl (defS_no _)).mono ?_
  rintro e w4 ⟨hp4,hn4,hy4⟩
  have hp04:=hp3.trans hp4
  rcases hcase with⟨rfl,rfl⟩|⟨rfl,rfl⟩
  · obtain⟨L,h1,h2,h3⟩:=hc.one F hF
    obtain⟨s3,rfl,hr4⟩:=hy4 L h1
    have hLl:L.length=ts1.length:=by have:=congrArg List.length h2;rwa [List.length_map]at this
    have hz4:Ftz w4 L (ts1.map hid):=⟨by rw[List.length_map];exact hLl,λi x y hx hy=>by
      rw[List.getElem?_map]at hy
      have hxt:ts1[i]?=some x.1:=by rw[←h2,List.getElem?_map,hx];rfl
      rw[hxt]at hy
      cases hy
      obtain⟨_,k1,k2⟩:=hc.ok x.1 (List.mem_of_getElem? hxt)
      refine⟨rfl,?_,k1,k2⟩
      rcases h3 x (List.mem_of_getElem? hx)with e|e
      · rw[e];exact RdSl.nil _ _ _
      · exact(hnil _ e).pu hp4⟩
    have hr5:=hz4.rd hr4 (by rw[List.length_map];omega)
    refine⟨s3,true,0,rfl,Br.f rfl (Br.f rfl (Br.f (by decide) ?_))⟩
    have hdt:∀t ∈ tks (ts1.map hid),dateOk t:=λt ht=>by rw[tk]at ht;exact(hc.ok t ht).1.1
    refine(joinedText_c hr5 (by rw[List.length_map];omega) hdt (by rw[tk];omega)).mono ?_
    rintro e w5 ⟨rfl,hp5⟩
    rw[tk]
    refine⟨_,rfl,?_⟩
    rw[bs_size_i]
    refine Br.f (decide_eq_false (by omega)) ?_
    rw[wrap_in (by decide) (by decide)]
    exact hJ _ _ (by decide) ⟨s3,ts1,rfl,hp04.trans hp5,hr5.pu hp5,λt ht=>(hc.ok t ht).1,by omega,.inr ⟨rfl,rfl⟩⟩
  · have hn:=hn4 (hc.two F hF)
    subst hn
    refine⟨⟨none,0,0⟩,false,0,rfl,Br.f rfl (Br.t rfl ?_)⟩
    have hsl:=hr3.len
    rw[List.length_map]at hsl
    have hpos:=List.length_pos_iff.2 hc.ne
    refine Br.f (by rw[beq_dec];exact decide_eq_false (by omega)) ?_
    have hdt:∀t ∈ tks (l.map hid),dateOk t:=λt ht=>by rw[tk]at ht;exact(hc.ok t ht).1.1
    refine(joinedText_c (hr3.pu hp4) (by rw[List.length_map];omega) hdt (by rw[tk];omega)).mono ?_
    rintro e w5 ⟨rfl,hp5⟩
    rw[tk]
    have e10:(⟨#[10]⟩:ByteArray)=bs [10]:=rfl
    refine⟨_,rfl,?_,?_⟩
    · rw[e10,cat_bs];simp;omega
    · rw[e10,bs_append]
      exact hR _ _ ⟨hp04.trans hp5,rfl⟩
end Go.Proofs.YtjbfehippchniaaGreatDoor

/- Pre: Line, with one command. No condition but those stated. -/
set_option maxRecDepth 100000
set_option linter.unusedVariables false
set_option linter.unusedSimpArgs false
namespace Go.Proofs.YtjbfehippchniaaGreatDoor
open Go.Sh Go.Sh.Lx Go.Sh.Pr Go.RowKit Go.Shelf
variable {w0 w w' : World}
theorem line_cmd_c (hL:Laid w0) (hM:MaxL w0) {s:SV} {x:List UInt8} {pa pb:List Pt} (hs:RdSl w0 s [bs x]) (hx:CmdR x pa pb)
    (ka:∀p ∈ pa,p.kind=0∨p.kind=1) (kb:∀p ∈ pb,p.kind=0∨p.kind=1) (la:pa.length<=1000) (lb:pb.length<=1000) (d:List UInt8) (hd:d.length<=140737488355328) {ts ts1:List Tok} (ht:tokP d=some ts) (hc:CmdOk pa pb ts ts1) (hj:Lib.trimSuffix (joinP ts1 ++ [10]) [10]=joinP ts1) :
    Calls Tryz.prog 9 #[.string (bs d),.slice s.a s.len s.cap] w0 λe w'=>e=.returned (.tuple #[.string (bs (joinP ts1)),.int .i64 0])/\Pu w0 w':=by
  have hsl:s.len=1:=hs.len
  have hlim:=hs.lim
  have hjn:=hc.join
  have hlen:=hx.len
  refine calls_by (F9_calls _ _ w0) λR hR=>alE_intro λw1 hw1=>alE_intro λw2 hw2=>?_
  have hp1:Pu w0 w1:=by rw[hw1];exact Pu.alloc _ _
  have hp2:Pu w1 w2:=by rw[hw2];exact Pu.alloc _ _
  have hMp:Go.Sh.MapAt w1 ekS slV w0.heap.size ([]:List (ByteArray × SV)):=by rw[hw1];exact Go.Sh.MapAt.new w0 ekS slV
  have hS2:Stm w0 w2 w1.heap.size w0.heap.size [] (.slice none 0 0):=⟨hp1.trans hp2,hp1.size,Nat.le_refl _,by rw[hw2];exact alloc_new _ _,hMp.pu hp2,λx hx=>by cases hx⟩
  have hcell:∀{w:World},Pu w0 w->∃a,s.a=some a/\(0:Int)<=((0:Nat):Int)/\((0:Nat):Int)<((s.len:Nat):Int)/\w.cell? (a.add ((((0:Nat):Int)).toNat * 1))=some (.string (bs x)):=λ{w} hp=>
    RdSl.wd (hs.pu hp) (i:=0) (x:=bs x) rfl
  refine loopUp 1 (λk n w'=>n=(k:Int)/\Stm w0 w' w1.heap.size w0.heap.size [] (.slice none 0 0)) ⟨rfl,hS2⟩ ?_
  rintro k J n w3 hk ⟨rfl,hS3⟩ hJ
  refine Br.of (λq=>?_) (λq=>?_)
  · have q:=dtrue q
    obtain rfl:k=0:=by omega
    obtain⟨a,ha,h1,h2,hc⟩:=hcell hS3.since
    refine⟨a,ha,h1,h2,_,hc,(check_cmd_c (hL.pu hS3.since) (hM.pu hS3.since) hx).mono ?_⟩
    rintro e w4 ⟨rfl,hp4⟩
    refine⟨_,rfl,Br.f rfl ?_⟩
    rw[wrap_in (by omega) (by omega)]
    exact hJ _ _ (by omega) ⟨rfl,hS3.pu hp4⟩
  · refine loopUp 1 (λk n w'=>n=(k:Int)/\((k=0/\Stm w0 w' w1.heap.size w0.heap.size [] (.slice none 0 0))∨(k=1/\∃rs:SV,Stm w0 w' w1.heap.size w0.heap.size [] (slV rs)/\RuA w' rs pa pb))) ⟨rfl,.inl ⟨rfl,hS3⟩⟩ ?_
    rintro k J2 n w4 hk ⟨rfl,hcs⟩ hJ2
    rcases hcs with⟨rfl,hS4⟩|⟨rfl,rs,hS4,hru⟩
    · refine Br.t (decide_eq_true (by omega)) ?_
      obtain⟨a,ha,h1,h2,hc⟩:=hcell hS4.since
      refine⟨a,ha,h1,h2,_,hc,(dir_c (hL.pu hS4.since) x (by omega)).mono ?_⟩
      rintro e w5 ⟨rfl,hp5⟩
      have hS5:=hS4.pu hp5
      refine⟨_,_,_,rfl,(learn_cmd_c (hL.pu hS5.since) (hM.pu hS5.since) hS5 hx).mono ?_⟩
      rintro e w6 ⟨rfl,s6,hS6,hru⟩
      refine⟨_,rfl,Br.f rfl ?_⟩
      rw[wrap_in (by omega) (by omega)]
      exact hJ2 _ _ (by omega) ⟨rfl,.inr ⟨rfl,s6,hS6,hru⟩⟩
    · refine Br.f (decide_eq_false (by omega)) ?_
      have hP4:=hS4.since
      refine(replaced_one_c (hL.pu hP4) (Stm.sta hS4) hru ka kb la lb d hd ht hc).mono ?_
      rintro e w5 ⟨hp5,rfl⟩
      refine⟨_,_,rfl,Br.f rfl ((suffix_c _ (by simp;omega) w5).mono ?_)⟩
      rintro e w6 ⟨rfl,rfl⟩
      refine⟨_,rfl,?_⟩
      rw[hj,bs_size]
      exact Br.f (decide_eq_false (by omega)) (hR _ _ ⟨rfl,hP4.trans hp5⟩)
end Go.Proofs.YtjbfehippchniaaGreatDoor

/- Pre: short texts read as tokens by fuel. No condition but those stated. -/
set_option maxRecDepth 100000
set_option linter.unusedVariables false
set_option linter.unusedSimpArgs false
namespace Go.Proofs.YtjbfehippchniaaGreatDoor
open Go.Sh Go.Sh.Lx Go.Sh.Pr Go.RowKit Go.Shelf
variable {w0 w w' : World}
theorem lexN_all:∀(n:Nat) (l:List UInt8) (p:Nat) (b:Bool),l.length<n->lexN n l p b=some (lexS l p b)
  | 0,l,p,b,h=>absurd h (Nat.not_lt_zero _)
  | n+1,[],p,b,_=>by rw[lexS_nil];rfl
  | n+1,x :: r,p,b,h=>by
    have hr:r.length<n:=by simpa using h
    have hd:∀m,(r.drop m).length<n:=λm=>by rw[List.length_drop];omega
    have e:lexN (n+1) (x :: r) p b=(match stepS x r b with
      | .go m=>lexN n (r.drop m) (p+1+m) b
      | .eol=>(lexN n r (p+1) false).map λo=>((if b then [endT p]else []) ++ o.1,o.2)
      | .tok k t m=>(lexN n (r.drop m) (p+1+m) true).map λo=>(⟨k,(p:Int),bs t⟩ :: o.1,o.2)
      | .bad i=>some ([],some (p+i))):=rfl
    rw[e]
    cases hs:stepS x r b with
    | go m=>rw[lexS_go hs];exact lexN_all n _ _ _ (hd m)
    | eol=>rw[lexS_eol hs];dsimp only;rw[lexN_all n _ _ _ hr];rfl
    | tok k t m=>rw[lexS_tok hs];dsimp only;rw[lexN_all n _ _ _ (hd m)];rfl
    | bad i=>rw[lexS_bad hs]
def lexE(d:List UInt8):List Tok × Int × Int:=match lexN 100 d 0 false with
  | some o=>(match o.2 with
    | some i=>([],(i:Int),2)
    | none=>if 1200<o.1.length then([],0,3)else(o.1,(o.1.length:Int),0))
  | none=>([],0,0)
theorem lexF_e{d:List UInt8}(h:d.length<100):lexF d=lexE d:=by
  unfold lexE
  rw[lexN_all 100 d 0 false h]
  unfold lexF
  rw[if_neg (by omega)]
  rfl
def tokPE(d:List UInt8):Option (List Tok):=
  if (lexE d).2.2 ≠ 0 then none else match endP (Z (lexE d).1)with
    | none=>some []
    | some k=>if k+1=(Z (lexE d).1).length then some ((Z (lexE d).1).take k)else none
theorem tokP_e{d:List UInt8}(h:d.length<100):tokP d=tokPE d:=by
  unfold tokP tokPE
  rw[lexF_e h]
  rfl
def tkCE(x:List UInt8):Option Tok:=
  if (lexE ([40,32] ++ x)).2.2=0 then(match (lexE ([40,32] ++ x)).1 with
    | [_,t,_]=>if lastBad x then none else if Lib.contains x [38,38]then none else some (zT t)
    | _=>none)else none
theorem tkC_e{x:List UInt8}(h:x.length<90):tkC x=tkCE x:=by
  unfold tkC tkCE
  rw[lexF_e (by simp;omega)]
  rfl
def tkGE(d:List UInt8)(i:Nat):Nat->Option (Tok × Nat)
  | 0=>none
  | e+1=>if e+1<=i then none else match tkCE ((d.take (e+1)).drop i)with
    | some t=>some (t,e+1)
    | none=>tkGE d i e
theorem tkG_e{d:List UInt8}(h:d.length<90)(i:Nat):∀e,tkG d i e=tkGE d i e
  | 0=>rfl
  | e+1=>by
    unfold tkG tkGE
    rw[tkC_e (by rw[List.length_drop,List.length_take];omega),tkG_e h i e]
    rfl
def rowGE(d:List UInt8):Nat->Nat->Option (List Pt)
  | 0,_=>none
  | n+1,i=>if skipB d i=d.length then some []else match markS d (skipB d i)with
    | some (nm,e)=>(rowGE d n e).map (mkP nm :: ·)
    | none=>match tkGE d (skipB d i) d.length with
      | some (t,e)=>(rowGE d n e).map (ptT t :: ·)
      | none=>none
theorem rowG_e{d:List UInt8}(h:d.length<90):∀n i,rowG d n i=rowGE d n i
  | 0,i=>rfl
  | n+1,i=>by
    unfold rowG rowGE
    rw[tkG_e h]
    have ih:=rowG_e h n
    split
    · rfl
    · cases markS d (skipB d i)with
      | some x=>dsimp only;rw[ih]
      | none=>
        dsimp only
        cases tkGE d (skipB d i) d.length with
        | some x=>dsimp only;rw[ih]
        | none=>rfl
end Go.Proofs.YtjbfehippchniaaGreatDoor

/- Pre: the rules that are known. No condition but those stated. -/
set_option maxRecDepth 100000
set_option linter.unusedVariables false
set_option linter.unusedSimpArgs false
namespace Go.Proofs.YtjbfehippchniaaGreatDoor
open Go.Sh Go.Sh.Lx Go.Sh.Pr Go.RowKit Go.Shelf
variable {w0 w w' : World}
def knC:List UInt8:=[35,67,79,77,77,65,78,68,32,85,80,83,69,82,84,32,60,102,62,32,87,73,84,72,32,60,118,62,32,61,62,32,82,69,80,76,65,67,69,32,60,102,62,32,87,73,84,72,32,60,118,62]
def knB:List UInt8:=[85,80,83,69,82,84,32,60,102,62,32,87,73,84,72,32,60,118,62,32,61,62,32,82,69,80,76,65,67,69,32,60,102,62,32,87,73,84,72,32,60,118,62]
def knT:List UInt8:=[117,112,115,101,114,116,32,97,32,119,105,116,104,32,49,32,43,32,50]
def knR:List UInt8:=[82,69,80,76,65,67,69,32,65,32,87,73,84,72,32,49,32,43,32,50]
def nm1(l:List UInt8):Tok:=⟨0,0,bs l⟩
def knPa:List Pt:=[ptT (nm1 [85,80,83,69,82,84]),mkP [70],ptT (nm1 [87,73,84,72]),mkP [86]]
def knPb:List Pt:=[ptT (nm1 [82,69,80,76,65,67,69]),mkP [70],ptT (nm1 [87,73,84,72]),mkP [86]]
def knTs:List Tok:=[nm1 [85,80,83,69,82,84],nm1 [65],nm1 [87,73,84,72],⟨1,0,bs [49]⟩,⟨4,0,bs [43]⟩,⟨1,0,bs [50]⟩]
def knTr:List Tok:=[nm1 [82,69,80,76,65,67,69],nm1 [65],nm1 [87,73,84,72],⟨1,0,bs [49]⟩,⟨4,0,bs [43]⟩,⟨1,0,bs [50]⟩]
theorem kn_dir:dirS knC=(cmdW,knB,true):=by decide +kernel
theorem kn_cut:cutS knB=some 20:=by decide +kernel
theorem kn_pa:rowGE (knB.take 20) 10 0=some knPa:=by kernel_rfl
theorem kn_pb:rowGE (knB.drop 22) 10 0=some knPb:=by kernel_rfl
theorem kn_cmd:CmdR knC knPa knPb:=by
  refine⟨by decide,by decide,by rw[kn_dir];exact⟨rfl,rfl⟩,⟨20,by rw[kn_dir];exact kn_cut,?_,?_⟩,by decide +kernel⟩
  · rw[kn_dir]
    exact⟨by unfold Asc;decide,by unfold Flat;decide,⟨10,by decide,by rw[rowG_e (by decide)];exact kn_pa⟩,by decide⟩
  · rw[kn_dir]
    exact⟨by unfold Asc;decide,by unfold Flat;decide,⟨10,by decide,by rw[rowG_e (by decide)];exact kn_pb⟩,by decide⟩
theorem kn_tok:tokP knT=some knTs:=by rw[tokP_e (by decide)];decide +kernel
theorem kn_join:joinP knTr=knR:=by decide +kernel
theorem six{l:List SV}(h:l.length=6):∃a b c d e f,l=[a,b,c,d,e,f]:=by
  match l,h with
  | [a,b,c,d,e,f],_=>exact⟨a,b,c,d,e,f,rfl⟩
theorem kn_one(a b c d e f:SV):cmdP knPa knPb (knTs.zip [a,b,c,d,e,f])=some [(nm1 [82,69,80,76,65,67,69],⟨none,0,0⟩),(nm1 [65],b),(nm1 [87,73,84,72],⟨none,0,0⟩),(⟨1,0,bs [49]⟩,d),(⟨4,0,bs [43]⟩,e),(⟨1,0,bs [50]⟩,f)]:=by kernel_rfl
theorem kn_two(a b c d e f:SV):cmdP knPa knPb (knTr.zip [a,b,c,d,e,f])=none:=by kernel_rfl
theorem kn_ok:CmdOk knPa knPb knTs knTr:=by
  refine⟨λF hF=>?_,λF hF=>?_,?_,by decide,by decide,by rw[kn_join];decide⟩
  · obtain⟨a,b,c,d,e,f,rfl⟩:=six hF
    refine⟨_,kn_one a b c d e f,rfl,λx hx=>?_⟩
    simp only[List.mem_cons,List.mem_nil_iff,or_false]at hx
    rcases hx with rfl|rfl|rfl|rfl|rfl|rfl <;> simp
  · obtain⟨a,b,c,d,e,f,rfl⟩:=six hF
    exact kn_two a b c d e f
  · intro t ht
    simp only[knTr,List.mem_cons,List.mem_nil_iff,or_false]at ht
    rcases ht with rfl|rfl|rfl|rfl|rfl|rfl <;> exact⟨⟨by unfold dateOk;decide,by decide +kernel⟩,⟨by decide,by decide⟩,⟨by decide,by decide⟩⟩
def kn1:List UInt8:=[35,68,69,70,73,78,69,32,65,32,66]
def kn2:List UInt8:=[35,68,69,70,73,78,69,32,66,32,65]
def knD:List (List UInt8 × (ByteArray × List Tok)):=[(kn1,(bs [65],[nm1 [66]])),(kn2,(bs [66],[nm1 [65]]))]
def defWd:ByteArray:=⟨#[68,69,70,73,78,69]⟩
theorem kn_d1:dirS kn1=(defWd,[65,32,66],true):=by decide +kernel
theorem kn_d2:dirS kn2=(defWd,[66,32,65],true):=by decide +kernel
theorem kn_r1:DefR kn1 (bs [65]) [nm1 [66]]:=by
  refine⟨by decide,by decide,by rw[kn_d1];exact⟨rfl,rfl⟩,?_⟩
  rw[kn_d1]
  unfold defD
  rw[tokP_e (by decide)]
  decide +kernel
theorem kn_r2:DefR kn2 (bs [66]) [nm1 [65]]:=by
  refine⟨by decide,by decide,by rw[kn_d2];exact⟨rfl,rfl⟩,?_⟩
  rw[kn_d2]
  unfold defD
  rw[tokP_e (by decide)]
  decide +kernel
theorem kn_rep:endL (replS (AL.get (knD.foldl putR [])) [65])=([65],0):=by
  unfold replS
  rw[tokP_e (by decide)]
  decide +kernel
end Go.Proofs.YtjbfehippchniaaGreatDoor

/- Pre: what is known: a command makes what the document gives, two definitions end. No condition but those stated. -/
set_option maxRecDepth 100000
set_option linter.unusedVariables false
set_option linter.unusedSimpArgs false
namespace Go.Proofs.YtjbfehippchniaaGreatDoor
open Go.Sh Go.Sh.Lx Go.Sh.Pr Go.RowKit Go.Shelf
theorem known_c:KnownC:=λw hL hM=>by
  refine calls_by (F7_calls w) λR hR=>alB λw1 hp1 hb1=>?_
  refine(line_cmd_c (hL.pu hp1) (hM.pu hp1) (s:=⟨some ⟨w.heap.size,0,none⟩,1,1⟩) (rd_strs (l:=[bs knC]) hb1 (by decide)) kn_cmd (by decide) (by decide) (by decide) (by decide) knT (by decide) kn_tok kn_ok (by rw[kn_join];decide +kernel)).mono ?_
  rintro e w2 ⟨rfl,hp2⟩
  refine⟨_,_,rfl,alB λw3 hp3 hb3=>?_⟩
  have hP3:=hp1.trans (hp2.trans hp3)
  refine(line_defs_c (hL.pu hP3) (s:=⟨some ⟨w2.heap.size,0,none⟩,2,2⟩) knD (rd_strs (l:=[bs kn1,bs kn2]) hb3 (by decide)) (λx hx=>?_) [65] (by decide)).mono ?_
  · simp only[knD,List.mem_cons,List.mem_nil_iff,or_false]at hx
    rcases hx with rfl|rfl
    · exact kn_r1
    · exact kn_r2
  rintro e w4 ⟨rfl,hp4⟩
  rw[kn_rep,kn_join]
  refine⟨_,_,rfl,Br.t rfl (Br.t ?_ (Br.t rfl (hR _ _ ⟨?_,hP3.trans hp4⟩)))⟩
  · rw[toList_beq];exact decide_eq_true rfl
  · rw[toList_beq,decide_eq_true (show bs [65]=(⟨#[65]⟩:ByteArray)from rfl)]
end Go.Proofs.YtjbfehippchniaaGreatDoor
