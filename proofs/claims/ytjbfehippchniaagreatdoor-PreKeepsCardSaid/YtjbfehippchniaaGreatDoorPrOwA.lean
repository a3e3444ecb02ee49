import Derived.Test.YtjbfehippchniaaGreatDoorShTwentyFive
import Derived.Test.YtjbfehippchniaaGreatDoorPrPrA
import Derived.Lib.Bytealg
import Derived.Lib.IndexLaws
/- Lex: tokens, and which a source has, in plain words. No condition. -/
set_option linter.unusedVariables false
set_option linter.unusedSimpArgs false
namespace Go.Sh.Lx
open Go.Sh Go.RowKit
structure Tok where
  kind:Int
  at_:Int
  text:ByteArray
deriving DecidableEq, Inhabited
abbrev tokV(t:Tok):List Value:=[.int .i64 t.kind,.int .i64 t.at_,.string t.text]
instance:Enc Tok where
  sz:=3
  rd _ vs t:=vs=tokV t/\In64 t.kind/\In64 t.at_
  len h:=by rw[h.1];rfl
  pu _ h:=h
instance:Lim Tok:=⟨λt=>Lim.ok t.text⟩
theorem tokAt {w:World} {s:SV} {l:List Tok} (h:RdSl w s l) {i:Nat} {t:Tok} (hx:l[i]?=some t):∃a,s.a=some a/\i<s.len/\In64 t.kind/\In64 t.at_/\
    w.cell? ((a.add (i * 3)).add 0)=some (.int .i64 t.kind)/\w.cell? ((a.add (i * 3)).add 1)=some (.int .i64 t.at_)/\w.cell? ((a.add (i * 3)).add 2)=some (.string t.text):=by
  obtain⟨a,ha,vs,⟨rfl,h1⟩,h2⟩:=h.get i t hx
  have hi:i<l.length:=(List.getElem?_eq_some_iff.1 hx).1
  have h2:CellsAt w (a.add (i * 3)) (tokV t):=h2
  exact⟨a,ha,by rw[h.len];exact hi,h1.1,h1.2,h2 0 _ rfl,h2 1 _ rfl,h2 2 _ rfl⟩
def isB(b:UInt8):Bool:=decide (b.toNat=9) || decide (b.toNat=10) || (decide (32<=b.toNat) && decide (b.toNat<=126))
def blkB(b:UInt8):Bool:=decide (b.toNat=9) || decide (b.toNat=32)
def letB(b:UInt8):Bool:=decide (b.toNat=95) || (decide (97<=b.toNat) && decide (b.toNat<=122)) || (decide (65<=b.toNat) && decide (b.toNat<=90))
def nlB(b:UInt8):Bool:=decide (b.toNat=10)
def badAt(l:List UInt8):Option Nat:=l.findIdx? λb=>!isB b
def lineOf(l:List UInt8):List UInt8:=l.takeWhile λb=>!nlB b
def ampB:List UInt8->Bool
  | a :: b :: _=>decide (a.toNat=38) && decide (b.toNat=38)
  | _=>false
def goesB(r:List UInt8):Bool:=match r.dropWhile blkB with
  | []=>true
  | b :: t=>nlB b || ampB (b :: t)
def signsS:List (List UInt8):=[[46,78,85,76,76,46],[46,65,78,68,46],[46,78,79,84,46],[46,79,82,46],[46,84,46],[46,70,46],[58,61],[61,61],[60,62],[33,61],[60,61],[62,61],[45,62],
  [40],[41],[91],[93],[123],[125],[44],[124],[58],[46],[61],[35],[60],[62],[43],[45],[42],[47],[37],[94],[36],[38],[63],[64],[33]]
def signS(l:List UInt8):Option (List UInt8):=signsS.find? λw=>decide ((l.take w.length).map capU=w)
def datesD(l:List UInt8):List UInt8:=(l.drop 2).take 4 ++ (l.drop 7).take 2 ++ (l.drop 10).take 2
def dateL(l:List UInt8):Option (List UInt8 × Nat):=
  if l.take 2=[123,125]then some ([],2)
  else if l.length<13∨l.take 2 ≠ [123,94]∨l[6]? ≠ some 45∨l[9]? ≠ some 45∨l[12]? ≠ some 125 then none
  else if (unstampS (datesD l)).2=true/\datesD l ≠ List.replicate 8 32 then some (datesD l,13)else none
inductive Stp where
  | go (m:Nat)
  | eol
  | tok (k:Int) (t:List UInt8) (m:Nat)
  | bad (i:Nat)
deriving DecidableEq
def quoteS(q:UInt8)(r:List UInt8):Stp:=
  let t:=r.takeWhile λb=>!nlB b && !decide (b=q)
  if r[t.length]?=some q then(match badAt t with
    | some i=>.bad (i+1)
    | none=>.tok 2 t (t.length+1))else .bad 0
def tokS(b:UInt8)(r:List UInt8):Stp:=
  if letB b then(let t:=(b :: r).takeWhile λc=>letB c || digB c;if 24<t.length then .bad 0 else .tok 0 (t.map capU) (t.length - 1))
  else if digB b then(let t:=(b :: r).takeWhile digB;if 15<t.length then .bad 0 else .tok 1 t (t.length - 1))
  else if b.toNat=34∨b.toNat=39 then quoteS b r
  else match dateL (b :: r)with
    | some (d,n)=>.tok 3 d (n - 1)
    | none=>match signS (b :: r)with
      | some w=>.tok 4 w (w.length - 1)
      | none=>.bad 0
def stepS(b:UInt8)(r:List UInt8)(line:Bool):Stp:=
  if nlB b then .eol
  else if blkB b then .go 0
  else if ampB (b :: r) || (decide (b.toNat=42) && !line)then(match badAt (lineOf (b :: r))with
    | some i=>.bad i
    | none=>.go ((lineOf (b :: r)).length - 1))
  else if decide (b.toNat=59) && goesB r then(match badAt (lineOf r)with
    | some i=>.bad (i+1)
    | none=>.go (if (lineOf r).length<r.length then(lineOf r).length+1 else(lineOf r).length))
  else tokS b r
abbrev LexOut:=List Tok × Option Nat
def endT(p:Nat):Tok:=⟨5,(p:Int),⟨#[]⟩⟩
def lexS:List UInt8->Nat->Bool->LexOut
  | [],p,line=>(if line then [endT p]else [],none)
  | b :: r,p,line=>match stepS b r line with
    | .go m=>lexS (r.drop m) (p+1+m) line
    | .eol=>((if line then [endT p]else []) ++ (lexS r (p+1) false).1,(lexS r (p+1) false).2)
    | .tok k t m=>(⟨k,(p:Int),bs t⟩ :: (lexS (r.drop m) (p+1+m) true).1,(lexS (r.drop m) (p+1+m) true).2)
    | .bad i=>([],some (p+i))
 termination_by l=>l.length
 decreasing_by all_goals (simp only[List.length_drop,List.length_cons];omega)
theorem lexS_nil(p:Nat)(line:Bool):lexS [] p line=(if line then [endT p]else [],none):=by rw[lexS]
theorem lexS_go{b:UInt8}{r:List UInt8}{line:Bool}{m:Nat}(h:stepS b r line=.go m)(p:Nat):lexS (b :: r) p line=lexS (r.drop m) (p+1+m) line:=by rw[lexS,h]
theorem lexS_eol{b:UInt8}{r:List UInt8}{line:Bool}(h:stepS b r line=.eol)(p:Nat):lexS (b :: r) p line=((if line then [endT p]else []) ++ (lexS r (p+1) false).1,(lexS r (p+1) false).2):=by rw[lexS,h]
theorem lexS_tok{b:UInt8}{r:List UInt8}{line:Bool}{k:Int}{t:List UInt8}{m:Nat}(h:stepS b r line=.tok k t m)(p:Nat) :
    lexS (b :: r) p line=(⟨k,(p:Int),bs t⟩ :: (lexS (r.drop m) (p+1+m) true).1,(lexS (r.drop m) (p+1+m) true).2):=by rw[lexS,h]
theorem lexS_bad{b:UInt8}{r:List UInt8}{line:Bool}{i:Nat}(h:stepS b r line=.bad i)(p:Nat):lexS (b :: r) p line=([],some (p+i)):=by rw[lexS,h]
def lexF(d:List UInt8):List Tok × Int × Int:=
  if 4000<d.length then([],0,3)else match (lexS d 0 false).2 with
    | some i=>([],(i:Int),2)
    | none=>if 1200<(lexS d 0 false).1.length then([],0,3)else((lexS d 0 false).1,((lexS d 0 false).1.length:Int),0)
end Go.Sh.Lx

/- Pre: texts outside of quotes, comments, lines that go on, in plain words; and that the tokens of a text are those of its lines. No condition. -/
set_option maxRecDepth 100000
set_option linter.unusedVariables false
set_option linter.unusedSimpArgs false
namespace Go.Sh.Pr
open Go.Sh Go.Sh.Lx
def isQ(b:UInt8):Bool:=decide (b.toNat=34) || decide (b.toNat=39)
def cnt(q:UInt8)(r:List UInt8):Nat:=(r.takeWhile λb=>!decide (b=q)).length
def outS:Nat->Nat->List UInt8->List Nat
  | _,_,[]=>[]
  | s+1,p,_ :: r=>outS s (p+1) r
  | 0,p,b :: r=>if isQ b && decide (cnt b r<r.length)then outS (cnt b r+1) (p+1) r else p :: outS 0 (p+1) r
def uncS(d:List UInt8):List UInt8:=match (outS 0 0 d).find? λi=>ampB (d.drop i)with
  | some i=>d.take i
  | none=>d
def trimS(d:List UInt8):List UInt8:=((d.dropWhile Lx.blkB).reverse.dropWhile Lx.blkB).reverse
def starS(d:List UInt8):Bool:=match d with
  | b :: _=>decide (b.toNat=42)
  | []=>false
def hashS(d:List UInt8):Bool:=match trimS d with
  | b :: _=>decide (b.toNat=35)
  | []=>false
def semS(d:List UInt8):Bool:=match d.getLast? with
  | some b=>decide (b.toNat=59)
  | none=>false
def goesS(d:List UInt8)(bg:Bool):Bool:=
  if (starS (trimS (uncS d)) && !bg) || !semS (trimS (uncS d))then false
  else decide ((outS 0 0 (trimS (uncS d))).getLast?=some ((trimS (uncS d)).length - 1))
def begS(d:List UInt8)(bg:Bool):Bool:=decide (trimS (uncS d) ≠ []) && decide (trimS (uncS d) ≠ [59]) && !(starS (trimS (uncS d)) && !bg)
def splitNl:List UInt8->List (List UInt8)
  | []=>[[]]
  | b :: r=>if nlB b then [] :: splitNl r else match splitNl r with
    | []=>[[b]]
    | x :: xs=>(b :: x) :: xs
def logG:List (List UInt8)->List UInt8->Bool->Bool->List (List UInt8)
  | [],now,op,_=>if op then [now]else []
  | x :: xs,now,op,bg=>
    if !op && hashS x then x :: logG xs now op bg
    else if goesS x bg then logG xs ((if op then now ++ [10]else now) ++ x) true (bg || begS x bg)
    else((if op then now ++ [10]else now) ++ x) :: logG xs [] false false
def zT(t:Tok):Tok:=⟨t.kind,0,t.text⟩
def Z(l:List Tok):List Tok:=l.map zT
def endZ:Tok:=⟨5,0,⟨#[]⟩⟩
def endB(b:Bool):List Tok:=if b then [endZ]else []
def LX(d:List UInt8)(b:Bool):List Tok × Bool:=(Z (lexS d 0 b).1,(lexS d 0 b).2.isNone)
theorem Z_app(a b:List Tok):Z (a ++ b)=Z a ++ Z b:=List.map_append
theorem Z_end(b:Bool)(p:Nat):Z (if b then [endT p]else [])=endB b:=by cases b <;> rfl
theorem lexS_any:∀(n:Nat) (d:List UInt8) (p q:Nat) (b:Bool),d.length<=n->Z (lexS d p b).1=Z (lexS d q b).1/\(lexS d p b).2.isNone=(lexS d q b).2.isNone:=by
  intro n
  induction n with
  | zero=>
    intro d p q b h
    obtain rfl:d=[]:=List.eq_nil_of_length_eq_zero (by omega)
    rw[lexS_nil,lexS_nil]
    exact⟨by rw[Z_end,Z_end],rfl⟩
  | succ n ih=>
    intro d p q b h
    cases d with
    | nil=>rw[lexS_nil,lexS_nil];exact⟨by rw[Z_end,Z_end],rfl⟩
    | cons x r=>
      have hr:r.length<=n:=by simpa using h
      have hd:∀m,(r.drop m).length<=n:=λm=>by rw[List.length_drop];omega
      cases hs:stepS x r b with
      | go m=>rw[lexS_go hs,lexS_go hs];exact ih _ _ _ _ (hd m)
      | eol=>
        rw[lexS_eol hs,lexS_eol hs]
        obtain⟨h1,h2⟩:=ih r (p+1) (q+1) false hr
        exact⟨by dsimp only;rw[Z_app,Z_app,Z_end,Z_end,h1],h2⟩
      | tok k t m=>
        rw[lexS_tok hs,lexS_tok hs]
        obtain⟨h1,h2⟩:=ih (r.drop m) (p+1+m) (q+1+m) true (hd m)
        exact⟨by show zT _ :: Z _=zT _ :: Z _;rw[h1];rfl,h2⟩
      | bad i=>rw[lexS_bad hs,lexS_bad hs];exact⟨rfl,rfl⟩
theorem LX_at(d:List UInt8)(p:Nat)(b:Bool):(Z (lexS d p b).1,(lexS d p b).2.isNone)=LX d b:=by
  obtain⟨h1,h2⟩:=lexS_any d.length d p 0 b (Nat.le_refl _)
  unfold LX;rw[h1,h2]
theorem LX_nil(b:Bool):LX [] b=(endB b,true):=by unfold LX;rw[lexS_nil];dsimp only;rw[Z_end];rfl
theorem LX_go{x:UInt8}{r:List UInt8}{b:Bool}{m:Nat}(h:stepS x r b=.go m):LX (x :: r) b=LX (r.drop m) b:=by
  rw[←LX_at (r.drop m) (0+1+m)];unfold LX;rw[lexS_go h]
theorem LX_eol{x:UInt8}{r:List UInt8}{b:Bool}(h:stepS x r b=.eol):LX (x :: r) b=(endB b ++ (LX r false).1,(LX r false).2):=by
  rw[←LX_at r (0+1)];unfold LX;rw[lexS_eol h];dsimp only;rw[Z_app,Z_end]
theorem LX_tok{x:UInt8}{r:List UInt8}{b:Bool}{k:Int}{t:List UInt8}{m:Nat}(h:stepS x r b=.tok k t m):LX (x :: r) b=(⟨k,0,bs t⟩ :: (LX (r.drop m) true).1,(LX (r.drop m) true).2):=by
  rw[←LX_at (r.drop m) (0+1+m)];unfold LX;rw[lexS_tok h];rfl
theorem LX_bad{x:UInt8}{r:List UInt8}{b:Bool}{i:Nat}(h:stepS x r b=.bad i):LX (x :: r) b=([],false):=by
  unfold LX;rw[lexS_bad h];rfl
def noNl(x:List UInt8):Prop:=∀c ∈ x,nlB c=false
theorem nl10:nlB 10=true:=by decide
theorem tw_nl{f:UInt8->Bool}(hf:f 10=false):∀(r y:List UInt8),(r ++ 10 :: y).takeWhile f=r.takeWhile f
  | [],y=>by simp[List.takeWhile_cons,hf]
  | a :: r,y=>by
    rw[List.cons_append,List.takeWhile_cons,List.takeWhile_cons,tw_nl hf r y]
theorem dw_nl{f:UInt8->Bool}(hf:f 10=false):∀(r y:List UInt8),(r ++ 10 :: y).dropWhile f=r.dropWhile f ++ 10 :: y
  | [],y=>by simp[List.dropWhile_cons,hf]
  | a :: r,y=>by
    rw[List.cons_append,List.dropWhile_cons,List.dropWhile_cons,dw_nl hf r y]
    split <;> rfl
theorem lineOf_nl{r:List UInt8}(h:noNl r)(y:List UInt8):lineOf (r ++ 10 :: y)=r/\lineOf r=r:=by
  have h2:lineOf r=r:=by
    unfold lineOf
    have:∀r:List UInt8,noNl r->(r.takeWhile λb=>!nlB b)=r:=by
      intro r
      induction r with
      | nil=>intro _;rfl
      | cons a r ih=>
        intro h
        rw[List.takeWhile_cons,if_pos (by rw[h a (List.mem_cons_self ..)];rfl),ih λc hc=>h c (List.mem_cons_of_mem _ hc)]
    exact this r h
  refine⟨?_,h2⟩
  unfold lineOf at h2 ⊢
  rw[tw_nl (by decide),h2]
theorem ampB_nl(r y:List UInt8):ampB (r ++ 10 :: y)=ampB r:=by
  match r with
  | []=>cases y <;> simp[ampB]
  | [a]=>simp[ampB]
  | a :: b :: r=>rfl
theorem goesB_nl(r y:List UInt8):goesB (r ++ 10 :: y)=goesB r:=by
  unfold goesB
  rw[dw_nl (by decide)]
  cases h:r.dropWhile Lx.blkB with
  | nil=>simp[nl10]
  | cons b t=>
    show(nlB b || ampB (b :: t ++ 10 :: y))=(nlB b || ampB (b :: t))
    rw[ampB_nl]
theorem quote_nl(q:UInt8)(hq:nlB q=false)(r y:List UInt8):quoteS q (r ++ 10 :: y)=quoteS q r:=by
  unfold quoteS
  rw[tw_nl (by simp[nl10])]
  dsimp only
  have hle:(r.takeWhile λb=>!nlB b && !decide (b=q)).length<=r.length:=(List.takeWhile_sublist _).length_le
  generalize hT:r.takeWhile (λb=>!nlB b && !decide (b=q))=t at hle ⊢
  have e:((r ++ 10 :: y)[t.length]?=some q) ↔ (r[t.length]?=some q):=by
    by_cases hlt:t.length<r.length
    · rw[List.getElem?_append_left hlt]
    · have:t.length=r.length:=by omega
      rw[this,List.getElem?_append_right (Nat.le_refl _),Nat.sub_self,List.getElem?_eq_none (Nat.le_refl _)]
      simp only[List.getElem?_cons_zero,Option.some.injEq,reduceCtorEq,iff_false]
      intro h;subst h;revert hq;decide
  by_cases h:r[t.length]?=some q
  · rw[if_pos (e.2 h),if_pos h]
  · rw[if_neg (λh2=>h (e.1 h2)),if_neg h]
theorem map_take_nl{w:List UInt8}(hw:∀c ∈ w,c ≠ 10)(r y:List UInt8):(((r ++ 10 :: y).take w.length).map capU=w) ↔ ((r.take w.length).map capU=w):=by
  by_cases h:w.length<=r.length
  · rw[List.take_append_of_le_length h]
  · constructor
    · intro e
      exfalso
      have hm:(10:UInt8) ∈ ((r ++ 10 :: y).take w.length).map capU:=by
        refine List.mem_map.2 ⟨10,?_,by decide⟩
        refine List.mem_take_iff_getElem.2 ⟨r.length,by simp;omega,by simp⟩
      rw[e]at hm
      exact hw 10 hm rfl
    · intro e
      exfalso
      have:=congrArg List.length e
      rw[List.length_map,List.length_take]at this
      omega
theorem signs_no10:∀w ∈ signsS,∀c ∈ w,c ≠ 10:=by decide +kernel
theorem find_congr{α:Type}{p q:α->Bool}:∀{l:List α},(∀x ∈ l,p x=q x)->l.find? p=l.find? q
  | [],_=>rfl
  | a :: r,h=>by
    rw[List.find?_cons,List.find?_cons,h a (List.mem_cons_self ..),find_congr λx hx=>h x (List.mem_cons_of_mem _ hx)]
theorem sign_nl(r y:List UInt8):signS (r ++ 10 :: y)=signS r:=by
  unfold signS
  exact find_congr λw hw=>dec_eq (map_take_nl (signs_no10 w hw) r y)
theorem unst_ok {l:List UInt8} (h:(unstampS l).2=true) (h2:l ≠ List.replicate 8 32):l.all digB=true:=by
  unfold unstampS at h
  rw[if_neg h2]at h
  split at h
  · cases h
  · split at h
    · assumption
    · cases h
theorem date_nl{c:UInt8}{r:List UInt8}(hn:nlB c=false)(y:List UInt8):dateL ((c :: r) ++ 10 :: y)=dateL (c :: r):=by
  generalize hx:c :: r=x
  have hx0:1<=x.length:=by rw[←hx];simp
  by_cases h13:13<=x.length
  · have et:∀n,n<=13->(x ++ 10 :: y).take n=x.take n:=λn hn=>List.take_append_of_le_length (by omega)
    have eg:∀n,n<13->(x ++ 10 :: y)[n]?=x[n]?:=λn hn=>List.getElem?_append_left (by omega)
    have ed:datesD (x ++ 10 :: y)=datesD x:=by
      unfold datesD
      have e2:∀a b,a+b<=13->((x ++ 10 :: y).drop a).take b=(x.drop a).take b:=λa b h=>by
        rw[List.drop_append_of_le_length (by omega),List.take_append_of_le_length (by rw[List.length_drop];omega)]
      rw[e2 2 4 (by omega),e2 7 2 (by omega),e2 10 2 (by omega)]
    unfold dateL
    rw[et 2 (by omega),eg 6 (by omega),eg 9 (by omega),eg 12 (by omega),ed]
    split
    · rfl
    · have e:((x ++ 10 :: y).length<13∨x.take 2 ≠ [123,94]∨x[6]? ≠ some 45∨x[9]? ≠ some 45∨x[12]? ≠ some 125) ↔ (x.length<13∨x.take 2 ≠ [123,94]∨x[6]? ≠ some 45∨x[9]? ≠ some 45∨x[12]? ≠ some 125):=by
        rw[List.length_append]
        constructor
        · rintro(h|h)
          · exact .inl (by omega)
          · exact .inr h
        · rintro(h|h)
          · exact .inl (by omega)
          · exact .inr h
      by_cases h9:x.length<13∨x.take 2 ≠ [123,94]∨x[6]? ≠ some 45∨x[9]? ≠ some 45∨x[12]? ≠ some 125
      · rw[if_pos (e.2 h9),if_pos h9]
      · rw[if_neg (λh=>h9 (e.1 h)),if_neg h9]
  · have hlt:x.length<13:=by omega
    have hR:dateL x=if x.take 2=[123,125]then some ([],2)else none:=by
      unfold dateL
      split
      · rfl
      · rw[if_pos (.inl hlt)]
    rw[hR]
    have e2:((x ++ 10 :: y).take 2=[123,125]) ↔ (x.take 2=[123,125]):=by
      by_cases h2:2<=x.length
      · rw[List.take_append_of_le_length h2]
      · obtain⟨a,rfl⟩:∃a,x=[a]:=by
          match x,hx0,h2 with
          | [a],_,_=>exact⟨a,rfl⟩
          | a :: b :: t,_,h2=>simp at h2
        simp
    unfold dateL
    by_cases h2:x.take 2=[123,125]
    · rw[if_pos (e2.2 h2),if_pos h2]
    · rw[if_neg (λh=>h2 (e2.1 h)),if_neg h2]
      have at10:(x ++ 10 :: y)[x.length]?=some 10:=by rw[List.getElem?_append_right (Nat.le_refl _),Nat.sub_self];rfl
      split
      · rfl
      · rename_i h9
        split
        · rename_i h8
          exfalso
          have hall:=unst_ok h8.1 h8.2
          have n6:x.length ≠ 6:=λe=>h9 (.inr (.inr (.inl (by rw[←e,at10];decide))))
          have n9:x.length ≠ 9:=λe=>h9 (.inr (.inr (.inr (.inl (by rw[←e,at10];decide)))))
          have n12:x.length ≠ 12:=λe=>h9 (.inr (.inr (.inr (.inr (by rw[←e,at10];decide)))))
          have n1:x.length ≠ 1:=λe=>h9 (.inr (.inl (by
            obtain⟨a,rfl⟩:∃a,x=[a]:=by
              match x,e with
              | [a],_=>exact⟨a,rfl⟩
            simp)))
          have no:(10:UInt8) ∉ datesD (x ++ 10 :: y):=λhm=>by
            have:=List.all_eq_true.1 hall 10 hm
            revert this;decide
          apply no
          have mem:∀a b,a<=x.length->x.length<a+b->(10:UInt8) ∈ ((x ++ 10 :: y).drop a).take b:=λa b h1 h2=>by
            refine List.mem_iff_getElem?.2 ⟨x.length - a,?_⟩
            rw[List.getElem?_take,if_pos (by omega),List.getElem?_drop,show a+(x.length - a)=x.length by omega,at10]
          unfold datesD
          rw[List.mem_append,List.mem_append]
          by_cases a1:x.length<6
          · exact .inl (.inl (mem 2 4 (by omega) (by omega)))
          · by_cases a2:x.length<9
            · exact .inl (.inr (mem 7 2 (by omega) (by omega)))
            · exact .inr (mem 10 2 (by omega) (by omega))
        · rfl
theorem tok_nl{c:UInt8}{r:List UInt8}(hc:nlB c=false)(y:List UInt8):tokS c (r ++ 10 :: y)=tokS c r:=by
  unfold tokS
  rw[←List.cons_append,tw_nl (f:=λc=>letB c || digB c) (by decide),tw_nl (f:=digB) (by decide),quote_nl c hc,date_nl hc,sign_nl]
theorem step_nl {c:UInt8} {r:List UInt8} (h:noNl (c :: r)) (y:List UInt8) (b:Bool):stepS c (r ++ 10 :: y) b=match stepS c r b with
    | .go m=>if !Lx.blkB c && decide (c.toNat=59)then .go (m+1)else .go m
    | s=>s:=by
  have hc:nlB c=false:=h c (List.mem_cons_self ..)
  have hr:noNl r:=λx hx=>h x (List.mem_cons_of_mem _ hx)
  obtain⟨l1,l2⟩:=lineOf_nl hr y
  obtain⟨k1,k2⟩:=lineOf_nl h y
  rw[List.cons_append]at k1
  unfold stepS
  have hc2:¬nlB c=true:=by rw[hc];decide
  rw[if_neg hc2,if_neg hc2]
  by_cases hb:Lx.blkB c=true
  · rw[if_pos hb,if_pos hb]
    dsimp only
    rw[hb];rfl
  · rw[if_neg hb,if_neg hb]
    have hb:Lx.blkB c=false:=by simpa using hb
    have ea:ampB (c :: (r ++ 10 :: y))=ampB (c :: r):=by rw[←List.cons_append];exact ampB_nl _ _
    rw[ea,k1,k2,goesB_nl,l1,l2,tok_nl hc]
    by_cases h1:(ampB (c :: r) || (decide (c.toNat=42) && !b))=true
    · rw[if_pos h1,if_pos h1]
      cases badAt (c :: r)with
      | some i=>rfl
      | none=>
        dsimp only
        have:c.toNat ≠ 59:=λe=>by
          rw[Bool.or_eq_true,Bool.and_eq_true]at h1
          rcases h1 with h1|h1
          · have:c.toNat=38:=by
              cases r with
              | nil=>cases h1
              | cons a r=>unfold ampB at h1;rw[Bool.and_eq_true]at h1;exact of_decide_eq_true h1.1
            omega
          · have:=of_decide_eq_true h1.1;omega
        rw[decide_eq_false this,Bool.and_false];rfl
    · rw[if_neg h1,if_neg h1]
      by_cases h2:(decide (c.toNat=59) && goesB r)=true
      · rw[if_pos h2,if_pos h2]
        have e59:c.toNat=59:=by rw[Bool.and_eq_true]at h2;exact of_decide_eq_true h2.1
        cases badAt r with
        | some i=>rfl
        | none=>
          dsimp only
          rw[if_pos (by simp),if_neg (Nat.lt_irrefl _),hb,decide_eq_true e59];rfl
      · rw[if_neg h2,if_neg h2]
        cases hs:tokS c r with
        | go m=>
          exfalso
          revert hs
          unfold tokS quoteS
          dsimp only
          repeat' split
          all_goals (intro hs;cases hs)
        | eol=>rfl
        | tok k t m=>rfl
        | bad i=>rfl
end Go.Sh.Pr

/- Pre: a line lexed by itself: its tokens, whether it goes on, and that 'goesS' says so. No condition. -/
set_option maxRecDepth 100000
set_option linter.unusedVariables false
set_option linter.unusedSimpArgs false
namespace Go.Sh.Pr
open Go.Sh Go.Sh.Lx
def solB(b:UInt8):Bool:=!isQ b && !Lx.blkB b && !decide (b.toNat=59)
theorem all256 {p:UInt8->Bool} (h:∀n:Nat,n<256->p (UInt8.ofNat n)=true) (b:UInt8):p b=true:=by
  have:=h b.toNat b.toNat_lt
  rwa [UInt8.ofNat_toNat]at this
theorem imp256 {p q:UInt8->Bool} (h:∀n:Nat,n<256->(!p (UInt8.ofNat n) || q (UInt8.ofNat n))=true) {b:UInt8} (hp:p b=true):q b=true:=by
  have:=all256 (p:=λb=>!p b || q b) h b
  rw[hp]at this;simpa using this
theorem sol_word {b:UInt8} (h:(letB b || digB b)=true):(solB b && !decide (b.toNat=38))=true:=imp256 (p:=λb=>letB b || digB b) (q:=λb=>solB b && !decide (b.toNat=38)) (by decide +kernel) h
theorem sol_dig{b:UInt8}(h:digB b=true):(solB b && !decide (b.toNat=38))=true:=sol_word (by rw[h,Bool.or_true])
theorem sol_cap {b:UInt8} (h:solB (capU b)=true):solB b=true:=imp256 (p:=λb=>solB (capU b)) (q:=solB) (by decide +kernel) h
theorem amp_cap{b:UInt8}(h:b.toNat=38):capU b=38:=by
  have:b=38:=UInt8.toNat_inj.1 h
  subst this;decide
theorem signs_sol:∀w ∈ signsS,(w.all λc=>solB c && (!decide (c=38) || decide (w.length=1)))=true/\w ≠ []:=by decide +kernel
theorem tw_mem{p:UInt8->Bool}:∀{l:List UInt8} {a:UInt8},a ∈ l.takeWhile p->p a=true
  | [],a,h=>by cases h
  | x :: l,a,h=>by
    rw[List.takeWhile_cons]at h
    split at h
    · rename_i hx
      rcases List.mem_cons.1 h with rfl|h
      · exact hx
      · exact tw_mem h
    · cases h
def Shut(x:List UInt8):Prop:=(∃q t,x=q :: (t ++ [q])/\isQ q=true/\q ∉ t)∨∀c ∈ x,solB c=true
structure TokB(x:List UInt8)(c:UInt8)(r:List UInt8)(b:Bool):Prop where
  shut:Shut x
  amp:(∀d ∈ x,d.toNat ≠ 38)∨x=[c]∨∃q t,x=q :: (t ++ [q])/\isQ q=true/\q ∉ t
  noamp:ampB (c :: r)=false
  blk:Lx.blkB c=false
  sem:c.toNat ≠ 59
  star:c.toNat=42->b=true
theorem shut_last{x:List UInt8}(h:Shut x){d:UInt8}(hd:x.getLast?=some d):Lx.blkB d=false/\d.toNat ≠ 59:=by
  rcases h with⟨q,t,rfl,hq,_⟩|h
  · have:d=q:=by
      rw[←List.cons_append,List.getLast?_append]at hd
      simpa using hd.symm
    subst this
    have:=imp256 (p:=isQ) (q:=λb=>!Lx.blkB b && !decide (b.toNat=59)) (by decide +kernel) hq
    simp at this;exact⟨this.1,this.2⟩
  · have:=h d (List.mem_of_getLast? hd)
    unfold solB at this;simp at this
    exact⟨this.1.2,this.2⟩
theorem date_bytes {l d:List UInt8} {n:Nat} (h:dateL l=some (d,n)):n<=l.length/\1<=n/\(∀c ∈ l.take n,(solB c && !decide (c.toNat=38))=true):=by
  unfold dateL at h
  split at h
  · rename_i h2
    obtain⟨rfl,rfl⟩:[]=d/\2=n:=by simpa using h
    refine⟨?_,by omega,?_⟩
    · have:=congrArg List.length h2;rw[List.length_take]at this;simp at this;omega
    · rw[h2];decide
  · split at h
    · cases h
    · rename_i h1 h2
      split at h
      case isFalse=>cases h
      rename_i h3
      obtain⟨rfl,rfl⟩:datesD l=d/\13=n:=by simpa using h
      have hl:13<=l.length:=by omega
      refine⟨hl,by omega,?_⟩
      have hall:=unst_ok h3.1 h3.2
      have h6:l[6]?=some 45:=Classical.byContradiction λe=>h2 (.inr (.inr (.inl e)))
      have h9:l[9]?=some 45:=Classical.byContradiction λe=>h2 (.inr (.inr (.inr (.inl e))))
      have h12:l[12]?=some 125:=Classical.byContradiction λe=>h2 (.inr (.inr (.inr (.inr e))))
      have h01:l.take 2=[123,94]:=Classical.byContradiction λe=>h2 (.inr (.inl e))
      intro c hc
      obtain⟨i,hi⟩:=List.mem_iff_getElem?.1 hc
      rw[List.getElem?_take]at hi
      split at hi
      case isFalse=>cases hi
      rename_i hlt
      have dig:∀a k,a<=i->i<a+k->(∀y,y ∈ (l.drop a).take k->y ∈ datesD l)->(solB c && !decide (c.toNat=38))=true:=λa k g1 g2 g3=>by
        refine sol_dig (List.all_eq_true.1 hall c (g3 c ?_))
        refine List.mem_iff_getElem?.2 ⟨i - a,?_⟩
        rw[List.getElem?_take,if_pos (by omega),List.getElem?_drop,show a+(i - a)=i by omega,hi]
      by_cases a0:i<2
      · have:c ∈ l.take 2:=List.mem_iff_getElem?.2 ⟨i,by rw[List.getElem?_take,if_pos a0,hi]⟩
        rw[h01]at this
        have e:c=123∨c=94:=by simpa using this
        rcases e with rfl|rfl <;> decide
      by_cases a1:i<6
      · exact dig 2 4 (by omega) (by omega) λy hy=>by unfold datesD;exact List.mem_append.2 (.inl (List.mem_append.2 (.inl hy)))
      by_cases a2:i=6
      · subst a2;rw[h6]at hi;cases hi;decide
      by_cases a3:i<9
      · exact dig 7 2 (by omega) (by omega) λy hy=>by unfold datesD;exact List.mem_append.2 (.inl (List.mem_append.2 (.inr hy)))
      by_cases a4:i=9
      · subst a4;rw[h9]at hi;cases hi;decide
      by_cases a5:i<12
      · exact dig 10 2 (by omega) (by omega) λy hy=>by unfold datesD;exact List.mem_append.2 (.inr hy)
      obtain rfl:i=12:=by omega
      rw[h12]at hi;cases hi;decide
theorem take_cons_len{c:UInt8}{r:List UInt8}{n:Nat}(h:1<=n):c :: r.take (n - 1)=(c :: r).take n:=by
  cases n with
  | zero=>omega
  | succ n=>rw[List.take_succ_cons,Nat.add_sub_cancel]
theorem tok_shape{c:UInt8}{r:List UInt8}{b:Bool}{k:Int}{t:List UInt8}{m:Nat}(hn:nlB c=false)(h:stepS c r b=.tok k t m) :
    m<=r.length/\0<=k/\k<=4/\TokB (c :: r.take m) c r b:=by
  unfold stepS at h
  rw[if_neg (by rw[hn];decide)]at h
  split at h
  · cases h
  rename_i hblk
  have hblk:Lx.blkB c=false:=by simpa using hblk
  split at h
  · split at h <;> cases h
  rename_i hst
  rw[Bool.or_eq_true,not_or]at hst
  have hamp:ampB (c :: r)=false:=by simpa using hst.1
  have hstar:c.toNat=42->b=true:=λe=>by
    cases b with
    | true=>rfl
    | false=>exact absurd (by rw[decide_eq_true e];rfl) hst.2
  split at h
  · split at h <;> cases h
  rename_i hsem
  unfold tokS at h
  have sol:∀{x:List UInt8},(∀d ∈ x,(solB d && !decide (d.toNat=38))=true)->x=c :: r.take m->TokB (c :: r.take m) c r b:=λ{x} hx e=>by
    subst e
    have h0:=hx c (List.mem_cons_self ..)
    refine⟨.inr λd hd=>by have:=hx d hd;rw[Bool.and_eq_true]at this;exact this.1,.inl λd hd=>by have:=hx d hd;simp at this;exact this.2,hamp,hblk,?_,hstar⟩
    unfold solB at h0;simp at h0;exact h0.1.2
  split at h
  · rename_i hb
    dsimp only at h
    split at h
    · cases h
    · obtain⟨rfl,rfl,rfl⟩:(0:Int)=k/\((c :: r).takeWhile λc=>letB c || digB c).map capU=t/\((c :: r).takeWhile λc=>letB c || digB c).length - 1=m:=by simpa using h
      have hle:=tw_le (λc=>letB c || digB c) (c :: r)
      have hpos:1<=((c :: r).takeWhile λc=>letB c || digB c).length:=by rw[List.takeWhile_cons,if_pos (by rw[hb];rfl)];simp
      simp only[List.length_cons]at hle
      refine⟨by omega,by decide,by decide,sol (x:=(c :: r).takeWhile λc=>letB c || digB c) (λd hd=>sol_word (tw_mem hd)) ?_⟩
      rw[take_cons_len hpos,tw_take]
  split at h
  · rename_i hb
    dsimp only at h
    split at h
    · cases h
    · obtain⟨rfl,rfl,rfl⟩:(1:Int)=k/\(c :: r).takeWhile digB=t/\((c :: r).takeWhile digB).length - 1=m:=by simpa using h
      have hle:=tw_le digB (c :: r)
      have hpos:1<=((c :: r).takeWhile digB).length:=by rw[List.takeWhile_cons,if_pos hb];simp
      simp only[List.length_cons]at hle
      refine⟨by omega,by decide,by decide,sol (x:=(c :: r).takeWhile digB) (λd hd=>sol_dig (tw_mem hd)) ?_⟩
      rw[take_cons_len hpos,tw_take]
  split at h
  · rename_i hq
    have hq2:isQ c=true:=by
      unfold isQ;rw[Bool.or_eq_true]
      rcases hq with hq|hq
      · exact .inl (decide_eq_true hq)
      · exact .inr (decide_eq_true hq)
    unfold quoteS at h
    dsimp only at h
    split at h
    · rename_i hcl
      split at h
      · cases h
      · obtain⟨rfl,rfl,rfl⟩:(2:Int)=k/\r.takeWhile (λd=>!nlB d && !decide (d=c))=t/\(r.takeWhile (λd=>!nlB d && !decide (d=c))).length+1=m:=by simpa using h
        have hlt:=(List.getElem?_eq_some_iff.1 hcl).1
        have e:r.take ((r.takeWhile (λd=>!nlB d && !decide (d=c))).length+1)=r.takeWhile (λd=>!nlB d && !decide (d=c)) ++ [c]:=by rw[take_at hcl,tw_take]
        have hq3:c ∉ r.takeWhile (λd=>!nlB d && !decide (d=c)):=λhm=>by
          have:=tw_mem (p:=λd=>!nlB d && !decide (d=c)) hm
          simp at this
        refine⟨by omega,by decide,by decide,⟨.inl ⟨c,_,by rw[e],hq2,hq3⟩,.inr (.inr ⟨c,_,by rw[e],hq2,hq3⟩),hamp,hblk,?_,hstar⟩⟩
        omega
    · cases h
  split at h
  · rename_i d n hd
    obtain⟨rfl,rfl,rfl⟩:(3:Int)=k/\d=t/\n - 1=m:=by simpa using h
    obtain⟨h1,h2,h3⟩:=date_bytes hd
    simp only[List.length_cons]at h1
    exact⟨by omega,by decide,by decide,sol (x:=(c :: r).take n) h3 (by rw[take_cons_len h2])⟩
  · split at h
    · rename_i x hx
      obtain⟨rfl,rfl,rfl⟩:(4:Int)=k/\x=t/\x.length - 1=m:=by simpa using h
      unfold signS at hx
      have hmem:=List.mem_of_find?_eq_some hx
      have hcap:=List.find?_some hx
      have hcap:=of_decide_eq_true hcap
      obtain⟨hall,hne⟩:=signs_sol x hmem
      have hpos:1<=x.length:=List.length_pos_iff.2 hne
      have hlen:((c :: r).take x.length).length=x.length:=by have:=congrArg List.length hcap;rwa [List.length_map]at this
      have hle:x.length<=r.length+1:=by rw[List.length_take]at hlen;simp at hlen;omega
      have hsol:∀d ∈ (c :: r).take x.length,solB d=true:=λd hd=>by
        have:capU d ∈ x:=by rw[←hcap];exact List.mem_map.2 ⟨d,hd,rfl⟩
        have:=List.all_eq_true.1 hall _ this
        rw[Bool.and_eq_true]at this
        exact sol_cap this.1
      have e0:=take_cons_len (c:=c) (r:=r) hpos
      have hc0:c ∈ (c :: r).take x.length:=by rw[←e0];exact List.mem_cons_self ..
      refine⟨by omega,by decide,by decide,⟨.inr (by rw[e0];exact hsol),?_,hamp,hblk,?_,hstar⟩⟩
      · by_cases h1:x.length=1
        · right;left
          rw[h1];rfl
        · left
          rw[e0]
          intro d hd h38
          have:capU d ∈ x:=by rw[←hcap];exact List.mem_map.2 ⟨d,hd,rfl⟩
          have:=List.all_eq_true.1 hall _ this
          rw[amp_cap h38]at this
          simp at this
          exact h1 this.2
      · have:=hsol c hc0
        unfold solB at this;simp at this;exact this.2
    · cases h
theorem outS_cons(p:Nat)(b:UInt8)(r:List UInt8):outS 0 p (b :: r)=if isQ b && decide (cnt b r<r.length)then outS (cnt b r+1) (p+1) r else p :: outS 0 (p+1) r:=by rw[outS]
theorem outS_skip:∀(s p:Nat) (d:List UInt8),outS s p d=outS 0 (p+s) (d.drop s)
  | 0,p,d=>rfl
  | s+1,p,[]=>by simp[outS]
  | s+1,p,_ :: d=>by
    show outS s (p+1) d=_
    rw[outS_skip s (p+1) d,List.drop_succ_cons]
    congr 1;omega
theorem outS_shift:∀(d:List UInt8) (s p k:Nat),outS s (p+k) d=(outS s p d).map (· + k)
  | [],s,p,k=>by cases s <;> rfl
  | b :: r,s+1,p,k=>by
    show outS s (p+k+1) r=(outS s (p+1) r).map _
    rw[show p+k+1=p+1+k by omega];exact outS_shift r s (p+1) k
  | b :: r,0,p,k=>by
    unfold outS
    split
    · rw[show p+k+1=p+1+k by omega];exact outS_shift r _ (p+1) k
    · rw[show p+k+1=p+1+k by omega,outS_shift r 0 (p+1) k];rfl
theorem cnt_at{q:UInt8}:∀{t:List UInt8} (s:List UInt8),q ∉ t->cnt q (t ++ q :: s)=t.length
  | [],s,_=>by simp[cnt]
  | a :: t,s,h=>by
    have h1:¬a=q:=λe=>h (by rw[e];exact List.mem_cons_self ..)
    have ih:=cnt_at (t:=t) s λhm=>h (List.mem_cons_of_mem _ hm)
    unfold cnt at ih ⊢
    rw[List.cons_append,List.takeWhile_cons,if_pos (by simp[h1]),List.length_cons,ih,List.length_cons]
theorem outS_shut{x:List UInt8}(h:Shut x)(p:Nat):∃L,(∀i ∈ L,p<=i/\i<p+x.length/\∀c ∈ x,solB c=true)/\∀s,outS 0 p (x ++ s)=L ++ outS 0 (p+x.length) s:=by
  rcases h with⟨q,t,rfl,hq,hnt⟩|h
  · refine⟨[],λi hi=>by simp at hi,λs=>?_⟩
    have e:(q :: (t ++ [q])) ++ s=q :: (t ++ q :: s):=by simp
    rw[e]
    rw[outS_cons,hq,cnt_at s hnt,if_pos (by simp),outS_skip]
    rw[show(t ++ q :: s).drop (t.length+1)=s by rw[←List.drop_drop,List.drop_left];rfl]
    rw[List.nil_append]
    have el:p+1+(t.length+1)=p+(q :: (t ++ [q])).length:=by simp;omega
    rw[el]
  · have key:∀(x:List UInt8) (p:Nat),(∀c ∈ x,solB c=true)->∃L:List Nat,(∀i ∈ L,p<=i/\i<p+x.length)/\∀s,outS 0 p (x ++ s)=L ++ outS 0 (p+x.length) s:=by
      intro x
      induction x with
      | nil=>intro p _;exact⟨[],λi hi=>by simp at hi,λs=>rfl⟩
      | cons a x ih=>
        intro p h
        obtain⟨L,h1,h2⟩:=ih (p+1) λc hc=>h c (List.mem_cons_of_mem _ hc)
        have ha:=h a (List.mem_cons_self ..)
        have hq:isQ a=false:=by unfold solB at ha;simp at ha;exact ha.1.1
        refine⟨p :: L,λi hi=>?_,λs=>?_⟩
        · rcases List.mem_cons.1 hi with rfl|hi
          · exact⟨Nat.le_refl _,by simp⟩
          · have:=h1 i hi;simp;omega
        · rw[List.cons_append]
          show(if isQ a && _ then _ else _)=_
          rw[hq,Bool.false_and,if_neg (by decide),h2 s,List.cons_append]
          congr 3
          simp;omega
    obtain⟨L,h1,h2⟩:=key x p h
    exact⟨L,λi hi=>⟨(h1 i hi).1,(h1 i hi).2,h⟩,h2⟩
theorem find_map_add (L:List Nat) (k:Nat) (f g:Nat->Bool) (h:∀i ∈ L,f (i+k)=g i):(L.map (· + k)).find? f=(L.find? g).map (· + k):=by
  induction L with
  | nil=>rfl
  | cons a L ih=>
    rw[List.map_cons,List.find?_cons,List.find?_cons,h a (List.mem_cons_self ..),ih λi hi=>h i (List.mem_cons_of_mem _ hi)]
    cases g a <;> rfl
theorem find_none{L:List Nat}{f:Nat->Bool}(h:∀i ∈ L,f i=false):L.find? f=none:=by
  rw[List.find?_eq_none]
  intro i hi;rw[h i hi];decide
theorem unc_app {x y:List UInt8} (h:Shut x) (ha:∀i,i<x.length->(∀c ∈ x,solB c=true)->ampB ((x ++ y).drop i)=false):uncS (x ++ y)=x ++ uncS y:=by
  obtain⟨L,h1,h2⟩:=outS_shut h 0
  unfold uncS
  rw[h2 y,List.find?_append,find_none (L:=L) (λi hi=>ha i (by have:=(h1 i hi).2.1;omega) (h1 i hi).2.2),Option.none_or,outS_shift y 0 0 x.length]
  rw[find_map_add _ x.length (λi=>ampB ((x ++ y).drop i)) (λi=>ampB (y.drop i)) (λi hi=>by
    rw[List.drop_append,List.drop_eq_nil_of_le (by omega),List.nil_append,Nat.add_sub_cancel])]
  cases (outS 0 0 y).find? (λi=>ampB (y.drop i))with
  | none=>rfl
  | some i=>
    show(x ++ y).take (i+x.length)=x ++ y.take i
    rw[List.take_append,List.take_of_length_le (by omega),Nat.add_sub_cancel]
theorem ampB_ne{b:UInt8}{r:List UInt8}(h:b.toNat ≠ 38):ampB (b :: r)=false:=by
  cases r with
  | nil=>rfl
  | cons a r=>show(decide (b.toNat=38) && _)=false;rw[decide_eq_false h];rfl
theorem unc_tok {c:UInt8} {r:List UInt8} {b:Bool} {m:Nat} (h:TokB (c :: r.take m) c r b):uncS (c :: r)=(c :: r.take m) ++ uncS (r.drop m):=by
  have e:c :: r=(c :: r.take m) ++ r.drop m:=by rw[List.cons_append,List.take_append_drop]
  conv => lhs;rw [e]
  refine unc_app h.shut λi hi hs=>?_
  rcases h.amp with h1|h1|⟨q,t,h1,h2,h3⟩
  · have hx:((c :: r.take m) ++ r.drop m)[i]?=(c :: r.take m)[i]?:=List.getElem?_append_left hi
    obtain⟨d,hd⟩:=at_k hi
    rw[hd]at hx
    rw[drop_at hx]
    exact ampB_ne (h1 d (List.mem_of_getElem? hd))
  · have:i=0:=by rw[h1]at hi;simpa using hi
    subst this
    rw[←e];exact h.noamp
  · exfalso
    have:=hs q (by rw[h1];exact List.mem_cons_self ..)
    unfold solB at this;rw[h2]at this;simp at this
theorem unc_blk{c:UInt8}{r:List UInt8}(h:Lx.blkB c=true):uncS (c :: r)=c :: uncS r:=by
  have hs:isQ c=false/\c.toNat ≠ 38:=by
    have:=imp256 (p:=Lx.blkB) (q:=λb=>!isQ b && !decide (b.toNat=38)) (by decide +kernel) h
    simp at this;exact this
  have e:outS 0 0 (c :: r)=0 :: (outS 0 0 r).map (· + 1):=by
    rw[outS_cons,hs.1,Bool.false_and,if_neg (by decide),outS_shift r 0 0 1]
  unfold uncS
  rw[e,List.find?_cons]
  have h0:ampB ((c :: r).drop 0)=false:=ampB_ne hs.2
  rw[h0]
  dsimp only
  rw[find_map_add _ 1 (λi=>ampB ((c :: r).drop i)) (λi=>ampB (r.drop i)) (λi hi=>rfl)]
  cases (outS 0 0 r).find? (λi=>ampB (r.drop i))with
  | none=>rfl
  | some i=>rfl
theorem unc_amp{d:List UInt8}(h:ampB d=true):uncS d=[]:=by
  match d,h with
  | a :: b :: r,h=>
    have ha:a.toNat=38:=by unfold ampB at h;rw[Bool.and_eq_true]at h;exact of_decide_eq_true h.1
    have hq:isQ a=false:=by have:a=38:=UInt8.toNat_inj.1 ha;subst this;decide
    unfold uncS
    rw[outS_cons,hq,Bool.false_and,if_neg (by decide),List.find?_cons]
    have:ampB ((a :: b :: r).drop 0)=true:=h
    rw[this];rfl
end Go.Sh.Pr

/- Pre: a line lexed by itself, and that 'goesS' says whether it goes on. No condition. -/
set_option maxRecDepth 100000
set_option linter.unusedVariables false
set_option linter.unusedSimpArgs false
namespace Go.Sh.Pr
open Go.Sh Go.Sh.Lx
def lnS:List UInt8->Bool->Option (List Tok × Bool × Bool)
  | [],b=>some ([],b,false)
  | c :: r,b=>match stepS c r b with
    | .go m=>if !Lx.blkB c && decide (c.toNat=59)then some ([],b,true)else lnS (r.drop m) b
    | .eol=>none
    | .tok k t m=>(lnS (r.drop m) true).map λo=>(⟨k,0,bs t⟩ :: o.1,o.2)
    | .bad _=>none
 termination_by l=>l.length
 decreasing_by all_goals (simp only[List.length_drop,List.length_cons];omega)
theorem lnS_nil(b:Bool):lnS [] b=some ([],b,false):=by rw[lnS]
theorem lnS_go{c:UInt8}{r:List UInt8}{b:Bool}{m:Nat}(h:stepS c r b=.go m):lnS (c :: r) b=if !Lx.blkB c && decide (c.toNat=59)then some ([],b,true)else lnS (r.drop m) b:=by rw[lnS,h]
theorem lnS_tok{c:UInt8}{r:List UInt8}{b:Bool}{k:Int}{t:List UInt8}{m:Nat}(h:stepS c r b=.tok k t m):lnS (c :: r) b=(lnS (r.drop m) true).map λo=>(⟨k,0,bs t⟩ :: o.1,o.2):=by rw[lnS,h]
theorem lnS_bad{c:UInt8}{r:List UInt8}{b:Bool}{i:Nat}(h:stepS c r b=.bad i):lnS (c :: r) b=none:=by rw[lnS,h]
theorem step_go {c:UInt8} {r:List UInt8} {b:Bool} {m:Nat} (hn:noNl (c :: r)) (h:stepS c r b=.go m) :
    (Lx.blkB c=true/\m=0)∨(Lx.blkB c=false/\ampB (c :: r)=true/\m=r.length/\c.toNat ≠ 59)∨(Lx.blkB c=false/\c.toNat=42/\b=false/\m=r.length)∨(Lx.blkB c=false/\c.toNat=59/\goesB r=true/\m=r.length):=by
  have hc:nlB c=false:=hn c (List.mem_cons_self ..)
  have hr:noNl r:=λx hx=>hn x (List.mem_cons_of_mem _ hx)
  have l2:=(lineOf_nl hr []).2
  have k2:=(lineOf_nl hn []).2
  unfold stepS at h
  rw[if_neg (by rw[hc];decide)]at h
  split at h
  · rename_i hb
    obtain rfl:0=m:=by simpa using h
    exact .inl ⟨hb,rfl⟩
  rename_i hb
  have hb:Lx.blkB c=false:=by simpa using hb
  split at h
  · rename_i h1
    split at h
    · cases h
    · rw[k2]at h
      obtain rfl:(c :: r).length - 1=m:=by simpa using h
      rw[Bool.or_eq_true,Bool.and_eq_true]at h1
      by_cases ha:ampB (c :: r)=true
      · have:c.toNat=38:=by
          cases r with
          | nil=>cases ha
          | cons a r=>unfold ampB at ha;rw[Bool.and_eq_true]at ha;exact of_decide_eq_true ha.1
        exact .inr (.inl ⟨hb,ha,by simp,by omega⟩)
      · rcases h1 with h1|h1
        · exact absurd h1 ha
        · exact .inr (.inr (.inl ⟨hb,of_decide_eq_true h1.1,by simpa using h1.2,by simp⟩))
  split at h
  · rename_i h2
    rw[Bool.and_eq_true]at h2
    split at h
    · cases h
    · rw[l2,if_neg (Nat.lt_irrefl _)]at h
      obtain rfl:r.length=m:=by simpa using h
      exact .inr (.inr (.inr ⟨hb,of_decide_eq_true h2.1,h2.2,rfl⟩))
  · exfalso
    revert h
    unfold tokS quoteS
    dsimp only
    repeat' split
    all_goals (intro hs;cases hs)
theorem step_neol{c:UInt8}{r:List UInt8}{b:Bool}(hc:nlB c=false):stepS c r b ≠ .eol:=by
  intro h
  unfold stepS at h
  rw[if_neg (by rw[hc];decide)]at h
  revert h
  unfold tokS quoteS
  dsimp only
  repeat' split
  all_goals (intro hs;cases hs)
theorem step_at10(y:List UInt8)(b:Bool):stepS 10 y b=.eol:=by unfold stepS;rw[if_pos nl10]
theorem noNl_drop{r:List UInt8}(h:noNl r)(m:Nat):noNl (r.drop m):=λc hc=>h c (List.mem_of_mem_drop hc)
theorem lnS_spec:∀(n:Nat) (x:List UInt8) (b:Bool),x.length<=n->noNl x->match lnS x b with
    | none=>(∀y,(LX (x ++ 10 :: y) b).2=false)/\(LX x b).2=false
    | some (ts,b',g)=>(∀t ∈ ts,t.kind ≠ 5)/\b'=(b || !ts.isEmpty)/\LX x b=(ts ++ endB b',true)/\
      ∀y,LX (x ++ 10 :: y) b=if g then(ts ++ (LX y b').1,(LX y b').2)else(ts ++ endB b' ++ (LX y false).1,(LX y false).2):=by
  have nil:∀b:Bool,match lnS [] b with
    | none=>(∀y,(LX ([] ++ 10 :: y) b).2=false)/\(LX [] b).2=false
    | some (ts,b',g)=>(∀t ∈ ts,t.kind ≠ 5)/\b'=(b || !ts.isEmpty)/\LX [] b=(ts ++ endB b',true)/\
      ∀y,LX ([] ++ 10 :: y) b=if g then(ts ++ (LX y b').1,(LX y b').2)else(ts ++ endB b' ++ (LX y false).1,(LX y false).2):=by
    intro b
    rw[lnS_nil]
    refine⟨λt ht=>(by cases ht),by simp,LX_nil b,λy=>?_⟩
    rw[List.nil_append,LX_eol (step_at10 y b)];rfl
  intro n
  induction n with
  | zero=>
    intro x b h _
    obtain rfl:x=[]:=List.eq_nil_of_length_eq_zero (by omega)
    exact nil b
  | succ n ih=>
    intro x b h hn
    cases x with
    | nil=>exact nil b
    | cons c r=>
      have hr:r.length<=n:=by simpa using h
      have hnr:noNl r:=λx hx=>hn x (List.mem_cons_of_mem _ hx)
      have hc:nlB c=false:=hn c (List.mem_cons_self ..)
      have hd:∀m,(r.drop m).length<=n:=λm=>by rw[List.length_drop];omega
      have ext:∀m y,m<=r.length->(r ++ 10 :: y).drop m=r.drop m ++ 10 :: y:=λm y hm=>List.drop_append_of_le_length hm
      have st:=λy=>step_nl hn y b
      cases hs:stepS c r b with
      | go m=>
        rw[hs]at st
        have hm:m<=r.length:=by rcases step_go hn hs with h|h|h|h <;> omega
        rw[lnS_go hs]
        by_cases hf:(!Lx.blkB c && decide (c.toNat=59))=true
        · rw[if_pos hf]
          have em:m=r.length:=by
            rw[Bool.and_eq_true]at hf
            have h1:Lx.blkB c=false:=by simpa using hf.1
            have h2:=of_decide_eq_true hf.2
            rcases step_go hn hs with h|h|h|h
            · rw[h1]at h;cases h.1
            · exact h.2.2.1
            · exact h.2.2.2
            · exact h.2.2.2
          dsimp only at st
          refine⟨λt ht=>(by cases ht),by simp,?_,λy=>?_⟩
          · rw[LX_go hs,em,List.drop_length,LX_nil];rfl
          · have:=st y
            rw[if_pos hf]at this
            rw[List.cons_append,LX_go this,if_pos rfl,em,←List.drop_drop,List.drop_left]
            rfl
        · rw[if_neg hf]
          have:=ih (r.drop m) b (hd m) (noNl_drop hnr m)
          dsimp only at st
          have st2:∀y,stepS c (r ++ 10 :: y) b=.go m:=λy=>by rw[st y,if_neg hf]
          have e1:∀y,LX (c :: r ++ 10 :: y) b=LX (r.drop m ++ 10 :: y) b:=λy=>by rw[List.cons_append,LX_go (st2 y),ext m y hm]
          have e2:LX (c :: r) b=LX (r.drop m) b:=LX_go hs
          rw[e2]
          simp only[e1]
          exact this
      | eol=>exact absurd hs (step_neol hc)
      | tok k t m=>
        rw[hs]at st
        obtain⟨hm,hk0,hk4,htb⟩:=tok_shape hc hs
        have st2:∀y,stepS c (r ++ 10 :: y) b=.tok k t m:=λy=>st y
        have e1:∀y,LX (c :: r ++ 10 :: y) b=(⟨k,0,bs t⟩ :: (LX (r.drop m ++ 10 :: y) true).1,(LX (r.drop m ++ 10 :: y) true).2):=λy=>by rw[List.cons_append,LX_tok (st2 y),ext m y hm]
        have e2:=LX_tok hs
        have:=ih (r.drop m) true (hd m) (noNl_drop hnr m)
        rw[lnS_tok hs]
        cases hl:lnS (r.drop m) true with
        | none=>
          rw[hl]at this
          obtain⟨h1,h2⟩:=this
          exact⟨λy=>by rw[e1];exact h1 y,by rw[e2];exact h2⟩
        | some o=>
          obtain⟨ts,b',g⟩:=o
          rw[hl]at this
          obtain⟨h1,h2,h3,h4⟩:=this
          have h2:b'=true:=by rw[h2];rfl
          subst h2
          refine⟨λt ht=>?_,by simp,by rw[e2,h3];rfl,λy=>?_⟩
          · rcases List.mem_cons.1 ht with rfl|ht
            · show k ≠ 5;omega
            · exact h1 t ht
          · rw[e1,h4 y]
            cases g <;> rfl
      | bad i=>
        rw[hs]at st
        rw[lnS_bad hs]
        exact⟨λy=>by rw[List.cons_append,LX_bad (st y)],by rw[LX_bad hs]⟩
def lastNb(u:List UInt8):Option UInt8:=u.reverse.find? λb=>!Lx.blkB b
theorem lastNb_app(a u:List UInt8):lastNb (a ++ u)=(lastNb u).or (lastNb a):=by unfold lastNb;rw[List.reverse_append,List.find?_append]
theorem lastNb_one(c:UInt8):lastNb [c]=if Lx.blkB c then none else some c:=by
  unfold lastNb
  rw[List.reverse_singleton,List.find?_singleton]
  cases Lx.blkB c <;> rfl
theorem find_dw{p:UInt8->Bool}:∀l:List UInt8,l.find? (λb=>!p b)=(l.dropWhile p).head?
  | []=>rfl
  | a :: l=>by
    rw[List.find?_cons,List.dropWhile_cons,find_dw l]
    cases p a <;> rfl
theorem dw_all{p:UInt8->Bool}:∀{l:List UInt8},(∀c ∈ l,p c=true)->∀r,(l ++ r).dropWhile p=r.dropWhile p
  | [],_,r=>rfl
  | a :: l,h,r=>by
    rw[List.cons_append,List.dropWhile_cons,if_pos (h a (List.mem_cons_self ..))]
    exact dw_all (λc hc=>h c (List.mem_cons_of_mem _ hc)) r
theorem dw_split{p:UInt8->Bool}(l:List UInt8):∃a,(∀c ∈ a,p c=true)/\l=a ++ l.dropWhile p:=⟨l.takeWhile p,λc hc=>tw_mem hc,(List.takeWhile_append_dropWhile ..).symm⟩
theorem trim_last(u:List UInt8):(trimS u).getLast?=lastNb u:=by
  unfold trimS lastNb
  rw[List.getLast?_reverse,find_dw]
  obtain⟨a,ha,he⟩:=dw_split (p:=Lx.blkB) u
  conv => rhs;rw [he]
  rw[List.reverse_append]
  generalize u.dropWhile Lx.blkB=v
  have:∀(x y:List UInt8),(∀c ∈ y,Lx.blkB c=true)->(x.dropWhile Lx.blkB).head?=((x ++ y).dropWhile Lx.blkB).head?:=by
    intro x
    induction x with
    | nil=>
      intro y hy
      have:=dw_all hy []
      rw[List.append_nil]at this
      rw[List.nil_append,this]
    | cons c x ih=>
      intro y hy
      rw[List.cons_append,List.dropWhile_cons,List.dropWhile_cons]
      by_cases h:Lx.blkB c=true
      · rw[if_pos h,if_pos h];exact ih y hy
      · rw[if_neg h,if_neg h];rfl
  exact this _ _ λc hc=>ha c (List.mem_reverse.1 hc)
theorem semS_trim(u:List UInt8):semS (trimS u)=match lastNb u with
    | some b=>decide (b.toNat=59)
    | none=>false:=by
  unfold semS;rw[trim_last]
  all_goals (cases lastNb u <;> rfl)
theorem trim_star{u t:List UInt8}{c:UInt8}(h:u.dropWhile Lx.blkB=c :: t):∃t',trimS u=c :: t':=by
  have hc:Lx.blkB c=false:=by
    have:=List.head?_dropWhile_not Lx.blkB u
    rw[h]at this
    simpa using this
  unfold trimS
  rw[h,List.reverse_cons]
  have:∀v:List UInt8,∃t',((v ++ [c]).dropWhile Lx.blkB).reverse=c :: t':=by
    intro v
    induction v with
    | nil=>exact⟨[],by rw[List.nil_append,List.dropWhile_cons,if_neg (by rw[hc];decide)];rfl⟩
    | cons a v ih=>
      rw[List.cons_append,List.dropWhile_cons]
      by_cases ha:Lx.blkB a=true
      · rw[if_pos ha];exact ih
      · rw[if_neg ha];exact⟨v.reverse ++ [a],by simp⟩
  exact this _
theorem trim_semi{c bl:List UInt8}(hb:∀d ∈ bl,Lx.blkB d=true):trimS (c ++ 59 :: bl)=c.dropWhile Lx.blkB ++ [59]:=by
  have h59:¬Lx.blkB 59=true:=by decide
  have e1:∀c:List UInt8,(c ++ 59 :: bl).dropWhile Lx.blkB=c.dropWhile Lx.blkB ++ 59 :: bl:=by
    intro c
    induction c with
    | nil=>rw[List.nil_append,List.dropWhile_cons,if_neg h59];rfl
    | cons a c ih=>
      rw[List.cons_append,List.dropWhile_cons,List.dropWhile_cons,ih]
      split <;> rfl
  unfold trimS
  rw[e1]
  have e2:(c.dropWhile Lx.blkB ++ 59 :: bl).reverse=bl.reverse ++ 59 :: (c.dropWhile Lx.blkB).reverse:=by simp
  rw[e2,dw_all (λd hd=>hb d (List.mem_reverse.1 hd)),List.dropWhile_cons,if_neg h59]
  simp
def LastOut(s:List UInt8):Prop:=∀p,(outS 0 p s).getLast?=some (p+(s.length - 1))
theorem last_drop {L M:List Nat} {k n:Nat} (h:(L ++ M).getLast?=some k) (hL:∀i ∈ L,i<n) (hk:n<=k):M.getLast?=some k:=by
  rw[List.getLast?_append]at h
  cases hM:M.getLast? with
  | some j=>rw[hM]at h;exact h
  | none=>
    rw[hM]at h
    have h:L.getLast?=some k:=h
    have:=hL k (List.mem_of_getLast? h)
    omega
theorem sol_blk{c:UInt8}(h:Lx.blkB c=true):isQ c=false/\c.toNat ≠ 38/\c.toNat ≠ 42:=by
  have:=imp256 (p:=Lx.blkB) (q:=λb=>!isQ b && !decide (b.toNat=38) && !decide (b.toNat=42)) (by decide +kernel) h
  simp at this;exact⟨this.1.1,this.1.2,this.2⟩
theorem out_cons{c:UInt8}(h:isQ c=false)(p:Nat)(s:List UInt8):outS 0 p (c :: s)=p :: outS 0 (p+1) s:=by
  rw[outS_cons,h,Bool.false_and,if_neg (by decide)]
theorem LastOut.behind {c:UInt8} {s:List UInt8} (hq:isQ c=false) (hs:s ≠ []) (h:LastOut (c :: s)):LastOut s:=λp=>by
  have hl:1<=s.length:=List.length_pos_iff.2 hs
  cases p with
  | zero=>
    have:=h 0
    rw[out_cons hq]at this
    have h2:((outS 0 0 s).map (· + 1)).getLast?=some (0+(s.length - 1)+1):=by
      rw[outS_shift s 0 0 1]at this
      have:=last_drop (L:=[0]) (n:=1) this (by simp) (by simp;omega)
      rw[this];simp;omega
    rw[List.getLast?_map]at h2
    cases hg:(outS 0 0 s).getLast? with
    | none=>rw[hg]at h2;cases h2
    | some k=>
      rw[hg]at h2
      have:k+1=0+(s.length - 1)+1:=by simpa using h2
      congr 1
      omega
  | succ p=>
    have:=h p
    rw[out_cons hq]at this
    have:=last_drop (L:=[p]) (n:=p+1) this (by simp) (by simp;omega)
    rw[this];simp;omega
theorem LastOut.trim {c:List UInt8} (h:LastOut (c ++ [59])):LastOut (c.dropWhile Lx.blkB ++ [59]):=by
  induction c with
  | nil=>exact h
  | cons a c ih=>
    rw[List.dropWhile_cons]
    split
    · rename_i ha
      exact ih (LastOut.behind (sol_blk ha).1 (by simp) h)
    · exact h
def Gd(u:List UInt8)(b b' g:Bool):Prop:=
  if g then ∃c bl,u=c ++ 59 :: bl/\(∀d ∈ bl,Lx.blkB d=true)/\LastOut (c ++ [59])/\b'=(b || decide (c.dropWhile Lx.blkB ≠ []))/\(starS ((c ++ [59]).dropWhile Lx.blkB)=true->b=true)
  else(starS (u.dropWhile Lx.blkB)=true/\b=false)∨∀d,lastNb u=some d->d.toNat ≠ 59
theorem unc_cons {c:UInt8} {r:List UInt8} (hq:isQ c=false) (ha:ampB (c :: r)=false):uncS (c :: r)=c :: uncS r:=by
  have e:outS 0 0 (c :: r)=0 :: (outS 0 0 r).map (· + 1):=by rw[out_cons hq,outS_shift r 0 0 1]
  unfold uncS
  rw[e,List.find?_cons]
  have h0:ampB ((c :: r).drop 0)=false:=ha
  rw[h0]
  dsimp only
  rw[find_map_add _ 1 (λi=>ampB ((c :: r).drop i)) (λi=>ampB (r.drop i)) (λi hi=>rfl)]
  cases (outS 0 0 r).find? (λi=>ampB (r.drop i))with
  | none=>rfl
  | some i=>rfl
theorem unc_goes{r:List UInt8}(hn:noNl r)(h:goesB r=true):∀d ∈ uncS r,Lx.blkB d=true:=by
  induction r with
  | nil=>intro d hd;cases hd
  | cons c r ih=>
    by_cases hc:Lx.blkB c=true
    · rw[unc_blk hc]
      intro d hd
      rcases List.mem_cons.1 hd with rfl|hd
      · exact hc
      · refine ih (λx hx=>hn x (List.mem_cons_of_mem _ hx)) ?_ d hd
        unfold goesB at h ⊢
        rw[List.dropWhile_cons,if_pos hc]at h;exact h
    · unfold goesB at h
      rw[List.dropWhile_cons,if_neg hc]at h
      have h:(nlB c || ampB (c :: r))=true:=h
      rw[hn c (List.mem_cons_self ..),Bool.false_or]at h
      rw[unc_amp h]
      intro d hd;cases hd
theorem lnS_gd:∀(n:Nat) (x:List UInt8) (b:Bool) (ts:List Tok) (b' g:Bool),x.length<=n->noNl x->lnS x b=some (ts,b',g)->Gd (uncS x) b b' g:=by
  have nil:∀(b:Bool) (ts:List Tok) (b' g:Bool),lnS [] b=some (ts,b',g)->Gd (uncS []) b b' g:=by
    intro b ts b' g h
    rw[lnS_nil]at h
    obtain⟨rfl,rfl,rfl⟩:[]=ts/\b=b'/\false=g:=by simpa using h
    right
    intro d hd;cases hd
  intro n
  induction n with
  | zero=>
    intro x b ts b' g h _
    obtain rfl:x=[]:=List.eq_nil_of_length_eq_zero (by omega)
    exact nil b ts b' g
  | succ n ih=>
    intro x b ts b' g h hn hl
    cases x with
    | nil=>exact nil b ts b' g hl
    | cons c r=>
      have hr:r.length<=n:=by simpa using h
      have hnr:noNl r:=λx hx=>hn x (List.mem_cons_of_mem _ hx)
      have hc:nlB c=false:=hn c (List.mem_cons_self ..)
      have hd:∀m,(r.drop m).length<=n:=λm=>by rw[List.length_drop];omega
      cases hs:stepS c r b with
      | go m=>
        rw[lnS_go hs]at hl
        rcases step_go hn hs with⟨h1,h2⟩|⟨h1,h2,h3,h4⟩|⟨h1,h2,h3,h4⟩|⟨h1,h2,h3,h4⟩
        · subst h2
          rw[if_neg (by rw[h1];simp),List.drop_zero]at hl
          have:=ih r b ts b' g hr hnr hl
          rw[unc_blk h1]
          cases g with
          | true=>
            obtain⟨x,bl,k1,k2,k3,k4,k5⟩:=this
            refine⟨c :: x,bl,by rw[k1];rfl,k2,λp=>?_,?_,?_⟩
            · have:=k3 (p+1)
              rw[List.cons_append,out_cons (sol_blk h1).1,List.getLast?_cons,this]
              simp;omega
            · rw[List.dropWhile_cons,if_pos h1];exact k4
            · rw[List.cons_append,List.dropWhile_cons,if_pos h1];exact k5
          | false=>
            rcases this with⟨k1,k2⟩|k1
            · left;rw[List.dropWhile_cons,if_pos h1];exact⟨k1,k2⟩
            · right
              intro d hd
              have e:c :: uncS r=[c] ++ uncS r:=rfl
              rw[e,lastNb_app,lastNb_one,if_pos h1,Option.or_none]at hd
              exact k1 d hd
        · rw[if_neg (by rw[decide_eq_false h4,Bool.and_false];decide),h3,List.drop_length,lnS_nil]at hl
          obtain⟨rfl,rfl,rfl⟩:[]=ts/\b=b'/\false=g:=by simpa using hl
          rw[unc_amp h2]
          right;intro d hd;cases hd
        · rw[if_neg (by rw[decide_eq_false (by omega),Bool.and_false];decide),h4,List.drop_length,lnS_nil]at hl
          obtain⟨rfl,rfl,rfl⟩:[]=ts/\b=b'/\false=g:=by simpa using hl
          have hq:isQ c=false:=by unfold isQ;rw[decide_eq_false (by omega),decide_eq_false (by omega)];rfl
          rw[unc_cons hq (ampB_ne (by omega))]
          left
          rw[List.dropWhile_cons,if_neg (by rw[h1];decide)]
          exact⟨decide_eq_true h2,h3⟩
        · rw[if_pos (by rw[h1,decide_eq_true h2];rfl)]at hl
          obtain⟨rfl,rfl,rfl⟩:[]=ts/\b=b'/\true=g:=by simpa using hl
          have hq:isQ c=false:=by unfold isQ;rw[decide_eq_false (by omega),decide_eq_false (by omega)];rfl
          have e59:c=59:=UInt8.toNat_inj.1 h2
          rw[unc_cons hq (ampB_ne (by omega)),e59]
          refine⟨[],uncS r,rfl,unc_goes hnr h3,λp=>by rw[List.nil_append,out_cons (by decide)];rfl,by simp,?_⟩
          intro h;exact absurd h (by decide)
      | eol=>exact absurd hs (step_neol hc)
      | tok k t m=>
        obtain⟨hm,hk0,hk4,htb⟩:=tok_shape hc hs
        rw[lnS_tok hs]at hl
        obtain⟨o,ho,he⟩:=Option.map_eq_some_iff.1 hl
        obtain⟨ts0,b0,g0⟩:=o
        obtain⟨rfl,rfl,rfl⟩:⟨k,0,bs t⟩ :: ts0=ts/\b0=b'/\g0=g:=by simpa using he
        have:=ih (r.drop m) true ts0 b0 g0 (hd m) (noNl_drop hnr m) ho
        rw[unc_tok htb]
        have hdw:∀v,((c :: r.take m) ++ v).dropWhile Lx.blkB=(c :: r.take m) ++ v:=λv=>by rw[List.cons_append,List.dropWhile_cons,if_neg (by rw[htb.blk];decide)]
        cases g0 with
        | true=>
          obtain⟨x,bl,k1,k2,k3,k4,k5⟩:=this
          refine⟨(c :: r.take m) ++ x,bl,by rw[k1,List.append_assoc],k2,λp=>?_,?_,?_⟩
          · obtain⟨L,j1,j2⟩:=outS_shut htb.shut p
            rw[List.append_assoc,j2,List.getLast?_append,k3 (p+(c :: r.take m).length)]
            simp;omega
          · rw[k4,hdw];simp
          · rw[List.append_assoc,hdw]
            intro h
            exact htb.star (of_decide_eq_true h)
        | false=>
          rcases this with⟨k1,k2⟩|k1
          · cases k2
          · right
            intro d hd
            rw[lastNb_app]at hd
            cases hu:lastNb (uncS (r.drop m))with
            | some e=>
                rw[hu]at hd;have hd:e=d:=by simpa using hd
                exact k1 d (by rw[hu,hd])
            | none=>
              rw[hu,Option.none_or]at hd
              obtain⟨z,hz⟩:∃z,(c :: r.take m).getLast?=some z:=⟨_,List.getLast?_eq_some_getLast (by simp)⟩
              obtain⟨z1,z2⟩:=shut_last htb.shut hz
              have:lastNb (c :: r.take m)=some z:=by
                unfold lastNb
                rw[List.getLast?_eq_head?_reverse]at hz
                cases hv:(c :: r.take m).reverse with
                | nil=>rw[hv]at hz;cases hz
                | cons a v=>
                    rw[hv]at hz;have hz:a=z:=by simpa using hz
                    subst hz;rw[List.find?_cons,z1];rfl
              rw[this]at hd
              have hd:z=d:=by simpa using hd
              rw[←hd];exact z2
      | bad i=>rw[lnS_bad hs]at hl;cases hl
theorem goes_line {x:List UInt8} {b:Bool} {ts:List Tok} {b' g:Bool} (hn:noNl x) (h:lnS x b=some (ts,b',g)):goesS x b=g/\(g=true->b'=(b || begS x b)):=by
  have hg:=lnS_gd x.length x b ts b' g (Nat.le_refl _) hn h
  cases g with
  | true=>
    obtain⟨c,bl,k1,k2,k3,k4,k5⟩:=hg
    have ht:trimS (uncS x)=c.dropWhile Lx.blkB ++ [59]:=by rw[k1,trim_semi k2]
    have hst:starS (c.dropWhile Lx.blkB ++ [59])=true->b=true:=λh=>k5 (by
      have:∀c:List UInt8,(c ++ [59]).dropWhile Lx.blkB=c.dropWhile Lx.blkB ++ [59]:=by
        intro c
        induction c with
        | nil=>rfl
        | cons a c ih=>
          rw[List.cons_append,List.dropWhile_cons,List.dropWhile_cons,ih]
          split <;> rfl
      rw[this];exact h)
    have hs2:(starS (c.dropWhile Lx.blkB ++ [59]) && !b)=false:=by
      cases hs:starS (c.dropWhile Lx.blkB ++ [59])with
      | false=>rfl
      | true=>rw[hst hs];rfl
    have hsem:semS (c.dropWhile Lx.blkB ++ [59])=true:=by unfold semS;rw[List.getLast?_concat];rfl
    refine⟨?_,λ_=>?_⟩
    · unfold goesS
      rw[ht,hs2,hsem,if_neg (by decide)]
      have:=k3.trim 0
      rw[this]
      simp
    · unfold begS
      rw[ht,hs2,k4]
      congr 1
      have h1:decide (c.dropWhile Lx.blkB ++ [59] ≠ [])=true:=decide_eq_true (by simp)
      rw[h1]
      cases hc:c.dropWhile Lx.blkB with
      | nil=>decide
      | cons a v=>
        have:decide (a :: v ++ [59] ≠ ([59]:List UInt8))=true:=decide_eq_true (by simp)
        rw[this];simp
  | false=>
    refine⟨?_,λh=>by cases h⟩
    rcases hg with⟨k1,k2⟩|k1
    · unfold goesS
      have:starS (trimS (uncS x))=true:=by
        cases hu:(uncS x).dropWhile Lx.blkB with
        | nil=>rw[hu]at k1;cases k1
        | cons a v=>
          rw[hu]at k1
          obtain⟨t',ht⟩:=trim_star hu
          rw[ht];exact k1
      rw[this,k2];rfl
    · unfold goesS
      have:semS (trimS (uncS x))=false:=by
        rw[semS_trim]
        cases hl:lastNb (uncS x)with
        | none=>rfl
        | some d=>exact decide_eq_false (k1 d hl)
      rw[this,Bool.not_false,Bool.or_true,if_pos rfl]
end Go.Sh.Pr

/- Pre: that the tokens of a text without directives are those of its lines, one behind the other. No condition. -/
set_option maxRecDepth 100000
set_option linter.unusedVariables false
set_option linter.unusedSimpArgs false
namespace Go.Sh.Pr
open Go.Sh Go.Sh.Lx
def joinNl:List (List UInt8)->List UInt8
  | []=>[]
  | [x]=>x
  | x :: xs=>x ++ 10 :: joinNl xs
theorem joinNl_cons (x:List UInt8) {xs:List (List UInt8)} (h:xs ≠ []):joinNl (x :: xs)=x ++ 10 :: joinNl xs:=by
  cases xs with
  | nil=>exact absurd rfl h
  | cons y xs=>rfl
theorem split_ne(d:List UInt8):splitNl d ≠ []:=by
  cases d with
  | nil=>simp[splitNl]
  | cons b r=>
    unfold splitNl
    split
    · simp
    · split <;> simp
theorem split_join:∀d:List UInt8,joinNl (splitNl d)=d/\∀x ∈ splitNl d,noNl x
  | []=>⟨rfl,λx hx=>by simp[splitNl]at hx;subst hx;intro c hc;cases hc⟩
  | b :: r=>by
    obtain⟨h1,h2⟩:=split_join r
    have hne:=split_ne r
    unfold splitNl
    by_cases hb:nlB b=true
    · rw[if_pos hb,joinNl_cons _ hne,h1]
      have e10:b=10:=UInt8.toNat_inj.1 (of_decide_eq_true hb)
      refine⟨by rw[e10];rfl,λx hx=>?_⟩
      rcases List.mem_cons.1 hx with rfl|hx
      · intro c hc;cases hc
      · exact h2 x hx
    · rw[if_neg hb]
      cases hs:splitNl r with
      | nil=>exact absurd hs hne
      | cons x xs=>
        rw[hs]at h1 h2
        dsimp only
        refine⟨?_,λy hy=>?_⟩
        · cases xs with
          | nil=>show b :: x=b :: r;rw[show x=r from h1]
          | cons y ys=>
            rw[joinNl_cons _ (by simp)]at h1 ⊢
            rw[List.cons_append,h1]
        · rcases List.mem_cons.1 hy with rfl|hy
          · intro c hc
            rcases List.mem_cons.1 hc with rfl|hc
            · simpa using hb
            · exact h2 x (List.mem_cons_self ..) c hc
          · exact h2 y (List.mem_cons_of_mem _ hy)
def okL(l:List UInt8):Bool:=(LX l false).2
theorem log_dead:∀(xs:List (List UInt8)) (now:List UInt8) (bg:Bool),(∀rest,(LX (now ++ 10 :: rest) false).2=false)->(LX now false).2=false->(logG xs now true bg).all okL=false
  | [],now,bg,_,h=>by
    show((okL now) && true)=false
    rw[show okL now=false from h];rfl
  | x :: xs,now,bg,h,_=>by
    unfold logG
    rw[if_neg (by simp)]
    have e:∀rest,(if true=true then now ++ [10]else now) ++ x ++ rest=now ++ 10 :: (x ++ rest):=λrest=>by simp
    split
    · refine log_dead xs _ _ (λrest=>?_) ?_
      · rw[e];exact h _
      · have:=e []
        rw[List.append_nil,List.append_nil]at this
        rw[this];exact h _
    · rw[List.all_cons]
      have:=e []
      rw[List.append_nil,List.append_nil]at this
      have h2:okL ((if true=true then now ++ [10]else now) ++ x)=false:=by
        show(LX _ false).2=false
        rw[this];exact h _
      rw[h2];rfl
def OneL(l:List UInt8):Prop:=∃ts:List Tok,(∀t ∈ ts,t.kind ≠ 5)/\(LX l false).1=ts ++ endB (!ts.isEmpty)
theorem log_main:∀(xs:List (List UInt8)) (now:List UInt8) (op bg:Bool) (acc:List Tok),xs ≠ []->(∀x ∈ xs,noNl x/\hashS x=false)->
    (∀rest,LX ((if op then now ++ [10]else now) ++ rest) false=(acc ++ (LX rest bg).1,(LX rest bg).2))->(∀t ∈ acc,t.kind ≠ 5)->bg=!acc.isEmpty->(op=false->now=[])->
    ((logG xs now op bg).all okL=true->LX ((if op then now ++ [10]else now) ++ joinNl xs) false=((logG xs now op bg).flatMap λl=>(LX l false).1,true)/\∀l ∈ logG xs now op bg,OneL l)/\
    ((logG xs now op bg).all okL=false->(LX ((if op then now ++ [10]else now) ++ joinNl xs) false).2=false):=by
  intro xs
  induction xs with
  | nil=>intro now op bg acc h;exact absurd rfl h
  | cons x xs ih=>
    intro now op bg acc _ hx hacc hk hbg hop
    obtain⟨hn,hh⟩:=hx x (List.mem_cons_self ..)
    have hsp:=lnS_spec x.length x bg (Nat.le_refl _) hn
    obtain⟨P,hP⟩:∃P,P=(if op then now ++ [10]else now):=⟨_,rfl⟩
    rw[←hP]at hacc ⊢
    have hlog:logG (x :: xs) now op bg=if goesS x bg then logG xs (P ++ x) true (bg || begS x bg)else(P ++ x) :: logG xs [] false false:=by
      rw[hP]
      show(if (!op && hashS x)=true then _ else _)=_
      rw[hh,Bool.and_false,if_neg (by decide)]
    have one:∀{ts:List Tok} {b':Bool},(∀t ∈ ts,t.kind ≠ 5)->b'=(bg || !ts.isEmpty)->LX x bg=(ts ++ endB b',true)->OneL (P ++ x):=λ{ts b'} h1 h2 h3=>by
      refine⟨acc ++ ts,λt ht=>?_,?_⟩
      · rcases List.mem_append.1 ht with ht|ht
        · exact hk t ht
        · exact h1 t ht
      · rw[hacc,h3,List.append_assoc,h2,hbg]
        congr 3
        cases acc <;> cases ts <;> rfl
    cases xs with
    | nil=>
      have hL:logG [x] now op bg=[P ++ x]:=by
        rw[hlog]
        split <;> rfl
      rw[hL]
      have e:joinNl [x]=x:=rfl
      rw[e]
      refine⟨λh=>?_,λh=>?_⟩
      · have h:(LX (P ++ x) false).2=true:=by simpa[okL] using h
        refine⟨?_,λl hl=>?_⟩
        · show _=([P ++ x].flatMap _,true)
          rw[List.flatMap_cons,List.flatMap_nil,List.append_nil,←h]
        · obtain rfl:l=P ++ x:=by simpa using hl
          cases hls:lnS x bg with
          | none=>
            rw[hls]at hsp
            rw[hacc]at h
            rw[show(LX x bg).2=false from hsp.2]at h;cases h
          | some o=>
            obtain⟨ts,b',g⟩:=o
            rw[hls]at hsp
            exact one hsp.1 hsp.2.1 hsp.2.2.1
      · simpa[okL] using h
    | cons y ys=>
      have hj:joinNl (x :: y :: ys)=x ++ 10 :: joinNl (y :: ys):=rfl
      have hxs:∀z ∈ y :: ys,noNl z/\hashS z=false:=λz hz=>hx z (List.mem_cons_of_mem _ hz)
      rw[hj,hlog]
      cases hls:lnS x bg with
      | none=>
        rw[hls]at hsp
        have hdead:(if goesS x bg then logG (y :: ys) (P ++ x) true (bg || begS x bg)else(P ++ x) :: logG (y :: ys) [] false false).all okL=false:=by
          split
          · refine log_dead _ _ _ (λrest=>?_) ?_
            · rw[List.append_assoc,hacc];exact hsp.1 rest
            · rw[hacc];exact hsp.2
          · rw[List.all_cons]
            have:okL (P ++ x)=false:=by show(LX _ false).2=false;rw[hacc];exact hsp.2
            rw[this];rfl
        refine⟨λh=>?_,λ_=>?_⟩
        · rw[hdead]at h;cases h
        · rw[hacc];exact hsp.1 _
      | some o=>
        obtain⟨ts,b',g⟩:=o
        rw[hls]at hsp
        obtain⟨s1,s2,s3,s4⟩:=hsp
        obtain⟨g1,g2⟩:=goes_line hn hls
        rw[g1]
        cases g with
        | true=>
          rw[if_pos rfl,←g2 rfl]
          have:=ih (P ++ x) true b' (acc ++ ts) (by simp) hxs (λrest=>by
              rw[if_pos rfl]
              have e:P ++ x ++ [10] ++ rest=P ++ (x ++ 10 :: rest):=by simp
              rw[e,hacc,s4 rest,if_pos rfl,List.append_assoc]) (λt ht=>by
              rcases List.mem_append.1 ht with ht|ht
              · exact hk t ht
              · exact s1 t ht) (by rw[s2,hbg];cases acc <;> cases ts <;> rfl) (λh=>by cases h)
          rw[if_pos rfl]at this
          have e:P ++ x ++ [10] ++ joinNl (y :: ys)=P ++ (x ++ 10 :: joinNl (y :: ys)):=by simp
          rw[e]at this
          exact this
        | false=>
          rw[if_neg (by decide)]
          have:=ih [] false false [] (by simp) hxs (λrest=>by
              rw[if_neg (by decide),List.nil_append,List.nil_append]) (λt ht=>(by cases ht)) rfl (λ_=>rfl)
          rw[if_neg (by decide),List.nil_append]at this
          obtain⟨i1,i2⟩:=this
          have e1:LX (P ++ x) false=(acc ++ (ts ++ endB b'),true):=by rw[hacc,s3]
          have e2:LX (P ++ (x ++ 10 :: joinNl (y :: ys))) false=(acc ++ (ts ++ endB b' ++ (LX (joinNl (y :: ys)) false).1),(LX (joinNl (y :: ys)) false).2):=by rw[hacc,s4,if_neg (by decide)]
          have ok1:okL (P ++ x)=true:=by show(LX _ false).2=true;rw[e1]
          rw[List.all_cons,ok1,Bool.true_and]
          refine⟨λh=>?_,λh=>?_⟩
          · obtain⟨j1,j2⟩:=i1 h
            refine⟨?_,λl hl=>?_⟩
            · rw[e2,j1,List.flatMap_cons,e1];simp only[List.append_assoc]
            · rcases List.mem_cons.1 hl with rfl|hl
              · exact one s1 s2 s3
              · exact j2 l hl
          · rw[e2];exact i2 h
def linesS(d:List UInt8):List (List UInt8):=logG (splitNl d) [] false false
theorem lines_law{d:List UInt8}(h:∀x ∈ splitNl d,hashS x=false) :
    ((linesS d).all okL=true->LX d false=((linesS d).flatMap λl=>(LX l false).1,true)/\∀l ∈ linesS d,OneL l)/\((linesS d).all okL=false->(LX d false).2=false):=by
  obtain⟨h1,h2⟩:=split_join d
  have:=log_main (splitNl d) [] false false [] (split_ne d) (λx hx=>⟨h2 x hx,h x hx⟩) (λrest=>by
    rw[if_neg (by decide),List.nil_append,List.nil_append]) (λt ht=>(by cases ht)) rfl (λ_=>rfl)
  rw[if_neg (by decide),List.nil_append,h1]at this
  exact this
theorem log_len:∀(xs:List (List UInt8)) (now:List UInt8) (op bg:Bool) (n:Nat),(∀l ∈ xs,noNl l)->((if op then now ++ [10]else now) ++ joinNl xs).length<=n->(op=false->now=[])->∀l ∈ logG xs now op bg,l.length<=n:=by
  intro xs
  induction xs with
  | nil=>
    intro now op bg n _ h hop l hl
    unfold logG at hl
    cases op with
    | false=>cases hl
    | true=>
      obtain rfl:l=now:=by simpa using hl
      simp at h;omega
  | cons x xs ih=>
    intro now op bg n hn h hop l hl
    have hn2:∀l ∈ xs,noNl l:=λl hl=>hn l (List.mem_cons_of_mem _ hl)
    obtain⟨P,hP⟩:∃P,P=(if op then now ++ [10]else now):=⟨_,rfl⟩
    rw[←hP]at h
    unfold logG at hl
    rw[←hP]at hl
    have hjx:(P ++ x).length<=n/\(joinNl xs).length<=n/\(xs ≠ []->(P ++ x).length+1+(joinNl xs).length<=n):=by
      cases xs with
      | nil=>
        have h:(P ++ x).length<=n:=h
        exact⟨h,Nat.zero_le _,λh=>absurd rfl h⟩
      | cons y ys=>
        rw[joinNl_cons _ (by simp)]at h
        simp at h ⊢;omega
    split at hl
    · rename_i hc
      have hop2:op=false:=by
        cases op with
        | false=>rfl
        | true=>simp at hc
      have hnow:=hop hop2
      subst hop2
      subst hnow
      rcases List.mem_cons.1 hl with rfl|hl
      · have:=hjx.1;rw[List.length_append]at this;omega
      · exact ih [] false bg n hn2 (by simpa using hjx.2.1) (λ_=>rfl) l hl
    · split at hl
      · cases xs with
        | nil=>
          obtain rfl:l=P ++ x:=by simpa[logG] using hl
          exact hjx.1
        | cons y ys=>
          refine ih (P ++ x) true _ n hn2 ?_ (λh=>by cases h) l hl
          have:=hjx.2.2 (by simp)
          simp at this ⊢;omega
      · rcases List.mem_cons.1 hl with rfl|hl
        · exact hjx.1
        · exact ih [] false false n hn2 (by simpa using hjx.2.1) (λ_=>rfl) l hl
end Go.Sh.Pr

/- Pre: the text that is made of the tokens of a text without directives, as the statement asks for it. No condition. -/
set_option maxRecDepth 100000
set_option linter.unusedVariables false
set_option linter.unusedSimpArgs false
namespace Go.Sh.Pr
open Go.Sh Go.Sh.Lx
def endP(l:List Tok):Option Nat:=l.findIdx? λt=>decide (t.kind=5)
def tokP(d:List UInt8):Option (List Tok):=
  if (lexF d).2.2 ≠ 0 then none else match endP (Z (lexF d).1)with
    | none=>some []
    | some k=>if k+1=(Z (lexF d).1).length then some ((Z (lexF d).1).take k)else none
def wrtL(k:Int)(x:List UInt8):List UInt8:=
  if k=2 then(if x.contains 34 then 39 :: (x ++ [39])else 34 :: (x ++ [34]))
  else if k=3 then(if x=[]then [123,125]else [123,94] ++ x.take 4 ++ [45] ++ (x.drop 4).take 2 ++ [45] ++ x.drop 6 ++ [125])
  else x
def wrtP(t:Tok):List UInt8:=wrtL t.kind t.text.data.toList
def joinP:List Tok->List UInt8
  | []=>[]
  | t :: l=>wrtP t ++ l.flatMap λu=>32 :: wrtP u
def lineT(ts:List Tok):List UInt8:=if ts=[]then []else joinP ts ++ [10]
def expG:List (List UInt8)->List UInt8->List UInt8 × Int
  | [],out=>(out,0)
  | l :: ls,out=>match tokP l with
    | none=>(out,2)
    | some ts=>expG ls (out ++ lineT ts)
def expS(d:List UInt8):List UInt8 × Int:=
  if 4000<d.length then([],3)else if (expG (linesS d) []).2 ≠ 0 then([],(expG (linesS d) []).2)
  else if 4000<(expG (linesS d) []).1.length then([],3)else((expG (linesS d) []).1,0)
def dateOk(t:Tok):Prop:=t.kind=3->t.text.size=0∨t.text.size=8
theorem findIdx_app{a:List Tok}(h:∀t ∈ a,t.kind ≠ 5)(b:List Tok):endP (a ++ b)=(endP b).map (a.length + ·):=by
  unfold endP
  induction a with
  | nil=>
    rw[List.nil_append]
    cases b.findIdx? (λt=>decide (t.kind=5))with
    | none=>rfl
    | some k=>simp
  | cons t a ih=>
    rw[List.cons_append,List.findIdx?_cons,if_neg (by simpa using h t (List.mem_cons_self ..)),ih λu hu=>h u (List.mem_cons_of_mem _ hu)]
    cases b.findIdx? _ with
    | none=>rfl
    | some k=>simp;omega
theorem lexF_at {d:List UInt8} (h:(lexF d).2.2=0):d.length<=4000/\lexS d 0 false=((lexF d).1,none)/\(lexF d).1.length<=1200:=by
  unfold lexF at h ⊢
  split at h
  · cases h
  · rename_i h1
    rw[if_neg h1]
    cases hs:(lexS d 0 false).2 with
    | some i=>rw[hs]at h;cases h
    | none=>
      rw[hs]at h
      dsimp only at h ⊢
      split at h
      · cases h
      · rename_i h2
        rw[if_neg h2]
        exact⟨by omega,by rw[←hs],by show(lexS d 0 false).1.length<=1200;omega⟩
theorem lexF_in {d:List UInt8} (h1:d.length<=4000) (h2:(lexS d 0 false).2=none) (h3:(lexS d 0 false).1.length<=1200):(lexF d).2.2=0/\(lexF d).1=(lexS d 0 false).1:=by
  unfold lexF
  rw[if_neg (by omega),h2]
  dsimp only
  rw[if_neg (by omega)]
  exact⟨rfl,rfl⟩
theorem tokP_bad{d:List UInt8}(h:okL d=false):tokP d=none:=by
  unfold tokP
  rw[if_pos]
  intro h0
  obtain⟨_,h2,_⟩:=lexF_at h0
  unfold okL LX at h
  rw[h2]at h;cases h
theorem tokP_line {d:List UInt8} {ts:List Tok} (h1:d.length<=4000) (hok:okL d=true) (hk:∀t ∈ ts,t.kind ≠ 5) (hts:(LX d false).1=ts ++ endB (!ts.isEmpty)) (hl:(LX d false).1.length<=1200):tokP d=some ts:=by
  have h2:(lexS d 0 false).2=none:=by unfold okL LX at hok;simpa using hok
  have hz:Z (lexS d 0 false).1=ts ++ endB (!ts.isEmpty):=hts
  have h3:(lexS d 0 false).1.length<=1200:=by
    have:(Z (lexS d 0 false).1).length<=1200:=hl
    rwa [show(Z (lexS d 0 false).1).length=(lexS d 0 false).1.length from List.length_map _]at this
  obtain⟨e1,e2⟩:=lexF_in h1 h2 h3
  unfold tokP
  rw[if_neg (by rw[e1];simp),e2,hz,findIdx_app hk]
  cases ts with
  | nil=>rfl
  | cons t ts=>
    have:endP (endB !(t :: ts).isEmpty)=some 0:=rfl
    rw[this]
    dsimp only[Option.map]
    have hlen:(t :: ts ++ endB !(t :: ts).isEmpty).length=(t :: ts).length+1:=by rw[List.length_append];rfl
    rw[if_pos (by rw[hlen]),Nat.add_zero,List.take_left]
theorem lexS_dates:∀(n:Nat) (d:List UInt8) (p:Nat) (b:Bool),d.length<=n->∀t ∈ (lexS d p b).1,dateOk t:=by
  have hend:∀(p:Nat) (b:Bool),∀t ∈ (if b then [endT p]else []),dateOk t:=by
    intro p b t ht
    cases b with
    | false=>cases ht
    | true=>
        obtain rfl:t=endT p:=by simpa using ht
        intro h;cases h
  intro n
  induction n with
  | zero=>
    intro d p b h
    obtain rfl:d=[]:=List.eq_nil_of_length_eq_zero (by omega)
    rw[lexS_nil];exact hend p b
  | succ n ih=>
    intro d p b h
    cases d with
    | nil=>rw[lexS_nil];exact hend p b
    | cons x r=>
      have hr:r.length<=n:=by simpa using h
      have hd:∀m,(r.drop m).length<=n:=λm=>by rw[List.length_drop];omega
      cases hs:stepS x r b with
      | go m=>rw[lexS_go hs];exact ih _ _ _ (hd m)
      | eol=>
        rw[lexS_eol hs]
        intro t ht
        rcases List.mem_append.1 ht with ht|ht
        · exact hend p b t ht
        · exact ih _ _ _ hr t ht
      | tok k t m=>
        rw[lexS_tok hs]
        intro u hu
        rcases List.mem_cons.1 hu with rfl|hu
        · intro hk
          have hk:k=3:=hk
          subst hk
          show(bs t).size=0∨(bs t).size=8
          rw[bs_size]
          unfold stepS at hs
          split at hs
          · cases hs
          split at hs
          · cases hs
          split at hs
          · split at hs <;> cases hs
          split at hs
          · split at hs <;> cases hs
          unfold tokS at hs
          split at hs
          · dsimp only at hs;split at hs <;> simp at hs
          split at hs
          · dsimp only at hs;split at hs <;> simp at hs
          split at hs
          · unfold quoteS at hs;dsimp only at hs
            split at hs
            · split at hs <;> simp at hs
            · simp at hs
          split at hs
          · rename_i d n hd
            obtain⟨rfl,_⟩:d=t/\_:=by simpa using hs
            unfold dateL at hd
            split at hd
            · obtain⟨rfl,_⟩:[]=d/\_:=by simpa using hd
              exact .inl rfl
            · split at hd
              · cases hd
              · rename_i h9
                split at hd
                · obtain⟨rfl,_⟩:datesD (x :: r)=d/\_:=by simpa using hd
                  right
                  unfold datesD
                  simp only[List.length_append,List.length_take,List.length_drop]
                  have:13<=(x :: r).length:=by omega
                  omega
                · cases hd
          · split at hs <;> simp at hs
        · exact ih _ _ _ (hd m) u hu
      | bad i=>rw[lexS_bad hs];intro t ht;cases ht
end Go.Sh.Pr

/- Lex: the scanner, its classes of bytes, and how it goes over blanks and comments. No condition but those stated. -/
set_option maxRecDepth 100000
set_option linter.unusedVariables false
set_option linter.unusedSimpArgs false
namespace Go.Proofs.YtjbfehippchniaaGreatDoor
open Go.Sh Go.Sh.Lx Go.RowKit
theorem bs_size_i(l:List UInt8):(((bs l).size:Nat):Int)=(l.length:Int):=by rw[bs_size]
theorem toNat_i(n:Nat):((n:Int)).toNat=n:=Int.toNat_natCast n
theorem extract_drop(d:List UInt8)(p:Nat):(bs d).extract p (bs d).size=bs (d.drop p):=by
  apply bytes_ext
  rw[extract_list,bs_list,bs_list,bs_size,List.take_length]
theorem extract_take(d:List UInt8)(p q:Nat):(bs d).extract p q=bs ((d.take q).drop p):=by
  apply bytes_ext
  rw[extract_list,bs_list,bs_list]
theorem bs_get {d:List UInt8} {k:Nat} {b:UInt8} (h:d[k]?=some b):(bs d)[k]?=some b:=byte_list (by rw[bs_list];exact h)
theorem bs_inj{a b:List UInt8}:bs a=bs b ↔ a=b:=⟨λh=>by rw[←bs_list a,h,bs_list],λh=>by rw[h]⟩
theorem bs_beq(a b:List UInt8):((bs a).toList == (bs b).toList)=decide (a=b):=by
  rw[toList_beq];exact dec_eq bs_inj
theorem stHasPrefix_c(s p:List UInt8)(w:World):Calls Tryz.prog 74 #[.string (bs s),.string (bs p)] w λe w'=>e=.returned (.bool (decide (s.take p.length=p)))/\w'=w:=by
  refine F74_calls _ _ w _ (Br.of (λh=>?_) (λh=>⟨?_,rfl⟩))
  · have h:=dtrue h
    rw[bs_size_i,bs_size_i]at h
    refine⟨by omega,by rw[bs_size,toNat_i,bs_size];omega,by omega,?_,rfl⟩
    rw[toNat_i,bs_size,extract_take,bs_beq,List.drop_zero]
  · have h:=dfalse h
    rw[bs_size_i,bs_size_i]at h
    congr 2
    have:¬s.take p.length=p:=λe=>by
      have:=congrArg List.length e
      rw[List.length_take]at this;omega
    simp[this]
theorem hasPrefix_c(s p:List UInt8)(w:World):Calls Tryz.prog 41 #[.string (bs s),.string (bs p)] w λe w'=>e=.returned (.bool (decide (s.take p.length=p)))/\w'=w:=by
  refine F41_calls _ _ w _ ((stHasPrefix_c s p w).mono ?_)
  rintro e w' ⟨rfl,rfl⟩
  exact⟨_,rfl,rfl,rfl⟩
theorem indexByte_run(s:ByteArray)(n:Int)(w:World):(callFunc 156 #[.string s,.int .u8 n]).run Tryz.prog w=.ok (.value (.int .i64 (Lib.indexByte s.data.toList n.toNat.toUInt8))) w:=by
  rw[run_callFunc_extern Tryz.func156 (by kernel_rfl) (by kernel_rfl) (by kernel_rfl) (e:=Extern.BytealgIndexByte.indexByte) (by kernel_rfl),Lib.run_indexByteString]
  rfl
theorem indexByte_c(l:List UInt8)(n:Int)(w:World):Calls Tryz.prog 112 #[.string (bs l),.int .u8 n] w λe w'=>e=.returned (.int .i64 (Lib.indexByte l n.toNat.toUInt8))/\w'=w:=by
  refine F112_calls _ _ w _ ((F131_calls _ _ w _ ⟨_,w,indexByte_run _ n w,?_⟩:Calls Tryz.prog 131 _ w λe w'=>e=.returned (.int .i64 (Lib.indexByte l n.toNat.toUInt8))/\w'=w).mono ?_)
  · rw[bs_list];exact⟨rfl,rfl⟩
  · rintro e w' ⟨rfl,rfl⟩
    exact⟨_,rfl,rfl,rfl⟩
theorem indexByte_tw(c:UInt8):∀l:List UInt8,Lib.indexByte l c=if (l.takeWhile λb=>!decide (b=c)).length<l.length then((l.takeWhile λb=>!decide (b=c)).length:Int)else -1
  | []=>rfl
  | b :: l=>by
    have ih:=indexByte_tw c l
    unfold Lib.indexByte
    by_cases h:b=c
    · subst h;simp
    · have e:(b == c)=false:=by simpa using h
      rw[e,ih]
      simp only[h,decide_false,Bool.not_false,List.takeWhile_cons,if_true,List.length_cons,Bool.false_eq_true,if_false,Nat.add_lt_add_iff_right]
      split
      · rename_i h2
        have:((((l.takeWhile λb=>!decide (b=c)).length:Int)) == -1)=false:=by
          rw[beq_eq_false_iff_ne];omega
        simp only[this,Bool.false_eq_true,if_false];omega
      · rfl
def clsN(k:Nat):Nat:=if k=9∨k=32 then 3 else if k=95∨(97<=k/\k<=122)∨(65<=k/\k<=90)then 1 else if 48<=k/\k<=57 then 2 else if k ≠ 10/\(k<32∨126<k)then 4 else 0
theorem cls_all:∀k:Nat,k<256->(decide (clsN k=3)=blkB (UInt8.ofNat k)/\decide (clsN k=1)=letB (UInt8.ofNat k)/\decide (clsN k=2)=digB (UInt8.ofNat k)/\decide (clsN k=4)=!isB (UInt8.ofNat k)):=by decide +kernel
theorem cls_b(b:UInt8):decide (clsN b.toNat=3)=blkB b/\decide (clsN b.toNat=1)=letB b/\decide (clsN b.toNat=2)=digB b/\decide (clsN b.toNat=4)=!isB b:=by
  have:=cls_all b.toNat b.toNat_lt
  rwa [UInt8.ofNat_toNat]at this
def clsV(k:Nat):Value:=.int .u8 (clsN k:Nat)
theorem zc43:zc Tryz.prog 149=arrF 256 λ_=>.int .u8 0:=by kernel_rfl
theorem s43:sizeB Tryz.prog 149=256:=by kernel_rfl
theorem arrF_oneC {n:Nat} {f:Nat->Value} (h:∀i,oneC (f i)=true):(arrF n f).toList.all oneC=true:=by
  simp[arrF,List.all_eq_true,h]
theorem u8_wrap{k:Nat}(h:k<256):IntKind.u8.wrap (k:Int)=(k:Int):=by rw[IntKind.wrap_u8];omega
theorem classes_c(w:World):Calls Tryz.prog 119 #[] w λe w'=>e=.returned (.agg (arrF 256 clsV))/\Pu w w':=by
  refine F119_calls w _ ?_
  unfold F119_14
  rw[zc43]
  refine alB λw1 hp1 hb1=>alB λw2 hp2 hb2=>?_
  have h01:=blk_lt hb1
  have hb1:=hp2.blk hb1
  obtain⟨r1,hr1⟩:∃r,r=w1.heap.size:=⟨_,rfl⟩
  rw[←hr1]at hb2 ⊢
  refine loopUp 256 (λk t w'=>t=(k:Int)/\Pu w w'/\w'.heap[w.heap.size]?=some (.cells (arrF 256 λ_=>.int .u8 0) 149)/\w'.heap[r1]?=some (.cells (arrF 256 λi=>if i<k then clsV i else .int .u8 0) 149))
    ⟨rfl,hp1.trans hp2,hb1,by rw[hb2];rfl⟩ ?_
  rintro k J t w3 hk ⟨rfl,hp3,hz,hc⟩ hJ
  refine Br.of (λh=>?_) (λh=>?_)
  · have hk2:k<256:=by have:=dtrue h;omega
    show F119_7 _ _ _ _ (k:Int) (IntKind.u8.wrap (k:Int)) (k:Int) [] w3
    rw[u8_wrap hk2]
    have nxt:∀{w4:World},Pu w w4->w4.heap[w.heap.size]?=some (.cells (arrF 256 λ_=>.int .u8 0) 149)->w4.heap[r1]?=some (.cells (arrF 256 λi=>if i<k+1 then clsV i else .int .u8 0) 149)->
        F119_2 (λe w'=>e=.returned (.agg (arrF 256 clsV))/\Pu w w') J (some ⟨w.heap.size,0,none⟩) (some ⟨r1,0,none⟩) (k:Int) [] w4:=λ{w4} h1 h2 h3=>by
      unfold F119_2
      rw[wrap_in (by omega) (by omega)]
      exact hJ _ _ hk2 ⟨by omega,h1,h2,h3⟩
    have set:∀n:Nat,clsN k=n->∀a:Addr,a=⟨r1,0,none⟩->0<=(k:Int)/\(k:Int)<((256:Nat):Int)/\st1 (a.add ((k:Int).toNat * 1)) (.int .u8 (n:Int)) w3 λw7=>
        F119_2 (λe w'=>e=.returned (.agg (arrF 256 clsV))/\Pu w w') J (some ⟨w.heap.size,0,none⟩) (some ⟨r1,0,none⟩) (k:Int) [] w7:=λn hn a ha=>by
      subst ha
      refine⟨by omega,by omega,?_⟩
      rw[add_def,toNat_i]
      refine st1_intro hc (by rw[arrF_size];omega) λw4 hw4 hb4=>nxt ?_ ?_ ?_
      · rw[hw4];exact Pu.andNew hp3 (Fr.setCell w3 _ _) (λi hi=>by rw[show i=r1 from hi];omega)
      · rw[hw4,setCell_other (by show w.heap.size ≠ r1;omega)];exact hz
      · rw[hb4,arrF_set]
        congr 2
        apply arrF_congr
        intro i hi
        by_cases e:i=0+k * 1
        · rw[if_pos e,if_pos (by omega)]
          have:i=k:=by omega
          subst this
          unfold clsV;rw[hn]
        · rw[if_neg e]
          by_cases h9:i<k
          · rw[if_pos h9,if_pos (by omega)]
          · rw[if_neg h9,if_neg (by omega)]
    have none0:clsN k=0->F119_2 (λe w'=>e=.returned (.agg (arrF 256 clsV))/\Pu w w') J (some ⟨w.heap.size,0,none⟩) (some ⟨r1,0,none⟩) (k:Int) [] w3:=λhn=>nxt hp3 hz (by
      rw[hc]
      congr 2
      apply arrF_congr
      intro i hi
      by_cases h9:i<k
      · rw[if_pos h9,if_pos (by omega)]
      · rw[if_neg h9]
        by_cases e:i<k+1
        · rw[if_pos e]
          have:i=k:=by omega
          subst this
          unfold clsV;rw[hn];rfl
        · rw[if_neg e])
    have c3:(k=9∨k=32)->clsN k=3:=λh=>by unfold clsN;rw[if_pos h]
    have c1:¬(k=9∨k=32)->(k=95∨(97<=k/\k<=122)∨(65<=k/\k<=90))->clsN k=1:=λh h2=>by unfold clsN;rw[if_neg h,if_pos h2]
    have c2:48<=k->k<=57->clsN k=2:=λh h2=>by unfold clsN;rw[if_neg (by omega),if_neg (by omega),if_pos ⟨h,h2⟩]
    have c4:¬(k=9∨k=32)->k ≠ 10->(k<32∨126<k)->clsN k=4:=λh h2 h3=>by unfold clsN;rw[if_neg h,if_neg (by omega),if_neg (by omega),if_pos ⟨h2,h3⟩]
    have c0:¬(k=9∨k=32)->¬(k=95∨(97<=k/\k<=122)∨(65<=k/\k<=90))->¬(48<=k/\k<=57)->¬(k ≠ 10/\(k<32∨126<k))->clsN k=0:=λh h2 h3 h4=>by unfold clsN;rw[if_neg h,if_neg h2,if_neg h3,if_neg h4]
    have blk:(k=9∨k=32)->F119_3 (λe w'=>e=.returned (.agg (arrF 256 clsV))/\Pu w w') J (some ⟨w.heap.size,0,none⟩) (some ⟨r1,0,none⟩) (k:Int) (k:Int) [] w3:=λh=>set 3 (c3 h) _ rfl
    have four:¬(k=9∨k=32)->∀b:Bool,b=decide (k=95∨(97<=k/\k<=122)∨(65<=k/\k<=90))->F119_4 (λe w'=>e=.returned (.agg (arrF 256 clsV))/\Pu w w') J (some ⟨w.heap.size,0,none⟩) (some ⟨r1,0,none⟩) (k:Int) (k:Int) (k:Int) b [] w3:=λhn b hb=>by
      subst hb
      refine Br.of (λh=>set 1 (c1 hn (dtrue h)) _ rfl) (λh=>?_)
      have h:=dfalse h
      have rest:¬(48<=k/\k<=57)->Br ((k:Int) != 10) (Br (decide ((k:Int)<32)) _ (Br (decide ((k:Int) > 126)) _ _)) _:=λh9=>
        Br.of (λd=>Br.of (λd2=>set 4 (c4 hn (by have:=bntrue d;omega) (.inl (by have:=dtrue d2;omega))) _ rfl) (λd2=>Br.of (λd3=>set 4 (c4 hn (by have:=bntrue d;omega) (.inr (by have:=dtrue d3;omega))) _ rfl)
          (λd3=>none0 (c0 hn h h9 (by have:=dfalse d2;have:=dfalse d3;omega))))) (λd=>none0 (c0 hn h h9 (by have:=bnfalse d;omega)))
      exact Br.of (λd=>Br.of (λd2=>set 2 (c2 (by have:=dtrue d;omega) (by have:=dtrue d2;omega)) _ rfl) (λd2=>rest (by have:=dfalse d2;omega))) (λd=>rest (by have:=dfalse d;omega))
    have five:¬(k=9∨k=32)->F119_5 (λe w'=>e=.returned (.agg (arrF 256 clsV))/\Pu w w') J (some ⟨w.heap.size,0,none⟩) (some ⟨r1,0,none⟩) (k:Int) (k:Int) (k:Int) [] w3:=λhn=>by
      refine Br.of (λd=>four hn _ ?_) (λd=>Br.of (λd1=>Br.of (λd2=>four hn _ ?_) (λd2=>Br.of (λd3=>four hn _ ?_) (λd3=>four hn _ ?_))) (λd1=>Br.of (λd3=>four hn _ ?_) (λd3=>four hn _ ?_)))
      · have:=btrue d;symm;simp;omega
      · have:=dtrue d1;have:=dtrue d2;symm;simp;omega
      · have:=dtrue d3;have:=dfalse d2;have:=bfalse d;exact dec_eq (by omega)
      · have:=dfalse d3;have:=dfalse d2;have:=bfalse d;symm;simp;omega
      · have:=dtrue d3;have:=dfalse d1;have:=bfalse d;exact dec_eq (by omega)
      · have:=dfalse d3;have:=dfalse d1;have:=bfalse d;symm;simp;omega
    refine Br.of (λd=>blk (.inl (by have:=btrue d;omega))) (λd=>Br.of (λd2=>blk (.inr (by have:=btrue d2;omega))) (λd2=>five (by have:=bfalse d;have:=bfalse d2;omega)))
  · have hk2:k=256:=by have:=dfalse h;omega
    subst hk2
    have hall:(arrF 256 λi=>if i<256 then clsV i else .int .u8 0)=arrF 256 clsV:=arrF_congr λi hi=>by rw[if_pos hi]
    rw[hall]at hc
    refine⟨arrF 256 clsV,arrF_size _ _,λi hi=>by rw[cl hc],stA_fill hz (by rw[arrF_size,s43]) (by rw[arrF_size,arrF_size]) (arrF_oneC λi=>rfl) λw5 hb5 hf5 _=>⟨arrF 256 clsV,arrF_size _ _,λi hi=>by rw[cl hb5],rfl,?_⟩⟩
    exact Pu.andNew hp3 hf5 (λi hi=>by rw[show i=w.heap.size from hi];exact Nat.le_refl _)
end Go.Proofs.YtjbfehippchniaaGreatDoor
