import Derived.Test.YtaeecpjhfmcliaaGreatDoorLgOwA
import Derived.Test.YtaeecpjhfmcliaaGreatDoorLgPrA
import Derived.Test.YtaeecpjhfmcliaaGreatDoorShSixteen
import Derived.Lib.BufferWrite
import Derived.Lib.AppendStr
/- Table: rows of fields: which are right, and how wide they are. No condition. -/
set_option maxRecDepth 100000
set_option linter.unusedVariables false
set_option linter.unusedSimpArgs false
namespace Go.Proofs.YtaeecpjhfmcliaaGreatDoor
open Go.Sh Go.RowKit Tryz
theorem zJW{α:Type}[DecidableEq α]{l:List α}{x:α}:(l ++ [x]).Nodup ↔ l.Nodup/\x ∉ l:=by
 rw[List.nodup_append]
 constructor
 ·rintro⟨h1,_,h3⟩;exact⟨h1,λhx=>h3 x hx x (by simp) rfl⟩
 ·rintro⟨h1,h2⟩;exact⟨h1,by simp,λa ha b hb e=>by simp at hb;subst hb;subst e;exact h2 ha⟩
theorem zVn(l:List Fld):(zXd l:Int)<=l.length+1:=by
 unfold zXd
 have:=List.length_filter_le (·.null) l
 omega
theorem yKk {l:List Fld} {k:Nat} {f:Fld} (h:l[k]?=some f):((l.take (k+1)).filter (·.null)).length=((l.take k).filter (·.null)).length+(if f.null then 1 else 0):=by
 rw[zQ8 h,List.filter_append,List.length_append]
 cases hx:f.null <;> simp[hx]
theorem zK1 {l:List Fld} {k:Nat} {f:Fld} (h:l[k]?=some f):((l.take (k+1)).filter (·.null)).length=if f.null then((l.take k).filter (·.null)).length+1 else((l.take k).filter (·.null)).length:=by
 rw[yKk h];cases f.null <;> rfl
theorem zK8{w:World}{s:SV}{l:List Fld}(h:zXF w s l):Calls prog 203 #[.slice s.a s.len s.cap] w λe w'=>e=.returned (.int .i64 (zXd l:Nat))/\Pu w w':=by
 refine yKR _ w _ ?_
 have hlen:=h.len
 have hlim:=h.lim
 refine zQ0 l.length (λk t w'=>t.2=(k:Int)/\t.1=(((l.take k).filter (·.null)).length:Nat)/\Pu w w') ⟨rfl,rfl,Pu.refl _⟩ ?_
 rintro k J ⟨t1,t2⟩ w2 hk ⟨rM,nj,hp⟩ hJ
 obtain rfl:t2=(k:Int):=rM
 obtain rfl:t1=(((l.take k).filter (·.null)).length:Nat):=nj
 have hle:=List.length_filter_le (·.null) (l.take k)
 have rN:=List.length_take_le k l
 dsimp only
 refine Br.of (λd=>?_) (λd=>?_)
 ·have aG:k<l.length:=by have:=zQk d;omega
  obtain⟨f,hf⟩:=zQZ aG
  obtain⟨a,ha,hi,_,_,_,c0,c1,c2,c3⟩:=zJw (h.pu hp) hf
  refine⟨a,ha,by omega,by omega,_,c0,_,c1,_,c2,_,c3,zYt rfl s23.symm rfl λw4 aJ sK cA=>⟨_,cl cA 3,?_⟩⟩
  have e:=zK1 hf
  rw[zQa (n:=(k:Int)+1) (by omega) (by omega)]
  refine Br.of (λd1=>hJ _ _ aG ⟨by dsimp only;omega,?_,hp.trans aJ⟩) (λd1=>hJ _ _ aG ⟨by dsimp only;omega,?_,hp.trans aJ⟩)
  ·rw[if_pos d1]at e;dsimp only;rw[e,zQa (by omega) (by omega)];omega
  ·rw[if_neg (by rw[d1];simp)]at e;dsimp only;rw[e]
 ·have aG:k=l.length:=by have:=zQd d;omega
  subst aG
  rw[List.take_length]at *
  refine⟨rfl,by omega,?_,hp⟩
  rw[zQa (n:=((l.filter (·.null)).length:Int)+7) (by omega) (by omega),Int.tdiv_eq_ediv_of_nonneg (by omega),zQa (by omega) (by omega)]
  unfold zXd;congr 2
theorem xX2{w:World}{s:SV}{l:List Fld}(h:zXF w s l):Calls prog 131 #[.slice s.a s.len s.cap] w λe w'=>e=.returned (.int .i64 (zXd l:Nat))/\Pu w w':=by
 refine yJV _ w _ ?_
 have hlen:=h.len
 have hlim:=h.lim
 refine zQ0 l.length (λk t w'=>t.2=(k:Int)/\t.1=(((l.take k).filter (·.null)).length:Nat)/\Pu w w') ⟨rfl,rfl,Pu.refl _⟩ ?_
 rintro k J ⟨t1,t2⟩ w2 hk ⟨rM,nj,hp⟩ hJ
 obtain rfl:t2=(k:Int):=rM
 obtain rfl:t1=(((l.take k).filter (·.null)).length:Nat):=nj
 have hle:=List.length_filter_le (·.null) (l.take k)
 have rN:=List.length_take_le k l
 dsimp only
 refine Br.of (λd=>?_) (λd=>?_)
 ·have aG:k<l.length:=by have:=zQk d;omega
  obtain⟨f,hf⟩:=zQZ aG
  obtain⟨a,ha,hi,_,_,_,c0,c1,c2,c3⟩:=zJw (h.pu hp) hf
  refine⟨a,ha,by omega,by omega,_,c3,?_⟩
  have e:=zK1 hf
  rw[zQa (n:=(k:Int)+1) (by omega) (by omega)]
  refine Br.of (λd1=>hJ _ _ aG ⟨by dsimp only;omega,?_,hp⟩) (λd1=>hJ _ _ aG ⟨by dsimp only;omega,?_,hp⟩)
  ·rw[if_pos d1]at e;dsimp only;rw[e,zQa (by omega) (by omega)];omega
  ·rw[if_neg (by rw[d1];simp)]at e;dsimp only;rw[e]
 ·have aG:k=l.length:=by have:=zQd d;omega
  subst aG
  rw[List.take_length]at *
  refine⟨rfl,by omega,?_,hp⟩
  rw[zQa (n:=((l.filter (·.null)).length:Int)+7) (by omega) (by omega),Int.tdiv_eq_ediv_of_nonneg (by omega),zQa (by omega) (by omega)]
  unfold zXd;congr 2
def WOk(l:List Fld):Prop:=∀f ∈ l,0<=f.width/\f.width<=254
theorem zXh{f:Fld}(h:zQn f=true):1<=f.width/\f.width<=254:=by
 unfold zQn zKY at h
 simp only[Bool.and_eq_true]at h
 have h:=h.2
 split at h
 ·simp at h;omega
 ·split at h
  ·simp at h;omega
  ·split at h
   ·simp at h;omega
   ·split at h
    ·simp at h;omega
    ·split at h
     ·simp at h;omega
     ·simp at h
theorem WOk.of{l:List Fld}(h:l.all zQn=true):WOk l:=λf hf=>by have:=zXh (List.all_eq_true.1 h f hf);omega
theorem zKR {l:List Fld} {k:Nat} {f:Fld} (h:l[k]?=some f):((l.take (k+1)).map (·.width)).sum=((l.take k).map (·.width)).sum+f.width:=by
 rw[zQ8 h,List.map_append,List.sum_append];simp
theorem zZD{l:List Fld}(h:WOk l):0<=(l.map (·.width)).sum/\(l.map (·.width)).sum<=254 * l.length:=by
 induction l with
 | nil=>simp
 | cons f l ih=>
  have h1:=h f (by simp)
  have h2:=ih λg hg=>h g (by simp[hg])
  simp only[List.map_cons,List.sum_cons,List.length_cons];omega
theorem WOk.take{l:List Fld}(h:WOk l)(k:Nat):WOk (l.take k):=λf hf=>h f (List.mem_of_mem_take hf)
theorem zVo{w:World}{s:SV}{l:List Fld}(h:zXF w s l)(hw:WOk l):Calls prog 161 #[.slice s.a s.len s.cap] w λe w'=>e=.returned (.int .i64 (zX0 l))/\Pu w w':=by
 refine yWa _ w _ ((zK8 h).mono ?_)
 rintro e w1 ⟨rfl,ax⟩
 have hlen:=h.len
 have hlim:=h.lim
 have hn:=zVn l
 refine⟨_,rfl,?_⟩
 rw[zQa (by omega) (by omega)]
 refine zQ0 l.length (λk t w'=>t.2=(k:Int)/\t.1=1+((zXd l:Nat):Int)+((l.take k).map (·.width)).sum/\Pu w w') ⟨rfl,by simp,ax⟩ ?_
 rintro k J ⟨t1,t2⟩ w2 hk ⟨rM,nj,hp⟩ hJ
 obtain rfl:t2=(k:Int):=rM
 obtain rfl:t1=1+((zXd l:Nat):Int)+((l.take k).map (·.width)).sum:=nj
 have hs:=zZD (hw.take k)
 have rN:=List.length_take_le k l
 dsimp only
 refine Br.of (λd=>?_) (λd=>?_)
 ·have aG:k<l.length:=by have:=zQk d;omega
  obtain⟨f,hf⟩:=zQZ aG
  have hwf:=hw f (List.mem_of_getElem? hf)
  obtain⟨a,ha,hi,_,_,_,c0,c1,c2,c3⟩:=zJw (h.pu hp) hf
  refine⟨a,ha,by omega,by omega,_,c0,_,c1,_,c2,_,c3,zYt rfl s23.symm rfl λw4 aJ sK cA=>⟨_,cl cA 2,?_⟩⟩
  rw[zQa (n:=(k:Int)+1) (by omega) (by omega),zQa (by omega) (by omega)]
  refine hJ _ _ aG ⟨by dsimp only;omega,?_,hp.trans aJ⟩
  dsimp only;rw[zKR hf];omega
 ·have aG:k=l.length:=by have:=zQd d;omega
  subst aG
  rw[List.take_length]
  exact⟨rfl,hp⟩
theorem xWF{w:World}{s:SV}{l:List Fld}(h:zXF w s l)(hw:WOk l):Calls prog 92 #[.slice s.a s.len s.cap] w λe w'=>e=.returned (.int .i64 (zX0 l))/\Pu w w':=by
 refine yVp _ w _ ((xX2 h).mono ?_)
 rintro e w1 ⟨rfl,ax⟩
 have hlen:=h.len
 have hlim:=h.lim
 have hn:=zVn l
 refine⟨_,rfl,?_⟩
 rw[zQa (by omega) (by omega)]
 refine zQ0 l.length (λk t w'=>t.2=(k:Int)/\t.1=1+((zXd l:Nat):Int)+((l.take k).map (·.width)).sum/\Pu w w') ⟨rfl,by simp,ax⟩ ?_
 rintro k J ⟨t1,t2⟩ w2 hk ⟨rM,nj,hp⟩ hJ
 obtain rfl:t2=(k:Int):=rM
 obtain rfl:t1=1+((zXd l:Nat):Int)+((l.take k).map (·.width)).sum:=nj
 have hs:=zZD (hw.take k)
 have rN:=List.length_take_le k l
 dsimp only
 refine Br.of (λd=>?_) (λd=>?_)
 ·have aG:k<l.length:=by have:=zQk d;omega
  obtain⟨f,hf⟩:=zQZ aG
  have hwf:=hw f (List.mem_of_getElem? hf)
  obtain⟨a,ha,hi,_,_,_,c0,c1,c2,c3⟩:=zJw (h.pu hp) hf
  refine⟨a,ha,by omega,by omega,_,c2,?_⟩
  rw[zQa (n:=(k:Int)+1) (by omega) (by omega),zQa (by omega) (by omega)]
  refine hJ _ _ aG ⟨by dsimp only;omega,?_,hp⟩
  dsimp only;rw[zKR hf];omega
 ·have aG:k=l.length:=by have:=zQd d;omega
  subst aG
  rw[List.take_length]
  exact⟨rfl,hp⟩
def yJs(l:List Fld)(g:Nat)(cap:Array Value)(p:Fld->Bool)(w0:World):Prop:=zQv prog g=true/\∀f ∈ l,∀w,Pu w0 w->Calls prog g (#[yQ9 f] ++ cap) w λe w'=>e=.returned (.bool (p f))/\Pu w w'
theorem yQW {p:Fld->Bool} {l:List Fld} {k:Nat} (h:∀f ∈ l.take k,p f=false) {f:Fld} (hf:l[k]?=some f) (hp:p f=true):l.findIdx? p=some k:=by
 have hk:k<l.length:=(List.getElem?_eq_some_iff.1 hf).1
 rw[List.findIdx?_eq_some_iff_getElem]
 refine⟨hk,?_,λj hj=>?_⟩
 ·rw[List.getElem?_eq_getElem hk]at hf;rw[Option.some.inj hf];exact hp
 ·have:=h l[j] (by rw[List.mem_take_iff_getElem];exact⟨j,by omega,rfl⟩)
  simpa using this
theorem zV8{w:World}{s:SV}{l:List Fld}(h:zXF w s l){g:Nat}{cap:Array Value}{p:Fld->Bool}(hg:yJs l g cap p w):Calls prog 113 #[.slice s.a s.len s.cap,.func (.func g) #[] cap] w
  λe w'=>e=.returned (.int .i64 (match l.findIdx? p with|some k=>(k:Int)|none=>-1))/\Pu w w':=by
 refine yKt _ _ w _ ?_
 have hlen:=h.len
 have hlim:=h.lim
 refine zQ0 l.length (λk t w'=>t=(k:Int)/\(∀f ∈ l.take k,p f=false)/\Pu w w') ⟨rfl,by simp,Pu.refl _⟩ ?_
 rintro k J t w2 hk ⟨ht,hno,hp⟩ hJ
 obtain rfl:t=(k:Int):=ht
 refine Br.of (λd=>?_) (λd=>?_)
 ·have aG:k<l.length:=by have:=zQk d;omega
  obtain⟨f,hf⟩:=zQZ aG
  obtain⟨a,ha,hi,_,_,_,c0,c1,c2,c3⟩:=zJw (h.pu hp) hf
  refine⟨a,ha,by omega,by omega,_,c0,_,c1,_,c2,_,c3,hg.1,?_⟩
  have e1:((#[]:Array Value).toList ++ (([yQ9 f]:List Value) ++ cap.toList)).toArray=#[yQ9 f] ++ cap:=by
   apply Array.ext';simp
  rw[e1]
  refine(hg.2 f (List.mem_of_getElem? hf) w2 hp).mono ?_
  rintro e w3 ⟨rfl,aA⟩
  refine⟨_,rfl,Br.of (λd1=>⟨by rw[yQW hno hf d1],hp.trans aA⟩) (λd1=>?_)⟩
  rw[zQa (by omega) (by omega)]
  refine hJ _ _ aG ⟨by omega,λf' hf'=>?_,hp.trans aA⟩
  rw[zQ8 hf,List.mem_append,List.mem_singleton]at hf'
  rcases hf' with hf'|rfl
  ·exact hno f' hf'
  ·exact d1
 ·have aG:k=l.length:=by have:=zQd d;omega
  subst aG
  rw[List.take_length]at hno
  have:l.findIdx? p=none:=by rw[List.findIdx?_eq_none_iff];exact λx hx=>by rw[hno x hx]
  exact⟨by rw[this],hp⟩
theorem zYk{w:World}{s:SV}{l:List Fld}(h:zXF w s l){g:Nat}{cap:Array Value}{p:Fld->Bool}(hg:yJs l g cap p w):Calls prog 178 #[.slice s.a s.len s.cap,.func (.func g) #[] cap] w
  λe w'=>e=.returned (.bool (l.any p))/\Pu w w':=by
 refine yJX _ _ w _ ((zV8 h hg).mono ?_)
 rintro e w2 ⟨rfl,hp⟩
 refine⟨_,rfl,?_,hp⟩
 cases hx:l.findIdx? p with
 | none=>
  rw[List.findIdx?_eq_none_iff]at hx
  have:l.any p=false:=by rw[List.any_eq_false];exact λx hx'=>by rw[hx x hx'];simp
  rw[this];rfl
 | some k=>
  rw[List.findIdx?_eq_some_iff_getElem]at hx
  obtain⟨h1,h2,_⟩:=hx
  have:l.any p=true:=List.any_eq_true.2 ⟨_,List.getElem_mem h1,h2⟩
  rw[this]
  dsimp only
  rw[decide_eq_true (by omega)]
theorem yKV(f:Fld)(hs:f.name.size<=140737488355328)(w:World):Calls prog 179 #[yQ9 f] w λe w'=>e=.returned (.bool (!zQn f))/\Pu w w':=by
 refine yKy _ _ _ _ w _ (alB λw1 ax aE=>⟨_,cl aE 0,_,cl aE 1,_,cl aE 2,_,cl aE 3,(yQO f hs w1).mono ?_⟩)
 rintro e w2 ⟨rfl,ar⟩
 exact⟨_,rfl,rfl,ax.trans ar⟩
theorem u88:prog.underlying 206=some (.map 9 4):=by kernel_rfl
abbrev strK(s:ByteArray):Value:=.string s
abbrev xWh(b:Bool):Value:=.bool b
theorem keysS:yZX prog 9 strK:=xXn (by kernel_rfl)
theorem z4(w:World):(zeroValue 4).run prog w=.ok (.bool false) w:=Tryz.zeroValue4 w
def yQ4(l:List Fld):List (ByteArray × Bool):=l.map λf=>(f.name,true)
theorem yQf(l:List Fld):(yQ4 l).map Prod.fst=l.map (·.name):=by simp[yQ4]
noncomputable instance memDec (x : ByteArray) (l : List ByteArray) : Decidable (x ∈ l) := Classical.propDecidable _
theorem yYq(l:List Fld)(x:ByteArray):(AL.get (yQ4 l) x).elim (.bool false) xWh=.bool (decide (x ∈ l.map (·.name))):=by
 by_cases h:x ∈ l.map (·.name)
 ·rw[decide_eq_true h]
  cases hg:AL.get (yQ4 l) x with
  | none=>rw[AL.get_none,yQf]at hg;exact absurd h hg
  | some v=>
   have:=AL.get_mem hg
   simp only[yQ4,List.mem_map]at this
   obtain⟨f,_,he⟩:=this
   cases he;rfl
 ·rw[decide_eq_false h,(AL.get_none).2 (by rw[yQf];exact h)];rfl
theorem zWQ:zQG []=1:=by unfold zQG;rw[if_pos (.inl rfl)]
theorem zYH{l:List Fld}(h:l.all zQn=false):zQG l=1:=by unfold zQG;rw[if_pos (.inr h)]
theorem zYw {l:List Fld} (h0:l ≠ []) (h:l.all zQn=true) (h2:¬(l.map (·.name)).Nodup):zQG l=5:=by unfold zQG;rw[if_neg (by simp[h0,h]),if_pos h2]
theorem zY4 {l:List Fld} (h0:l ≠ []) (h:l.all zQn=true) (h2:(l.map (·.name)).Nodup):zQG l=if 16<l.length∨2000<zX0 l then 3 else 0:=by unfold zQG;rw[if_neg (by simp[h0,h]),if_neg (by simp[h2])]
theorem zZR {l:List Fld} {k:Nat} {f:Fld} (h:l[k]?=some f):(l.take (k+1)).map (·.name)=(l.take k).map (·.name) ++ [f.name]:=by
 rw[zQ8 h,List.map_append];rfl
theorem zKI {l:List Fld} {k:Nat} (h:¬((l.take k).map (·.name)).Nodup):¬(l.map (·.name)).Nodup:=λhn=>h (by
 rw[List.map_take];exact hn.sublist (List.take_sublist _ _))
theorem zZs{w:World}{s:SV}{l:List Fld}(h:zXF w s l)(hl:Lim.ok l):Calls prog 141 #[.slice s.a s.len s.cap] w λe w'=>e=.returned (.int .i64 (zQG l))/\Pu w w':=by
 refine yJ9 _ w _ ?_
 have hlen:=h.len
 have hlim:=h.lim
 have nm:∀f ∈ l,f.name.size<=140737488355328:=λf hf=>hl f hf
 refine Br.of (λd=>?_) (λd=>?_)
 ·have:l=[]:=List.length_eq_zero_iff.1 (by have:=zQC d;omega)
  subst this;exact⟨by rw[zWQ],Pu.refl _⟩
 have h0:l ≠ []:=λe=>by subst e;exact zQm d (by rw[hlen];rfl)
 have tells:yJs l 179 #[] (λf=>!zQn f) w:=⟨by kernel_rfl,λf hf w2 _=>yKV f (nm f hf) w2⟩
 refine(zYk h tells).mono ?_
 rintro e w1 ⟨rfl,ax⟩
 have hany:l.any (λf=>!zQn f)=!l.all zQn:=by rw[List.all_eq_not_any_not];simp
 refine⟨_,rfl,?_⟩
 rw[hany]
 refine Br.of (λd1=>⟨by rw[zYH (by simpa using d1)],ax⟩) (λd1=>?_)
 have hall:l.all zQn=true:=by simpa using d1
 refine zVD λw2 mr=>?_
 have ar:Pu w1 w2:=by rw[mr];exact Pu.alloc w1 _
 have wm:zXv w2 strK xWh w1.heap.size ([]:List (ByteArray × Bool)):=by rw[mr];exact zXv.new w1 _ _
 have z1:=ax.size
 refine zQ0 l.length (λk t w'=>t=(k:Int)/\zXv w' strK xWh w1.heap.size (yQ4 (l.take k))/\((l.take k).map (·.name)).Nodup/\Pu w w') ⟨rfl,wm,by simp,ax.trans ar⟩ ?_
 rintro k J t w3 hk ⟨ht,hm,hnd,hp⟩ hJ
 obtain rfl:t=(k:Int):=ht
 refine Br.of (λd2=>?_) (λd2=>?_)
 ·have aG:k<l.length:=by have:=zQk d2;omega
  obtain⟨f,hf⟩:=zQZ aG
  obtain⟨a,ha,hi,_,_,_,c0,c1,c2,c3⟩:=zJw (h.pu hp) hf
  refine⟨a,ha,by omega,by omega,_,c0,_,c1,_,c2,_,c3,zYt rfl s23.symm rfl λw4 aJ sK cA=>⟨_,cl0 cA,decide (f.name ∈ (l.take k).map (·.name)),w4,?_,?_⟩⟩
  ·have:=(hm.pu aJ).look keysS u88 (z4 w4) f.name false
   rw[yYq]at this;exact this
  refine Br.of (λd3=>⟨?_,hp.trans aJ⟩) (λd3=>⟨_,cl0 cA,?_⟩)
  ·rw[zYw h0 hall (zKI (k:=k+1) (by rw[zZR hf,zJW];exact λh=>h.2 (zQk d3)))]
  ·obtain⟨w5,e5,h5,f5,_⟩:=(hm.pu aJ).upd keysS u88 f.name true
   refine⟨w5,e5,?_⟩
   rw[zQa (by omega) (by omega)]
   have hput:AL.put (yQ4 (l.take k)) f.name true=yQ4 (l.take (k+1)):=by
    rw[AL.put_new ((AL.get_none).2 (by rw[yQf];exact zQd d3))]
    simp only[yQ4]
    rw[zQ8 hf,List.map_append];rfl
   rw[hput]at h5
   refine hJ _ _ aG ⟨by omega,h5,by rw[zZR hf,zJW];exact⟨hnd,zQd d3⟩,(hp.trans aJ).andNew f5 λi hi=>by have hi:i=w1.heap.size:=hi;omega⟩
 ·have aG:k=l.length:=by have:=zQd d2;omega
  subst aG
  rw[List.take_length]at hnd
  have he:=zY4 h0 hall hnd
  refine Br.of (λd3=>⟨by rw[he,if_pos (.inl (by have:=zQk d3;omega))],hp⟩) (λd3=>(zVo (h.pu hp) (WOk.of hall)).mono ?_)
  rintro e w4 ⟨rfl,aJ⟩
  refine⟨_,rfl,Br.of (λd4=>⟨by rw[he,if_pos (.inr (zQk d4))],hp.trans aJ⟩) (λd4=>⟨by rw[he,if_neg (by have:=zQd d4;have:=zQd d3;omega)],hp.trans aJ⟩)⟩
theorem zYl{w:World}{s:SV}{l:List Fld}(h:zXF w s l):Calls prog 53 #[.slice s.a s.len s.cap] w λe w'=>e=.returned (.int .i64 (zQG l))/\Pu w w':=by
 refine yV1 _ w _ ?_
 have hlen:=h.len
 have hlim:=h.lim
 refine Br.of (λd=>?_) (λd=>?_)
 ·have:l=[]:=List.length_eq_zero_iff.1 (by have:=zQC d;omega)
  subst this;exact⟨by rw[zWQ],Pu.refl _⟩
 have h0:l ≠ []:=λe=>by subst e;exact zQm d (by rw[hlen];rfl)
 refine zQ0 l.length (λk t w'=>t=(k:Int)/\(l.take k).all zQn=true/\Pu w w') ⟨rfl,rfl,Pu.refl _⟩ ?_
 rintro k J t w2 hk ⟨ht,hal,hp⟩ hJ
 obtain rfl:t=(k:Int):=ht
 refine Br.of (λd1=>?_) (λd1=>?_)
 ·have aG:k<l.length:=by have:=zQk d1;omega
  obtain⟨f,hf⟩:=zQZ aG
  obtain⟨a,ha,hi,_,_,_,c0,c1,c2,c3⟩:=zJw (h.pu hp) hf
  refine⟨a,ha,by omega,by omega,_,c0,_,c1,_,c2,_,c3,(yKM f w2).mono ?_⟩
  rintro e w3 ⟨rfl,aA⟩
  refine⟨_,rfl,Br.of (λd2=>⟨?_,hp.trans aA⟩) (λd2=>?_)⟩
  ·rw[zYH (by rw[List.all_eq_false];exact⟨f,List.mem_of_getElem? hf,by simpa using d2⟩)]
  ·rw[zQa (by omega) (by omega)]
   exact hJ _ _ aG ⟨by omega,by rw[zJc _ hf,hal,show zQn f=true by simpa using d2];rfl,hp.trans aA⟩
 have aG:k=l.length:=by have:=zQd d1;omega
 subst aG
 rw[List.take_length]at hal
 clear hJ J d1
 refine zQ0 l.length (λk t w'=>t=(k:Int)/\((l.take k).map (·.name)).Nodup/\Pu w w') ⟨rfl,by simp,hp⟩ ?_
 rintro k J t w3 hk ⟨ht,hnd,hp⟩ hJ
 obtain rfl:t=(k:Int):=ht
 refine Br.of (λd1=>?_) (λd1=>?_)
 ·have aG:k<l.length:=by have:=zQk d1;omega
  obtain⟨f,hf⟩:=zQZ aG
  refine zQ0 k (λj t w'=>t=(j:Int)/\f.name ∉ (l.take j).map (·.name)/\Pu w w') ⟨rfl,by simp,hp⟩ ?_
  rintro j J2 t w4 hj ⟨ht,hno,aJ⟩ yV
  obtain rfl:t=(j:Int):=ht
  refine Br.of (λd2=>?_) (λd2=>?_)
  ·have jH:j<k:=by have:=zQk d2;omega
   obtain⟨g,hg⟩:=zQZ (show j<l.length by omega)
   refine zQf λw5 aV _=>?_
   obtain⟨a,ha,hi,_,_,c,c0,c1,c2,c3⟩:=zJw (h.pu (aJ.trans aV)) hf
   obtain⟨a',ha',hi',_,_,c',c0',nl,c2',zY⟩:=zJw (h.pu (aJ.trans aV)) hg
   refine⟨a,ha,by omega,by omega,_,c,a',ha',by omega,by omega,_,c',?_⟩
   rw[zXz]
   refine Br.of (λd3=>⟨?_,aJ.trans aV⟩) (λd3=>?_)
   ·rw[zYw h0 hal (zKI (k:=k+1) (by
     rw[zZR hf,zJW]
     refine λh=>h.2 ?_
     rw[zQk d3]
     exact List.mem_map.2 ⟨g,by rw[List.mem_take_iff_getElem];exact⟨j,by omega,by rw[List.getElem?_eq_getElem (by omega)]at hg;exact Option.some.inj hg⟩,rfl⟩))]
   ·rw[zQa (by omega) (by omega)]
    refine yV _ _ jH ⟨by omega,?_,aJ.trans aV⟩
    rw[zZR hg,List.mem_append,List.mem_singleton]
    exact λh=>h.elim hno (zQd d3)
  ·have jH:j=k:=by have:=zQd d2;omega
   subst jH
   show J (IntKind.i64.wrap ((j:Int)+1)) w4
   rw[zQa (by omega) (by omega)]
   exact hJ _ _ aG ⟨by omega,by rw[zZR hf,zJW];exact⟨hnd,hno⟩,aJ⟩
 ·have aG:k=l.length:=by have:=zQd d1;omega
  subst aG
  rw[List.take_length]at hnd
  have he:=zY4 h0 hal hnd
  refine Br.of (λd3=>⟨by rw[he,if_pos (.inl (by have:=zQk d3;omega))],hp⟩) (λd3=>(xWF (h.pu hp) (WOk.of hal)).mono ?_)
  rintro e w4 ⟨rfl,aJ⟩
  refine⟨_,rfl,Br.of (λd4=>⟨by rw[he,if_pos (.inr (zQk d4))],hp.trans aJ⟩) (λd4=>⟨by rw[he,if_neg (by have:=zQd d4;have:=zQd d3;omega)],hp.trans aJ⟩)⟩
end Go.Proofs.YtaeecpjhfmcliaaGreatDoor
/- Table: which tables are right. No condition. -/
namespace Go.Proofs.YtaeecpjhfmcliaaGreatDoor
open Go.Sh Go.RowKit Tryz
theorem xXy:zYW prog 73 [some .i64,some .i64,none]=true:=by kernel_rfl
theorem yVh:prog.eqGuardType prog.depth 73=false:=by kernel_rfl
theorem yJz{a b:Val}(h:zVO a=zVO b):a=b:=by
 obtain⟨a1,a2,a3⟩:=a;obtain⟨b1,b2,b3⟩:=b
 simp[zVO]at h;simp[h]
theorem eqVal(x y:Operand)(a b:Val)(w:World):(eqS .eql 73 x y (zWt a) (zWt b)).run prog w=.ok (.bool (decide (a=b))) w:=by
 refine eqS_row (ks:=[some .i64,some .i64,none]) (xs:=zVO a) (ys:=zVO b) xXy yVh rfl rfl ?_ w
 rw[decide_eq_true_iff]
 exact⟨λh=>by rw[h],yJz⟩
theorem xXb {l:List UInt8} {w:Nat} (h:zZo (l.take w)=l):l.length<=w/\zZo l=l:=by
 have h1:=yZo (l.take w)
 rw[h]at h1
 have h2:=List.length_take_le w l
 have h3:l.length<=w:=by omega
 rw[List.take_of_length_le h3]at h
 exact⟨h3,h⟩
theorem fitted_holds{f:Fld}{p:Int}{v:Val}(hf:zQn f=true)(hv:zXc v=0)(hk:v.kind ≠ 0):(decide ((zZ4 f p v).2=0) && decide ((zZ4 f p v).1=v))=zQM f p v:=by
 have j1:¬zXc v ≠ 0:=by omega
 obtain⟨hvs,hvn,hv4⟩:=zKK hv
 unfold zZ4
 rw[if_neg hk]
 by_cases h1:v.kind ≠ (zXt f).kind
 ·rw[if_pos h1]
  have:zQM f p v=false:=by
   unfold zQM;rw[if_neg j1,if_neg hk]
   by_cases h5:f.kind=5
   ·have:v.kind ≠ 2:=by unfold zXt at h1;rw[if_pos h5]at h1;exact h1
    rw[if_pos h5,decide_eq_false this];rfl
   ·have:v.kind ≠ f.kind:=by unfold zXt at h1;rw[if_neg h5]at h1;exact h1
    rw[if_neg h5,if_pos this]
  rw[this];simp
 rw[if_neg h1]
 by_cases h4:f.kind=4
 ·rw[if_pos h4]
  have hkv:v.kind=4:=by
   have:v.kind=(zXt f).kind:=by simpa using h1
   rw[this];unfold zXt;rw[if_neg (by omega)];exact h4
  have mg:v.n=0:=by rw[hkv]at hvn;simpa[okN] using hvn
  have hfit:zQM f p v=(decide ((v.s.size:Int)<=f.width) && decide (zZo v.s.data.toList=v.s.data.toList) && zXM v.s.data.toList p):=by
   unfold zQM;rw[if_neg j1,if_neg hk,if_neg (by omega),if_neg (by rw[hkv,h4];simp),if_neg (by omega),if_pos h4]
  obtain⟨wl,wh⟩:=yQm hf h4
  have key:(zZo (v.s.data.toList.take f.width.toNat)=v.s.data.toList) ↔ ((v.s.size:Int)<=f.width/\zZo v.s.data.toList=v.s.data.toList):=by
   constructor
   ·intro h;have h2:=xXb h;rw[zQy]at h2;exact⟨by omega,h2.2⟩
   ·rintro⟨h2,h3⟩;rw[List.take_of_length_le (by rw[zQy];omega)];exact h3
  have eqv:(⟨4,0,bs (zZo (v.s.data.toList.take f.width.toNat))⟩:Val)=v ↔ zZo (v.s.data.toList.take f.width.toNat)=v.s.data.toList:=by
   rw[←yXt]
   obtain⟨k,n,s⟩:=v
   simp only at hkv mg
   subst hkv mg
   simp
  have rO:(decide ((v.s.size:Int)<=f.width) && decide (zZo v.s.data.toList=v.s.data.toList))=decide (zZo (v.s.data.toList.take f.width.toNat)=v.s.data.toList):=by rw[←Bool.decide_and];exact zZl key.symm
  rw[hfit,rO]
  by_cases hb:zZo (v.s.data.toList.take f.width.toNat)=v.s.data.toList
  ·rw[decide_eq_true hb,hb]
   cases ht:zXM v.s.data.toList p
   ·simp
   ·rw[if_pos rfl]
    have h9:=eqv.2 hb
    rw[hb]at h9
    simp[h9]
  ·rw[decide_eq_false hb]
   cases ht:zXM (zZo (v.s.data.toList.take f.width.toNat)) p
   ·simp
   ·rw[if_pos rfl]
    have h9:¬(⟨4,0,bs (zZo (v.s.data.toList.take f.width.toNat))⟩:Val)=v:=λh=>hb (eqv.1 h)
    simp[h9]
 ·rw[if_neg h4]
  cases hfit:zQM f p v
  ·simp
  ·simp
theorem xKR(f:Fld)(p:Int)(v:Val)(hs:f.name.size<=140737488355328)(hf:zQn f=true)(hpg:zQT p=true)(w:World):Calls prog 142 #[yQ9 f,.int .i64 p,zWt v] w λe w'=>e=.returned (.bool (zQM f p v))/\Pu w w':=by
 refine yKY _ _ _ _ _ _ _ _ w _ ?_
 refine alB λw1 ax aE=>alB λw2 ar aN=>?_
 have aM:=ax.trans ar
 have b1:∀{wz},Pu w2 wz->wz.heap[w.heap.size]?=some (.cells #[.string f.name,.int .i64 f.kind,.int .i64 f.width,.bool f.null] 129):=λh=>h.blk (ar.blk aE)
 have b2:∀{wz},Pu w2 wz->wz.heap[w1.heap.size]?=some (.cells #[.int .i64 v.kind,.int .i64 v.n,.string v.s] 73):=λh=>h.blk aN
 have q1:=b1 (Pu.refl w2)
 have q2:=b2 (Pu.refl w2)
 have out:∀{wz:World} {b:Bool},Pu w wz->zQM f p v=b->(Ending.returned (Value.bool b)=Ending.returned (Value.bool (zQM f p v))/\Pu w wz):=λh1 h2=>⟨by rw[h2],h1⟩
 have bad:zXc v ≠ 0->zQM f p v=false:=λh=>by unfold zQM;rw[if_pos h]
 refine⟨_,cl0 q2,Br.of (λd=>⟨_,cl q1 3,?_⟩) (λd=>⟨_,cl q2 0,_,cl q2 1,_,cl q2 2,(yVZ v w2).mono ?_⟩)⟩
 ·have d:=zQC d
  have key:(f.null && decide (v=noV))=zQM f p v:=by
   by_cases h:zXc v ≠ 0
   ·rw[bad h]
    have:¬v=noV:=λe=>h (by rw[e];rfl)
    rw[decide_eq_false this];simp
   ·have h:zXc v=0:=by simpa using h
    obtain⟨_,h2,h3⟩:=zKK h
    have hn:v.n=0:=by rw[d]at h2;simpa[okN] using h2
    have hz:v.s.size=0:=h3.resolve_left (by omega)
    have:v=noV:=by
     obtain⟨k,n,s⟩:=v
     simp only at d hn hz
     subst d hn
     have:s=⟨#[]⟩:=zQI (by
      have:s.data.toList.length=0:=by rw[zQy];exact hz
      rw[List.length_eq_zero_iff]at this;rw[this])
     subst this;rfl
    rw[decide_eq_true this]
    unfold zQM;rw[if_neg (by omega),if_pos d];simp
  refine Br.of (λd1=>⟨_,cl q2 0,_,cl q2 1,_,cl q2 2,_,w2,eqVal _ _ v noV w2,out aM ?_⟩) (λd1=>out aM ?_)
  ·rw[←key,d1];rfl
  ·rw[←key,d1];rfl
 rintro e w3 ⟨rfl,aA⟩
 have aZ:=aM.trans aA
 refine⟨_,rfl,Br.of (λd1=>out aZ (bad (zQ5 d1))) (λd1=>⟨_,cl (b1 aA) 0,_,cl (b1 aA) 1,_,cl (b1 aA) 2,_,cl (b1 aA) 3,_,cl (b2 aA) 0,_,cl (b2 aA) 1,_,cl (b2 aA) 2,(fit_c f p v hs w3).mono ?_⟩)⟩
 have hv:=zQs d1
 have hF:=zKB (f:=f) (p:=p) (v:=v) (by rw[hf,hpg];rfl) hv
 have key:=fitted_holds (f:=f) (p:=p) hf hv (zQm d)
 rintro e w4 ⟨rfl,aJ⟩
 rw[hF]
 refine⟨_,_,_,_,rfl,zYt rfl s25.symm rfl λw5 aV kG bi=>?_⟩
 have bL:=(aA.trans aJ).trans aV
 have cV:=aM.trans bL
 refine Br.of (λd2=>⟨_,cl bi 0,_,cl bi 1,_,cl bi 2,_,cl (b2 bL) 0,_,cl (b2 bL) 1,_,cl (b2 bL) 2,_,w5,eqVal _ _ (zZ4 f p v).1 v w5,out cV ?_⟩) (λd2=>out cV ?_)
 ·rw[←key,decide_eq_true (zQC d2)];rfl
 ·rw[←key,decide_eq_false (zQm d2)];rfl
theorem yV4 {l:List Fld} {vs:List Val} {i:Nat} {f:Fld} {v:Val} (h:l[i]?=some f) (h2:vs[i]?=some v):(l.zip vs)[i]?=some (f,v):=by
 rw[List.getElem?_zip_eq_some];exact⟨h,h2⟩
def zJ4(l:List Fld)(p:Int)(vs:List Val):Bool:=(l.zip vs).all (λx=>zQM x.1 p x.2)
theorem zWy{l:List Fld}{p:Int}{r:Rec}(h:r.v.length ≠ l.length):zQA l p r=10:=by unfold zQA;rw[if_pos h]
theorem zZY{l:List Fld}{p:Int}{r:Rec}(h:r.v.length=l.length):zQA l p r=if zJ4 l p r.v then 0 else 1:=by unfold zQA;rw[if_neg (by simp[h])];rfl
theorem yZu{w:World}{s t:SV}{l:List Fld}{r:Rec}(p:Int)(h:zXF w s l)(hr:zXF w t r.v):Calls prog 54 #[.slice s.a s.len s.cap,.int .i64 p,.agg #[.bool r.gone,.slice t.a t.len t.cap]] w λe w'=>e=.returned (.int .i64 (zQA l p r))/\Pu w w':=by
 refine yYk _ _ _ _ w _ ?_
 refine alB λw1 ax aE=>⟨t,cl aE 1,?_⟩
 have h1:=h.len
 have h2:=hr.len
 have h3:=h.lim
 refine Br.of (λd=>⟨by rw[zWy (by have:=zQ5 d;omega)],ax⟩) (λd=>?_)
 have hl:r.v.length=l.length:=by have:=zQs d;omega
 refine zQ0 l.length (λk u w'=>u=(k:Int)/\((l.zip r.v).take k).all (λx=>zQM x.1 p x.2)=true/\Pu w1 w') ⟨rfl,rfl,Pu.refl _⟩ ?_
 rintro k J u w2 hk ⟨hu,hal,ar⟩ hJ
 obtain rfl:u=(k:Int):=hu
 refine Br.of (λd1=>?_) (λd1=>?_)
 ·have aG:k<l.length:=by have:=zQk d1;omega
  obtain⟨f,hf⟩:=zQZ aG
  obtain⟨v,hv⟩:=zQZ (show k<r.v.length by omega)
  refine zQf λw3 aA _=>?_
  have bg:=ar.trans aA
  obtain⟨a,ha,hi,_,_,c,c0,c1,c2,c3⟩:=zJw ((h.pu ax).pu bg) hf
  obtain⟨b,hb,hbi,_,_,e0,e1,e2⟩:=xX0 ((hr.pu ax).pu bg) hv
  refine⟨a,ha,by omega,by omega,_,c0,_,c1,_,c2,_,c3,t,cl (bg.blk aE) 1,b,hb,by omega,by omega,_,e0,_,e1,_,e2,(xWf f p v w3).mono ?_⟩
  rintro e w4 ⟨rfl,aJ⟩
  have hz:=yV4 hf hv
  refine⟨_,rfl,Br.of (λd2=>⟨?_,ax.trans (bg.trans aJ)⟩) (λd2=>?_)⟩
  ·have:zJ4 l p r.v=false:=by unfold zJ4;rw[List.all_eq_false];exact⟨_,List.mem_of_getElem? hz,by simpa using d2⟩
   rw[zZY hl,this];rfl
  ·rw[zQa (by omega) (by omega)]
   exact hJ _ _ aG ⟨by omega,by rw[zJc _ hz,hal,show zQM f p v=true by simpa using d2];rfl,bg.trans aJ⟩
 ·have aG:k=l.length:=by have:=zQd d1;omega
  have:zJ4 l p r.v=true:=by unfold zJ4;rw[←hal,List.take_of_length_le (by rw[List.length_zip];omega)]
  exact⟨by rw[zZY hl,this];rfl,ax.trans ar⟩
theorem zJh{l:List Fld}{p:Int}:∀{rs:List Rec} {k:Nat} {r:Rec},(∀x ∈ rs.take k,zQA l p x=0)->rs[k]?=some r->zQA l p r ≠ 0->zXr l p rs=zQA l p r
 | [],k,r,_,h,_=>by simp at h
 | x :: rs,0,r,_,h,h2=>by simp at h;subst h;unfold zXr;rw[if_pos h2]
 | x :: rs,k+1,r,h0,h,h2=>by
  unfold zXr
  rw[if_neg (by rw[h0 x (by simp)];simp)]
  exact zJh (k:=k) (λy hy=>h0 y (by simp[hy])) (by simpa using h) h2
theorem zJp{l:List Fld}{p:Int}:∀{rs:List Rec},(∀x ∈ rs,zQA l p x=0)->zXr l p rs=0
 | [],_=>rfl
 | x :: rs,h=>by unfold zXr;rw[if_neg (by rw[h x (by simp)];simp)];exact zJp λy hy=>h y (by simp[hy])
theorem zVy{t:Tbl}(h:zQT t.page=false):zQi t=1:=by unfold zQi;rw[h];rfl
theorem zWd{t:Tbl}(h:zQT t.page=true)(h2:zQG t.fields ≠ 0):zQi t=zQG t.fields:=by unfold zQi;rw[h,if_pos rfl,if_pos h2]
theorem zV7{t:Tbl}(h:zQT t.page=true)(h2:zQG t.fields=0)(h3:300<t.recs.length):zQi t=3:=by unfold zQi;rw[h,if_pos rfl,if_neg (by omega),if_pos h3]
theorem zVK{t:Tbl}(h:zQT t.page=true)(h2:zQG t.fields=0)(h3:¬300<t.recs.length):zQi t=zXr t.fields t.page t.recs:=by unfold zQi;rw[h,if_pos rfl,if_neg (by omega),if_neg h3]
theorem zXf{l:List Fld}(h:zQG l=0):l ≠ []/\l.all zQn=true/\(l.map (·.name)).Nodup/\l.length<=16/\zX0 l<=2000:=by
 unfold zQG at h
 split at h
 ·omega
 ·rename_i h1
  split at h
  ·omega
  ·rename_i h2
   split at h
   ·omega
   ·rename_i h3
    simp only[not_or]at h1 h3
    exact⟨h1.1,by simpa using h1.2,by simpa using h2,by omega,by omega⟩
abbrev zYj(t:Tbl)(f r:SV):Value:=.agg #[.int .i64 t.page,.slice f.a f.len f.cap,.slice r.a r.len r.cap]
theorem yZt{w:World}{t:Tbl}{f r:SV}(h:zXD w t f r):Calls prog 13 #[zYj t f r] w λe w'=>e=.returned (.int .i64 (zQi t))/\Pu w w':=by
 refine yVU _ _ _ w _ ?_
 refine alB λw1 ax aE=>⟨_,cl0 aE,(yWH t.page w1).mono ?_⟩
 rintro e w2 ⟨rfl,ar⟩
 have h1:=h.recs.len
 have h3:=h.recs.lim
 refine⟨_,rfl,Br.of (λd=>⟨by rw[zVy (by simpa using d)],ax.trans ar⟩) (λd=>⟨_,cl (ar.blk aE) 1,(zYl (h.fields.pu (ax.trans ar))).mono ?_⟩)⟩
 have hpg:zQT t.page=true:=by simpa using d
 rintro e w3 ⟨rfl,aA⟩
 have bg:=ar.trans aA
 refine⟨_,rfl,Br.of (λd1=>⟨by rw[zWd hpg (zQ5 d1)],ax.trans bg⟩) (λd1=>⟨_,cl (bg.blk aE) 2,Br.of (λd2=>⟨by rw[zV7 hpg (zQs d1) (by have:=zQk d2;omega)],ax.trans bg⟩) (λd2=>?_)⟩)⟩
 have hvf:=zQs d1
 have e0:=zVK hpg hvf (by have:=zQd d2;omega)
 refine zQ0 t.recs.length (λk u w'=>u=(k:Int)/\(∀x ∈ t.recs.take k,zQA t.fields t.page x=0)/\Pu w1 w') ⟨rfl,by simp,bg⟩ ?_
 rintro k J u w4 hk ⟨hu,hal,aJ⟩ hJ
 obtain rfl:u=(k:Int):=hu
 refine⟨_,cl (aJ.blk aE) 2,Br.of (λd3=>zQf λw5 aV _=>?_) (λd3=>?_)⟩
 ·have aG:k<t.recs.length:=by have:=zQk d3;omega
  obtain⟨x,hx⟩:=zQZ aG
  have dO:=aJ.trans aV
  obtain⟨a,q,ha,hi,hq,c0,c1⟩:=yQz ((h.recs.pu ax).pu dO) hx
  refine⟨_,cl (dO.blk aE) 1,_,cl0 (dO.blk aE),_,cl (dO.blk aE) 2,a,ha,by omega,by omega,_,c0,_,c1,(yZu t.page ((h.fields.pu ax).pu dO) hq).mono ?_⟩
  rintro e w6 ⟨rfl,bV⟩
  refine⟨_,rfl,Br.of (λd4=>⟨by rw[e0,zJh hal hx (zQ5 d4)],ax.trans (dO.trans bV)⟩) (λd4=>?_)⟩
  rw[zQa (by omega) (by omega)]
  refine hJ _ _ aG ⟨by omega,λy hy=>?_,dO.trans bV⟩
  rw[zQ8 hx,List.mem_append,List.mem_singleton]at hy
  rcases hy with hy|rfl
  ·exact hal y hy
  ·exact zQs d4
 ·have aG:k=t.recs.length:=by have:=zQd d3;omega
  subst aG
  rw[List.take_length]at hal
  exact⟨by rw[e0,zJp hal],ax.trans aJ⟩
theorem zZu{w:World}{t:Tbl}{f r:SV}(h:zXD w t f r)(hl:Lim.ok t.fields):Calls prog 106 #[zYj t f r] w λe w'=>e=.returned (.int .i64 (zQi t))/\Pu w w':=by
 refine yWv _ _ _ w _ ?_
 refine alB λw1 ax aE=>⟨_,cl0 aE,(yZI t.page w1).mono ?_⟩
 rintro e w2 ⟨rfl,ar⟩
 have h1:=h.recs.len
 have h3:=h.recs.lim
 have h1f:=h.fields.len
 have h3f:=h.fields.lim
 refine⟨_,rfl,Br.of (λd=>⟨by rw[zVy (by simpa using d)],ax.trans ar⟩) (λd=>⟨_,cl (ar.blk aE) 1,(zZs (h.fields.pu (ax.trans ar)) hl).mono ?_⟩)⟩
 have hpg:zQT t.page=true:=by simpa using d
 rintro e w3 ⟨rfl,aA⟩
 have bg:=ar.trans aA
 refine⟨_,rfl,Br.of (λd1=>⟨by rw[zWd hpg (zQ5 d1)],ax.trans bg⟩) (λd1=>⟨_,cl (bg.blk aE) 2,Br.of (λd2=>⟨by rw[zV7 hpg (zQs d1) (by have:=zQk d2;omega)],ax.trans bg⟩) (λd2=>⟨_,cl (bg.blk aE) 2,?_⟩)⟩)⟩
 have hvf:=zQs d1
 obtain⟨_,hall,_,_,_⟩:=zXf hvf
 have e0:=zVK hpg hvf (by have:=zQd d2;omega)
 refine zQ0 t.recs.length (λk u w'=>u=(k:Int)/\(∀x ∈ t.recs.take k,zQA t.fields t.page x=0)/\Pu w1 w') ⟨rfl,by simp,bg⟩ ?_
 rintro k J u w4 hk ⟨hu,hal,aJ⟩ hJ
 obtain rfl:u=(k:Int):=hu
 refine Br.of (λd3=>?_) (λd3=>?_)
 ·have aG:k<t.recs.length:=by have:=zQk d3;omega
  obtain⟨x,hx⟩:=zQZ aG
  obtain⟨a,q,ha,hi,hq,c0,c1⟩:=yQz ((h.recs.pu ax).pu aJ) hx
  have next:∀{w6:World},Pu w4 w6->zQA t.fields t.page x=0->yVC (λe w'=>e=.returned (.int .i64 (zQi t))/\Pu w w') J (some (⟨w.heap.size,0,none⟩:Addr)) r ((r.len:Nat):Int) (k:Int) [] w6:=λ{w6} bV h0=>by
   show J (IntKind.i64.wrap ((k:Int)+1)) w6
   rw[zQa (by omega) (by omega)]
   refine hJ _ _ aG ⟨by omega,λy hy=>?_,aJ.trans bV⟩
   rw[zQ8 hx,List.mem_append,List.mem_singleton]at hy
   rcases hy with hy|rfl
   ·exact hal y hy
   ·exact h0
  have hql:=hq.len
  refine⟨a,ha,by omega,by omega,_,c0,_,c1,zYt rfl (by kernel_rfl) rfl λw5 aV kG bi=>⟨_,cl bi 1,_,cl ((aJ.trans aV).blk aE) 1,Br.of (λd4=>?_) (λd4=>⟨_,cl ((aJ.trans aV).blk aE) 1,?_⟩)⟩⟩
  ·have:zQA t.fields t.page x=10:=zWy (by have:=zQ5 d4;omega)
   exact⟨by rw[e0,zJh hal hx (by rw[this];omega),this],ax.trans (aJ.trans aV)⟩
  have hlen:x.v.length=t.fields.length:=by have:=zQs d4;omega
  have dO:=aJ.trans aV
  refine zQ0 t.fields.length (λj u w'=>u=(j:Int)/\((t.fields.zip x.v).take j).all (λy=>zQM y.1 t.page y.2)=true/\Pu w5 w') ⟨rfl,rfl,Pu.refl _⟩ ?_
  rintro j J2 u w6 hj ⟨hu,haz,bV⟩ yV
  obtain rfl:u=(j:Int):=hu
  have cG:=dO.trans bV
  refine Br.of (λd5=>?_) (λd5=>?_)
  ·have jH:j<t.fields.length:=by have:=zQk d5;omega
   obtain⟨g,hg⟩:=zQZ jH
   obtain⟨v,hv⟩:=zQZ (show j<x.v.length by omega)
   obtain⟨b,hb,hbi,_,_,c',k0,k1,k2,k3⟩:=zJw ((h.fields.pu ax).pu cG) hg
   refine⟨b,hb,by omega,by omega,_,k0,_,k1,_,k2,_,k3,zYt rfl s23.symm rfl λw7 cK hs7 nH=>zQf λw8 bM _=>?_⟩
   have lr:=cK.trans bM
   have jS:=cG.trans lr
   have lZ:=bM.blk nH
   obtain⟨m,hm,hmi,_,_,v0,v1,v2⟩:=xX0 (hq.pu ((aV.trans bV).trans lr)) hv
   refine⟨_,cl lZ 0,_,cl lZ 1,_,cl lZ 2,_,cl lZ 3,_,cl0 (jS.blk aE),q,cl ((bV.trans lr).blk bi) 1,m,hm,by omega,by omega,_,v0,_,v1,_,v2,(xKR g t.page v (hl g (List.mem_of_getElem? hg)) (List.all_eq_true.1 hall g (List.mem_of_getElem? hg)) hpg w8).mono ?_⟩
   rintro e w9 ⟨rfl,eH⟩
   have hz:=yV4 hg hv
   refine⟨_,rfl,Br.of (λd6=>?_) (λd6=>?_)⟩
   ·have:zJ4 t.fields t.page x.v=false:=by unfold zJ4;rw[List.all_eq_false];exact⟨_,List.mem_of_getElem? hz,by simpa using d6⟩
    have h1:zQA t.fields t.page x=1:=by rw[zZY hlen,this];rfl
    exact⟨by rw[e0,zJh hal hx (by rw[h1];omega),h1],ax.trans (jS.trans eH)⟩
   ·rw[zQa (by omega) (by omega)]
    exact yV _ _ jH ⟨by omega,by rw[zJc _ hz,haz,show zQM g t.page v=true by simpa using d6];rfl,(bV.trans lr).trans eH⟩
  ·have jH:j=t.fields.length:=by have:=zQd d5;omega
   have:zJ4 t.fields t.page x.v=true:=by unfold zJ4;rw[←haz,List.take_of_length_le (by rw[List.length_zip];omega)]
   exact next (aV.trans bV) (by rw[zZY hlen,this];rfl)
 ·have aG:k=t.recs.length:=by have:=zQd d3;omega
  subst aG
  rw[List.take_length]at hal
  exact⟨by rw[e0,zJp hal],ax.trans aJ⟩
end Go.Proofs.YtaeecpjhfmcliaaGreatDoor
/- Table: the bytes of a header. No condition. -/
namespace Go.Proofs.YtaeecpjhfmcliaaGreatDoor
open Go.Sh Go.RowKit Tryz
def u8V(b:UInt8):Value:=.int .u8 ((b.toNat:Nat):Int)
def zZj(n:Int):UInt8:=UInt8.ofNat (n % 256).toNat
theorem zZU(n:Int):(Value.int .u8 (IntKind.u8.wrap n))=u8V (zZj n):=by
 unfold u8V zZj
 rw[IntKind.wrap_u8]
 congr 1
 have:(UInt8.ofNat (n % 256).toNat).toNat=(n % 256).toNat:=by simp;omega
 rw[this];omega
theorem yWs:(prog.info? 5).map (λi=>(i.zero,i.size,i.bytes))=some (some (.int .u8 0),1,1):=by kernel_rfl
def zQe(w0 w:World)(s:SV)(l:List UInt8):Prop:=zQj w 5 1 s (l.map u8V)/\∀b ∈ zQb s,w0.heap.size<=b
theorem zQe.len{w0 w:World}{s:SV}{l:List UInt8}(h:zQe w0 w s l):s.len=l.length:=by have:=h.1.1;simp at this;omega
theorem zQe.pu{w0 w w':World}{s:SV}{l:List UInt8}(h:zQe w0 w s l)(hp:Pu w w'):zQe w0 w' s l:=⟨h.1.pu hp,h.2⟩
theorem zQe.nil(w0 w:World):zQe w0 w ⟨none,0,0⟩ []:=⟨zQj.nil w 5 1,by simp[zQb]⟩
theorem zQe.fr{B:Nat->Prop}{w0 w w':World}{s:SV}{l:List UInt8}(h:zQe w0 w s l)(hf:Fr B w w')(hn:∀k ∈ zQb s,¬B k):zQe w0 w' s l:=⟨h.1.fr hf hn,h.2⟩
theorem zQe.low{w0 w1 w:World}{s:SV}{l:List UInt8}(h:zQe w1 w s l)(hz:w0.heap.size<=w1.heap.size):zQe w0 w s l:=⟨h.1,λb hb=>Nat.le_trans hz (h.2 b hb)⟩
theorem zQe.app {w0 w:World} {s m:SV} {l news:List UInt8} (h:zQe w0 w s l) (hz:w0.heap.size<=w.heap.size) (hl:m.len=news.length) (hn:∀(j:Nat) (b:UInt8),news[j]?=some b->∃a,m.a=some a/\w.cell? (a.add j)=some (u8V b)) (hb:l.length+news.length<=70368744177664) :
  ∃(s':SV) (w':World),(Builtin.append_ #[22,22] 22 #[.slice s.a s.len s.cap,.slice m.a m.len m.cap]).run prog w=.ok (.slice s'.a s'.len s'.cap) w'/\zQe w0 w' s' (l ++ news)/\Fr (· ∈ zQb s) w w':=by
 have h1:=h.len
 obtain⟨s',w',hr,hrow,hf,hblk,_⟩:=zJF (P:=prog) (ty:=22) u37 yWs rfl h.1 (m:=m) (news:=news.map u8V) (by simpa using hl) (λj u hu=>by
  obtain⟨b,hb,rfl⟩:∃b,news[j]?=some b/\u8V b=u:=by simpa using hu
  exact hn j b hb) (λu hu=>by simp at hu;obtain⟨x,_,rfl⟩:=hu;rfl) (by omega)
 refine⟨s',w',hr,⟨by rw[List.map_append];exact hrow,λb hb=>?_⟩,hf⟩
 rcases hblk b hb with h2|h2
 ·exact h.2 b h2
 ·omega
theorem zQe.one {w0 w:World} {s:SV} {l:List UInt8} (h:zQe w0 w s l) (hz:w0.heap.size<=w.heap.size) {r:Nat} {b:UInt8} {c:Array Value} (hr:w.heap[r]?=some (.cells c 5)) (hc:c[0]?=some (u8V b)) (hb:l.length<=70368744177663) :
  ∃(s':SV) (w':World),(Builtin.append_ #[22,22] 22 #[.slice s.a s.len s.cap,.slice (some ⟨r,0,none⟩) 1 1]).run prog w=.ok (.slice s'.a s'.len s'.cap) w'/\zQe w0 w' s' (l ++ [b])/\Fr (· ∈ zQb s) w w':=
 h.app hz (m:=⟨some ⟨r,0,none⟩,1,1⟩) (news:=[b]) rfl (λj b' hj=>by
  cases j with
  | zero=>simp at hj;subst hj;exact⟨_,rfl,by rw[xZm,zQF hr];exact hc⟩
  | succ j=>simp at hj) (by simp;omega)
theorem zQe.box {w0 w:World} {r:Nat} {l:List UInt8} (hr:w.heap[r]?=some (.cells (l.map u8V).toArray 5)) (hz:w0.heap.size<=r) (hl:l.length<=140737488355328):zQe w0 w ⟨some ⟨r,0,none⟩,l.length,l.length⟩ l:=
 ⟨⟨by simp,.inr ⟨r,_,rfl,hr,Nat.le_refl _,by show l.length<=maxLen;unfold maxLen;omega,by simp,by simp[←List.map_take]⟩⟩,λb hb=>by simp[zQb]at hb;omega⟩
theorem zQe.cell {w0 w:World} {s:SV} {l:List UInt8} (h:zQe w0 w s l) {j:Nat} {b:UInt8} (hj:l[j]?=some b):∃a,s.a=some a/\w.cell? (a.add j)=some (u8V b):=by
 obtain⟨a,h1,h2,_⟩:=h.1.cell (j:=j) (v:=u8V b) (by rw[List.getElem?_map,hj];rfl)
 exact⟨a,h1,h2⟩
def zWZ(n k:Nat):List UInt8:=(List.range k).map λj=>UInt8.ofNat (n / 256 ^ j % 256)
theorem zXe(n k:Nat):(zWZ n k).length=k:=by simp[zWZ]
theorem yXb(n k:Nat):zWZ n (k+1)=zWZ n k ++ [UInt8.ofNat (n / 256 ^ k % 256)]:=by simp[zWZ,List.range_succ]
theorem zYe(n:Nat):zZj (n:Int)=UInt8.ofNat (n % 256):=by
 unfold zZj;congr 1
theorem xXq(n k:Nat)(hk:k<=8)(w:World):Calls prog 202 #[.int .i64 (n:Int),.int .i64 (k:Int)] w λe w'=>∃s:SV,e=.returned (.slice s.a s.len s.cap)/\zQe w w' s (zWZ n k)/\Pu w w':=by
 refine yWf _ _ w _ ?_
 refine zQ0 k (λj t w'=>t.1=((n / 256 ^ j:Nat):Int)/\t.2.2=(j:Int)/\zQe w w' t.2.1 (zWZ n j)/\Pu w w') ⟨by simp,rfl,zQe.nil w w,Pu.refl _⟩ ?_
 rintro j J ⟨t1,t2,t3⟩ w2 hj ⟨h1,h3,hr,hp⟩ hJ
 obtain rfl:t1=((n / 256 ^ j:Nat):Int):=h1
 obtain rfl:t3=(j:Int):=h3
 have hr:zQe w w2 t2 (zWZ n j):=hr
 dsimp only
 refine Br.of (λd=>?_) (λd=>?_)
 ·have jH:j<k:=by have:=zQk d;omega
  refine alB λw3 aA bo=>?_
  have hz:w.heap.size<=w3.heap.size:=(hp.trans aA).size
  obtain⟨s',w4,e4,yW,iv⟩:=(hr.pu aA).one hz (b:=zZj ((n / 256 ^ j:Nat):Int)) bo (by rw[zZU];rfl) (by rw[zXe];omega)
  refine⟨s',w4,e4,by omega,?_⟩
  rw[zQa (by omega) (by omega)]
  refine hJ _ _ jH ⟨?_,by dsimp only;omega,?_,(hp.trans aA).andNew iv λi hi=>hr.2 i hi⟩
  ·show Int.fdiv ((n / 256 ^ j:Nat):Int) (2 ^ 8)=_
   rw[Int.fdiv_eq_ediv_of_nonneg _ (by decide),Nat.pow_succ,←Nat.div_div_eq_div_mul]
   norm_cast
  ·dsimp only;rw[yXb,←zYe];exact yW
 ·have jH:j=k:=by have:=zQd d;omega
  subst jH
  exact⟨t2,rfl,hr,hp⟩
def zWE(k:Int):UInt8:=if k=1 then 76 else if k=2 then 78 else if k=3 then 68 else if k=4 then 67 else 77
def yVJ(b:Bool):UInt8:=if b then 1 else 0
def zQE(f:Fld):List UInt8:=f.name.data.toList ++ List.replicate (10 - f.name.size) 0 ++ [zWE f.kind,zZj f.width,yVJ f.null,0,0,0]
def zZO(t:Tbl):List UInt8:=[67,zZj t.page] ++ zWZ t.recs.length 4 ++ zWZ (13+16 * t.fields.length) 2 ++ zWZ (zX0 t.fields).toNat 2 ++ [zZj t.fields.length,0] ++ t.fields.flatMap zQE ++ [13]
theorem zQR{f:Fld}(h:zQn f=true):1<=f.name.size/\f.name.size<=10/\∃K,zQU f.kind=some K/\K.letter=((zWE f.kind).toNat:Nat):=by
 unfold zQn at h
 simp only[Bool.and_eq_true]at h
 obtain⟨hn,hk⟩:=h
 unfold zXV at hn
 simp only[Bool.and_eq_true,decide_eq_true_eq]at hn
 refine⟨hn.1.1.1,hn.1.1.2,?_⟩
 rcases zJo f.kind with⟨e,h1⟩|⟨e,h1⟩|⟨e,h1⟩|⟨e,h1⟩|⟨e,h1⟩|⟨h1,h2,h3,h4,h5,hh⟩
 ·exact⟨_,h1,by rw[e];rfl⟩
 ·exact⟨_,h1,by rw[e];rfl⟩
 ·exact⟨_,h1,by rw[e];rfl⟩
 ·exact⟨_,h1,by rw[e];rfl⟩
 ·exact⟨_,h1,by rw[e];rfl⟩
 ·rw[zY3 (by rw[hh];rfl)]at hk;cases hk
theorem zXW{f:Fld}(h:f.name.size<=10):(zQE f).length=16:=by
 unfold zQE;simp only[List.length_append,List.length_replicate,zQy,List.length_cons,List.length_nil];omega
theorem yQL(n:Nat)(hn:n<=1000000)(w:World):Calls prog 159 #[.int .i64 (n:Int)] w λe w'=>e=.returned (.int .i64 ((13+16 * n:Nat):Int))/\Pu w w':=by
 refine yJO _ w _ ⟨?_,Pu.refl w⟩
 rw[zQa (n:=16 * (n:Int)) (by omega) (by omega),zQa (by omega) (by omega)];norm_cast
theorem u123:prog.underlying 227=some (.array 16 5):=by kernel_rfl
theorem xQQ(r:Nat)(w:World):(Instr.sliceAt 227 (.pointer (some (⟨r,0,none⟩:Addr))) none (some (.int .i64 10)) (some (.int .i64 10))).run prog w=.ok (.slice (some ⟨r,0,none⟩) 10 10) w:=by
 have hs:(sizeOf 5).run prog w=.ok 1 w:=Tryz.sizeOf5 w
 simp[Instr.sliceAt,zQl u123,Instr.sureAddr,hs,Instr.sliceBounds,Instr.sliceBound,asIntOf,Addr.add]
end Go.Proofs.YtaeecpjhfmcliaaGreatDoor
/- Table: the program's header of a table. No condition. -/
namespace Go.Proofs.YtaeecpjhfmcliaaGreatDoor
open Go.Sh Go.RowKit Tryz
def xZ4(R:Rt)(r1 cC:Nat)(bN:SV)(ds:Ds)(bX:World):Prop:=
 ∃de:SV,∃dQ:World,(Builtin.append_ #[22,22] 22 #[.slice (some ⟨cC,0,none⟩) 2 2,.slice bN.a bN.len bN.cap]).run prog bX=.ok (.slice de.a de.len de.cap) dQ/\
 ∃cJ:SV,dQ.cell? ((⟨r1,0,none⟩:Addr).add 1)=some (.slice cJ.a cJ.len cJ.cap)/\
 Calls prog 159 #[.int .i64 ((cJ.len:Nat):Int)] dQ λe dM=>
 ∃iQ:Int,e=.returned (.int .i64 iQ)/\
 Calls prog 202 #[.int .i64 iQ,.int .i64 2] dM λe dP=>
 ∃cQ:SV,e=.returned (.slice cQ.a cQ.len cQ.cap)/\
 ∃cI:SV,∃gK:World,(Builtin.append_ #[22,22] 22 #[.slice de.a de.len de.cap,.slice cQ.a cQ.len cQ.cap]).run prog dP=.ok (.slice cI.a cI.len cI.cap) gK/\
 ∃cZ:SV,gK.cell? ((⟨r1,0,none⟩:Addr).add 1)=some (.slice cZ.a cZ.len cZ.cap)/\
 Calls prog 161 #[.slice cZ.a cZ.len cZ.cap] gK λe fy=>
 ∃bE:Int,e=.returned (.int .i64 bE)/\
 Calls prog 202 #[.int .i64 bE,.int .i64 2] fy λe gR=>
 ∃bG:SV,e=.returned (.slice bG.a bG.len bG.cap)/\
 ∃dY:SV,∃df:World,(Builtin.append_ #[22,22] 22 #[.slice cI.a cI.len cI.cap,.slice bG.a bG.len bG.cap]).run prog gR=.ok (.slice dY.a dY.len dY.cap) df/\
 ∃fL:SV,df.cell? ((⟨r1,0,none⟩:Addr).add 1)=some (.slice fL.a fL.len fL.cap)/\
 alE (.cells #[.int .u8 (IntKind.u8.wrap ((fL.len:Nat):Int)),.int .u8 0] 5) df λtC gI=>
 ∃iC:SV,∃hM:World,(Builtin.append_ #[22,22] 22 #[.slice dY.a dY.len dY.cap,.slice (some ⟨tC,0,none⟩) 2 2]).run prog gI=.ok (.slice iC.a iC.len iC.cap) hM/\
 ∃dK:SV,hM.cell? ((⟨r1,0,none⟩:Addr).add 1)=some (.slice dK.a dK.len dK.cap)/\
 yXl R iC dK ((dK.len:Nat):Int) 0 ds hM
theorem yXr {l:List Fld} {k:Nat} {f:Fld} (h:l[k]?=some f):(l.take (k+1)).flatMap zQE=(l.take k).flatMap zQE ++ zQE f:=by
 rw[zQ8 h,List.flatMap_append];simp
theorem yKs{l:List Fld}(h:∀f ∈ l,f.name.size<=10):(l.flatMap zQE).length<=16 * l.length:=by
 induction l with
 | nil=>simp
 | cons f l ih=>
  rw[List.flatMap_cons,List.length_append,zXW (h f (by simp)),List.length_cons]
  have:=ih λg hg=>h g (by simp[hg])
  omega
theorem yQa(l:List UInt8):Lib.byteCells l=l.map u8V:=rfl
def yVe(n:Nat):List Value:=List.replicate n (.int .u8 0)
def zZq(s:ByteArray)(a b c:Value):Array Value:=(s.data.toList.map u8V ++ (List.replicate (10 - s.size) 0).map u8V ++ [a,b,c,.int .u8 0,.int .u8 0,.int .u8 0]).toArray
theorem yZa{s:ByteArray}(h:s.size<=10)(a b c:Value):(zZq s a b c).size=16:=by
 unfold zZq;simp only[List.size_toArray,List.length_append,List.length_map,zQy,List.length_replicate,List.length_cons,List.length_nil];omega
theorem yXm{s:ByteArray}(h:s.size<=10)(a b c v:Value):(zZq s a b c).setIfInBounds 10 v=zZq s v b c:=by
 unfold zZq
 apply Array.toList_inj.1
 rw[Array.toList_setIfInBounds]
 simp only
 rw[List.set_append_right _ _ (by simp only[List.length_append,List.length_map,zQy,List.length_replicate];omega)]
 simp only[List.length_append,List.length_map,zQy,List.length_replicate]
 rw[show 10 - (s.size+(10 - s.size))=0 by omega];rfl
theorem yXE{s:ByteArray}(h:s.size<=10)(a b c v:Value):(zZq s a b c).setIfInBounds 11 v=zZq s a v c:=by
 unfold zZq
 apply Array.toList_inj.1
 rw[Array.toList_setIfInBounds]
 simp only
 rw[List.set_append_right _ _ (by simp only[List.length_append,List.length_map,zQy,List.length_replicate];omega)]
 simp only[List.length_append,List.length_map,zQy,List.length_replicate]
 rw[show 11 - (s.size+(10 - s.size))=1 by omega];rfl
theorem yXj{s:ByteArray}(h:s.size<=10)(a b c v:Value):(zZq s a b c).setIfInBounds 12 v=zZq s a b v:=by
 unfold zZq
 apply Array.toList_inj.1
 rw[Array.toList_setIfInBounds]
 simp only
 rw[List.set_append_right _ _ (by simp only[List.length_append,List.length_map,zQy,List.length_replicate];omega)]
 simp only[List.length_append,List.length_map,zQy,List.length_replicate]
 rw[show 12 - (s.size+(10 - s.size))=2 by omega];rfl
theorem zWG(f:Fld):zZq f.name (u8V (zWE f.kind)) (u8V (zZj f.width)) (u8V (yVJ f.null))=((zQE f).map u8V).toArray:=by
 unfold zZq zQE
 simp only[List.map_append,List.map_cons,List.map_nil];rfl
theorem yYs {w:World} {r:Nat} {s:ByteArray} (hb:w.heap[r]?=some (.cells (yVe 16).toArray 227)) (hs:s.size<=10) :
  ∃(n:Int) (w':World),(Builtin.copy_ #[22,9] 3 #[.slice (some ⟨r,0,none⟩) 10 10,.string s]).run prog w=.ok (.int .i64 n) w'/\w'.heap[r]?=some (.cells (zZq s (.int .u8 0) (.int .u8 0) (.int .u8 0)) 227)/\Fr (·=r) w w':=by
 have h:=Lib.run_copy_row_string (P:=prog) w 22 9 3 5 r 0 10 10 s (yVe 16).toArray 227 u37 (by have:=yWs;simp only[Option.map_eq_some_iff]at *;obtain⟨i,h1,h2⟩:=this;exact⟨i,h1,by simp at h2;exact h2.2.1⟩) hb (by omega) (by simp[yVe];omega)
 refine⟨_,_,h,?_,?_⟩
 ·rw[setRow_heap w r _ _ 227 (0,0) hb]
  congr 2
  unfold zZq
  rw[yQa]
  simp only[List.take_zero,List.nil_append,Nat.zero_add,yVe]
  rw[List.drop_replicate]
  apply Array.toList_inj.1
  simp only[List.append_assoc]
  congr 1
  have e:(List.replicate (10 - s.size) (0:UInt8)).map u8V=List.replicate (10 - s.size) (.int .u8 0):=by rw[List.map_replicate];rfl
  rw[e,show 16 - s.size=(10 - s.size)+6 by omega,←List.replicate_append_replicate];rfl
 ·exact⟨rfl,rfl,rfl,by simp,λk _ hk=>setRow_other w r k _ hk⟩
theorem yW7{ww w0 w:World}(hww:Pu ww w0){s l:SV}{fs:List Fld}{acc:List UInt8}(hz:w0.heap.size<=w.heap.size)(hp0:Pu w0 w)(h:zXF w0 s fs)(hr:zQe w0 w l acc)(hall:fs.all zQn=true)(hn:fs.length<=16)(ha:acc.length<=100) :
  yXl (λe w'=>∃q:SV,e=.returned (.slice q.a q.len q.cap)/\zQe ww w' q (acc ++ fs.flatMap zQE ++ [13])/\Pu ww w') l s ((s.len:Nat):Int) 0 [] w:=by
 have hlen:=h.len
 have gb:∀f ∈ fs,f.name.size<=10:=λf hf=>(zQR (List.all_eq_true.1 hall f hf)).2.1
 refine zQ0 fs.length (λk t w'=>t.2=(k:Int)/\zQe w0 w' t.1 (acc ++ (fs.take k).flatMap zQE)/\Pu w0 w') ⟨rfl,by simpa using hr,hp0⟩ ?_
 rintro k J ⟨t1,t2⟩ w2 hk ⟨h2,iN,ar⟩ hJ
 obtain rfl:t2=(k:Int):=h2
 have iN:zQe w0 w2 t1 (acc ++ (fs.take k).flatMap zQE):=iN
 have hfl:=yKs (l:=fs.take k) λf hf=>gb f (List.mem_of_mem_take hf)
 have htl:=List.length_take_le k fs
 dsimp only
 refine Br.of (λd=>?_) (λd=>?_)
 ·have aG:k<fs.length:=by have:=zQk d;omega
  obtain⟨f,hf⟩:=zQZ aG
  have hfB:=List.all_eq_true.1 hall f (List.mem_of_getElem? hf)
  obtain⟨f1,f10,K,hK,hKl⟩:=zQR hfB
  obtain⟨a,ha',hi,_,_,_,c0,c1,c2,c3⟩:=zJw (h.pu ar) hf
  refine⟨a,ha',by omega,by omega,_,c0,_,c1,_,c2,_,c3,zYt rfl s23.symm rfl λw3 aA ng bo=>alB λw4 aJ cA=>zQf λw5 aV hh5=>?_⟩
  have uU:=(aJ.trans aV).blk bo
  have yX:w5.heap[w3.heap.size]?=some (.cells (yVe 16).toArray 227):=aV.blk cA
  have hlt:w2.heap.size<w3.heap.size:=zQz bo
  have cV:Pu w0 w5:=((ar.trans aA).trans aJ).trans aV
  refine⟨λu=>u=w5,rfl,f.name,λu hu=>by subst hu;exact cl0 uU,⟨some ⟨w3.heap.size,0,none⟩,10,10⟩,w5,xQQ _ w5,rfl,?_⟩
  obtain⟨n,w6,e6,gi,gN⟩:=yYs yX f10
  refine⟨n,w6,e6,zQf λw7 cK hh7=>?_⟩
  have uV:=cK.blk (gN.blk uU (show ¬w2.heap.size=w3.heap.size by omega))
  have uW:=cK.blk gi
  have mc:zQe w0 w7 t1 (acc ++ (fs.take k).flatMap zQE):=((((iN.pu aA).pu aJ).pu aV).fr gN λb hb e=>by
   have aN:=iN.1.lt b hb
   have e:b=w3.heap.size:=e
   omega).pu cK
  have iO:Pu w0 w7:=(cV.andNew gN λi hi=>by have hi:i=w3.heap.size:=hi;have:=ar.size;omega).trans cK
  refine⟨λu=>u.heap[w2.heap.size]?=some (.cells #[.string f.name,.int .i64 f.kind,.int .i64 f.width,.bool f.null] 129),uV,f.kind,λu hu=>cl hu 1,f.width,λu hu=>cl hu 2,(zW1 w7).mono ?_⟩
  rintro e w8 ⟨m,rfl,hm,wm,bM⟩
  have yY:=bM.blk uW
  have uX:=bM.blk uV
  have hsz:∀a b c,(zZq f.name a b c).size=16:=yZa f10
  have z3:w3.heap.size<w7.heap.size:=zQz uW
  refine⟨some m,rfl,λu=>u.heap[w2.heap.size]?=some (.cells #[.string f.name,.int .i64 f.kind,.int .i64 f.width,.bool f.null] 129)/\zXv u xQq zV0 m zXQ,⟨uX,hm⟩,λu hu=>hu.1,K.letter,K.least,K.most,.func (.func K.wr) #[] #[],.func (.func K.rd) #[] #[],λu hu=>?_,by omega,by omega,?_⟩
  ·have:=zKP hu.2 f.kind false
   rw[hK]at this;exact this
  ·show st1 ((⟨w3.heap.size,0,none⟩:Addr).add 10) _ w8 _
   rw[zQr,Nat.zero_add]
   refine zQw yY (by rw[hsz];omega) λw9 wo kH=>?_
   have mG:Fr (·=w3.heap.size) w8 w9:=by rw[wo];exact Fr.cell w8 _ 10 _
   rw[yXm f10,hKl]at kH
   have uY:=mG.blk uX (show ¬w2.heap.size=w3.heap.size by omega)
   refine⟨λu=>u.heap[w2.heap.size]?=some (.cells #[.string f.name,.int .i64 f.kind,.int .i64 f.width,.bool f.null] 129)/\zXv u xQq zV0 m zXQ,⟨uY,hm.fr mG (by omega)⟩,λu hu=>hu,by omega,by omega,?_⟩
   show st1 ((⟨w3.heap.size,0,none⟩:Addr).add 11) _ w9 _
   rw[zQr,Nat.zero_add]
   refine zQw kH (by rw[hsz];omega) λaU rL fJ=>?_
   have jR:Fr (·=w3.heap.size) w9 aU:=by rw[rL];exact Fr.cell w9 _ 11 _
   rw[yXE f10,zZU]at fJ
   have lY:=jR.blk uY (show ¬w2.heap.size=w3.heap.size by omega)
   -- behind the last store
   have fin:∀{aT:World},Fr (·=w3.heap.size) aU aT->aT.heap[w3.heap.size]?=some (.cells ((zQE f).map u8V).toArray 227)->
     ∃iA:SV,∃aX:World,(Builtin.append_ #[22,22] 22 #[.slice t1.a t1.len t1.cap,.slice (some (if 16=0 then(⟨w3.heap.size,0,none⟩:Addr)else(⟨w3.heap.size,0,none⟩:Addr).add (0 * 1))) (16 - 0) (16 - 0)]).run prog aT=.ok (.slice iA.a iA.len iA.cap) aX/\J (iA,(IntKind.i64.wrap ((k:Int)+1))) aX:=λ{aT} jT fV=>by
    have hfa:Fr (·=w3.heap.size) w8 aT:=(mG.trans jR λ_ h _=>h).trans jT λ_ h _=>h
    have nn:zQe w0 aT t1 (acc ++ (fs.take k).flatMap zQE):=(mc.pu bM).fr hfa λb hb e=>by
     have aN:=iN.1.lt b hb
     have e:b=w3.heap.size:=e
     omega
    have qW:Pu w0 aT:=(iO.trans bM).andNew hfa λi hi=>by have hi:i=w3.heap.size:=hi;have:=ar.size;omega
    obtain⟨s',aX,e12,yZ,iP⟩:=nn.app qW.size (m:=⟨some ⟨w3.heap.size,0,none⟩,16,16⟩) (news:=zQE f) (zXW f10).symm (λj b hj=>⟨_,rfl,by rw[zQr,zQF fV,Nat.zero_add];simp[hj]⟩) (by rw[zXW f10];simp only[List.length_append];omega)
    refine⟨s',aX,e12,?_⟩
    rw[zQa (by omega) (by omega)]
    refine hJ _ _ aG ⟨by dsimp only;omega,?_,qW.andNew iP λi hi=>nn.2 i hi⟩
    rw[yXr hf,←List.append_assoc];exact yZ
   refine⟨_,cl lY 3,Br.of (λd1=>⟨by omega,by omega,?_⟩) (λd1=>⟨by omega,by omega,fin (Fr.refl _ _) ?_⟩)⟩
   ·show st1 ((⟨w3.heap.size,0,none⟩:Addr).add 12) _ aU _
    rw[zQr,Nat.zero_add]
    refine zQw fJ (by rw[hsz];omega) λaT y2 fV=>⟨by omega,by omega,fin (by rw[y2];exact Fr.cell aU _ 12 _) ?_⟩
    rw[yXj f10]at fV
    rw[←zWG,d1];exact fV
   ·rw[←zWG,d1];exact fJ
 ·have aG:k=fs.length:=by have:=zQd d;omega
  subst aG
  rw[List.take_length]at iN hfl
  refine alB λw3 aA bo=>?_
  obtain⟨s',w4,e4,yW,iv⟩:=(iN.pu aA).one (ar.trans aA).size (b:=13) bo rfl (by simp only[List.length_append];omega)
  exact⟨s',w4,e4,s',rfl,yW.low hww.size,hww.trans ((ar.trans aA).andNew iv λi hi=>iN.2 i hi)⟩
theorem xQR {ww w0 bX:World} (hww:Pu ww w0) {t:Tbl} {f r bN:SV} {r1 cC:Nat} (h:zXD w0 t f r) (hvf:zQG t.fields=0) (hrl:t.recs.length<=1000000) (hp:Pu w0 bX) (aE:w0.heap[r1]?=some (.cells #[.int .i64 t.page,.slice f.a f.len f.cap,.slice r.a r.len r.cap] 35)) (nA:w0.heap.size<=cC)
  (fJ:bX.heap[cC]?=some (.cells #[.int .u8 67,.int .u8 (IntKind.u8.wrap t.page)] 5)) (hl:zQe w0 bX bN (zWZ t.recs.length 4)) :
  xZ4 (λe w'=>∃q:SV,e=.returned (.slice q.a q.len q.cap)/\zQe ww w' q (zZO t)/\Pu ww w') r1 cC bN [] bX:=by
 obtain⟨hne0,hall,hnd,y3,hw⟩:=zXf hvf
 have hfl:=h.fields.len
 rw[zZU]at fJ
 have box:zQe w0 bX ⟨some ⟨cC,0,none⟩,2,2⟩ [67,zZj t.page]:=zQe.box (l:=[67,zZj t.page]) fJ nA (by simp)
 obtain⟨de,dQ,e22,yR,f22⟩:=box.app hp.size (m:=bN) (news:=zWZ t.recs.length 4) hl.len (λj b hj=>hl.cell hj) (by rw[zXe];simp)
 have uZ:Pu w0 dQ:=hp.andNew f22 λi hi=>box.2 i hi
 refine⟨de,dQ,e22,f,cl (uZ.blk aE) 1,?_⟩
 rw[hfl]
 refine(yQL t.fields.length (by omega) dQ).mono ?_
 rintro e dM ⟨rfl,kI⟩
 refine⟨_,rfl,(xXq (13+16 * t.fields.length) 2 (by omega) dM).mono ?_⟩
 rintro e dP ⟨cQ,rfl,wj,eI⟩
 have qX:=uZ.trans (kI.trans eI)
 have u0:=yR.pu (kI.trans eI)
 obtain⟨cI,gK,e25,r22,f25⟩:=u0.app qX.size (m:=cQ) (news:=zWZ (13+16 * t.fields.length) 2) wj.len (λj b hj=>wj.cell hj) (by simp only[List.length_append,zXe];simp)
 have jQ:Pu w0 gK:=qX.andNew f25 λi hi=>u0.2 i hi
 refine⟨cQ,rfl,cI,gK,e25,f,cl (jQ.blk aE) 1,(zVo (h.fields.pu jQ) (WOk.of hall)).mono ?_⟩
 rintro e fy ⟨rfl,u6⟩
 have hs:=zZD (WOk.of hall)
 have qY:zX0 t.fields=((zX0 t.fields).toNat:Int):=by unfold zX0 at *;omega
 refine⟨_,rfl,?_⟩
 rw[show(Value.int .i64 (zX0 t.fields))=.int .i64 (((zX0 t.fields).toNat:Nat):Int)by rw[←qY]]
 refine(xXq (zX0 t.fields).toNat 2 (by omega) fy).mono ?_
 rintro e gR ⟨bG,rfl,r27,u7⟩
 have qZ:=jQ.trans (u6.trans u7)
 have vc:=r22.pu (u6.trans u7)
 obtain⟨dY,df,e28,r28,f28⟩:=vc.app qZ.size (m:=bG) (news:=zWZ (zX0 t.fields).toNat 2) r27.len (λj b hj=>r27.cell hj) (by simp only[List.length_append,zXe];simp)
 have ms:Pu w0 df:=qZ.andNew f28 λi hi=>vc.2 i hi
 refine⟨bG,rfl,dY,df,e28,f,cl (ms.blk aE) 1,alB λgI mt vd=>?_⟩
 rw[zZU,hfl]at vd
 have re:=ms.trans mt
 have y4:zQe w0 gI ⟨some ⟨df.heap.size,0,none⟩,2,2⟩ [zZj (t.fields.length:Int),0]:=zQe.box (l:=[zZj (t.fields.length:Int),0]) vd ms.size (by simp)
 have ve:=r28.pu mt
 obtain⟨iC,hM,e30,r35,f30⟩:=ve.app re.size (m:=⟨some ⟨df.heap.size,0,none⟩,2,2⟩) (news:=[zZj (t.fields.length:Int),0]) rfl (λj b hj=>y4.cell hj) (by simp only[List.length_append,zXe];simp)
 have rP:Pu w0 hM:=re.andNew f30 λi hi=>ve.2 i hi
 refine⟨iC,hM,e30,f,cl (rP.blk aE) 1,?_⟩
 exact yW7 hww rP.size rP h.fields r35 hall y3 (by simp only[List.length_append,zXe,List.length_cons,List.length_nil];omega)
theorem yJg{w:World}{t:Tbl}{f r:SV}(h:zXD w t f r)(hvf:zQG t.fields=0)(hrl:t.recs.length<=1000000):Calls prog 157 #[zYj t f r] w λe w'=>∃q:SV,e=.returned (.slice q.a q.len q.cap)/\zQe w w' q (zZO t)/\Pu w w':=by
 refine yK4 _ _ _ w _ ?_
 refine alB λw1 ax aE=>zQf λw2 ar hh2=>?_
 have cT:=ax.trans ar
 have aN:=ar.blk aE
 have hrlen:=h.recs.len
 have z1:=cT.size
 have up:∀{bX cC bN},Pu w2 bX->w2.heap.size<=cC->bX.heap[cC]?=some (.cells #[.int .u8 67,.int .u8 (IntKind.u8.wrap t.page)] 5)->zQe w2 bX bN (zWZ t.recs.length 4)->
   xZ4 (λe w'=>∃q:SV,e=.returned (.slice q.a q.len q.cap)/\zQe w w' q (zZO t)/\Pu w w') w.heap.size cC bN [] bX:=λ{bX cC bN} q1 q2 q3 q4=>by
  exact xQR cT (h.pu cT) hvf hrl q1 aN q2 q3 q4
 refine⟨λu=>Pu w2 u,Pu.refl _,t.page,λu hu=>cl0 (hu.blk aN),r,λu hu=>cl (hu.blk aN) 2,?_⟩
 rw[hrlen]
 constructor
 ·refine alB λcP ir y5=>⟨ir,(xXq t.recs.length 4 (by omega) cP).mono ?_⟩
  rintro e bX ⟨bN,rfl,aI,np⟩
  exact⟨bN,rfl,ir.trans np,up (ir.trans np) (Nat.le_refl _) (np.blk y5) (aI.low ir.size)⟩
 ·refine(xXq t.recs.length 4 (by omega) w2).mono ?_
  rintro e fX ⟨bN,rfl,aI,kJ⟩
  refine⟨bN,rfl,kJ,alB λfY rQ y6=>⟨kJ.trans rQ,up (kJ.trans rQ) kJ.size y6 (aI.pu rQ)⟩⟩
theorem zKl{t:Tbl}(h:zQi t=0):zQT t.page=true/\zQG t.fields=0/\t.recs.length<=300/\zXr t.fields t.page t.recs=0:=by
 unfold zQi at h
 split at h
 ·rename_i hp
  split at h
  ·omega
  ·rename_i hf
   split at h
   ·omega
   ·rename_i hr
    exact⟨hp,by omega,by omega,h⟩
 ·omega
theorem yYR{w:World}{t:Tbl}{f r:SV}(h:zXD w t f r)(hl:Lim.ok t.fields):Calls prog 165 #[zYj t f r] w λe w'=>∃q:SV,e=.returned (.tuple #[.slice q.a q.len q.cap,.int .i64 (zQi t)])/\zQe w w' q (if zQi t=0 then zZO t else [])/\Pu w w':=by
 refine yWt _ _ _ w _ ?_
 refine alB λw1 ax aE=>⟨_,cl aE 0,_,cl aE 1,_,cl aE 2,(zZu (h.pu ax) hl).mono ?_⟩
 rintro e w2 ⟨rfl,ar⟩
 have cT:=ax.trans ar
 refine⟨_,rfl,Br.of (λd=>⟨⟨none,0,0⟩,rfl,by rw[if_neg (zQ5 d)];exact zQe.nil w w2,cT⟩) (λd=>⟨_,cl (ar.blk aE) 0,_,cl (ar.blk aE) 1,_,cl (ar.blk aE) 2,?_⟩)⟩
 have d:=zQs d
 obtain⟨h1,h2,h3,_⟩:=zKl d
 refine(yJg (h.pu cT) h2 (by omega)).mono ?_
 rintro e w3 ⟨q,rfl,hq,aA⟩
 exact⟨q,rfl,q,by rw[d],by rw[if_pos d];exact hq.low cT.size,cT.trans aA⟩
end Go.Proofs.YtaeecpjhfmcliaaGreatDoor
/- Table: the null flags of a record, as bytes. No condition. -/
namespace Go.Proofs.YtaeecpjhfmcliaaGreatDoor
open Go.Sh Go.RowKit Tryz
def zJ2(bs:List Bool)(i j:Nat):Nat:=if bs[8 * i+j]?=some true then 2 ^ j else 0
def zXT(bs:List Bool)(i:Nat):Nat:=zJ2 bs i 0+zJ2 bs i 1+zJ2 bs i 2+zJ2 bs i 3+zJ2 bs i 4+zJ2 bs i 5+zJ2 bs i 6+zJ2 bs i 7
def flN(N:Nat)(bs:List Bool):List UInt8:=(List.range N).map λi=>UInt8.ofNat (zXT bs i)
theorem zW6(N:Nat)(bs:List Bool):(flN N bs).length=N:=by simp[flN]
theorem xKW(N:Nat):flN N []=List.replicate N 0:=by
 unfold flN
 apply List.ext_getElem?
 intro i
 simp only[List.getElem?_map,List.getElem?_replicate]
 by_cases h:i<N
 ·rw[List.getElem?_range h,if_pos h];rfl
 ·rw[if_neg h,List.getElem?_eq_none (by simp;omega)];rfl
theorem zYm(bs:List Bool)(k:Nat):((bs ++ [false])[k]?=some true) ↔ (bs[k]?=some true):=by
 rcases Nat.lt_trichotomy k bs.length with h|h|h
 ·rw[List.getElem?_append_left h]
 ·subst h;simp
 ·rw[List.getElem?_eq_none (by simp;omega),List.getElem?_eq_none (by omega)]
theorem zJa(bs:List Bool)(k:Nat):((bs ++ [true])[k]?=some true) ↔ (bs[k]?=some true∨k=bs.length):=by
 rcases Nat.lt_trichotomy k bs.length with h|h|h
 ·rw[List.getElem?_append_left h];constructor
  ·exact .inl
  ·rintro(h1|h1)
   ·exact h1
   ·omega
 ·subst h;simp
 ·rw[List.getElem?_eq_none (by simp;omega),List.getElem?_eq_none (by omega)];simp;omega
theorem yYT(N:Nat)(bs:List Bool):flN N (bs ++ [false])=flN N bs:=by
 unfold flN zXT zJ2
 simp only[zYm]
theorem zXB{bs:List Bool}{q r:Nat}(hm:bs.length=8 * q+r)(hr:r<8)(i j:Nat)(hj:j<8):zJ2 (bs ++ [true]) i j=zJ2 bs i j+(if i=q/\j=r then 2 ^ j else 0):=by
 unfold zJ2
 by_cases h:8 * i+j=bs.length
 ·have h1:i=q/\j=r:=by omega
  have h2:¬bs[8 * i+j]?=some true:=by rw[List.getElem?_eq_none (by omega)];simp
  rw[if_pos ((zJa _ _).2 (.inr h)),if_neg h2,if_pos h1];omega
 ·have h1:¬(i=q/\j=r):=by omega
  rw[if_neg h1,Nat.add_zero]
  by_cases h2:bs[8 * i+j]?=some true
  ·rw[if_pos ((zJa _ _).2 (.inl h2)),if_pos h2]
  ·rw[if_neg (λh3=>((zJa _ _).1 h3).elim h2 h),if_neg h2]
theorem yZm{bs:List Bool}{q r:Nat}(hm:bs.length=8 * q+r)(hr:r<8)(i:Nat):zXT (bs ++ [true]) i=zXT bs i+(if i=q then 2 ^ r else 0):=by
 unfold zXT
 rw[zXB hm hr i 0 (by omega),zXB hm hr i 1 (by omega),zXB hm hr i 2 (by omega),zXB hm hr i 3 (by omega),zXB hm hr i 4 (by omega),zXB hm hr i 5 (by omega),zXB hm hr i 6 (by omega),zXB hm hr i 7 (by omega)]
 by_cases h:i=q
 ·simp only[h,true_and,if_true]
  rcases(by omega:r=0∨r=1∨r=2∨r=3∨r=4∨r=5∨r=6∨r=7)with rfl|rfl|rfl|rfl|rfl|rfl|rfl|rfl <;> simp <;> omega
 ·simp[h]
theorem zJg(bs:List Bool)(i j:Nat):zJ2 bs i j<=2 ^ j:=by
 unfold zJ2;split
 ·exact Nat.le_refl _
 ·exact Nat.zero_le _
theorem yKc{bs:List Bool}{q r j:Nat}(hm:bs.length=8 * q+r)(hj:r<=j):zJ2 bs q j=0:=by
 unfold zJ2;rw[if_neg];rw[List.getElem?_eq_none (by omega)];simp
theorem xQa{bs:List Bool}{q r:Nat}(hm:bs.length=8 * q+r)(hr:r<8):zXT bs q<2 ^ r:=by
 have z:∀j,r<=j->zJ2 bs q j=0:=λj hj=>yKc hm hj
 have l0:=zJg bs q 0
 have l1:=zJg bs q 1
 have l2:=zJg bs q 2
 have l3:=zJg bs q 3
 have l4:=zJg bs q 4
 have l5:=zJg bs q 5
 have l6:=zJg bs q 6
 unfold zXT
 rcases(by omega:r=0∨r=1∨r=2∨r=3∨r=4∨r=5∨r=6∨r=7)with rfl|rfl|rfl|rfl|rfl|rfl|rfl|rfl
 ·rw[z 0 (by omega),z 1 (by omega),z 2 (by omega),z 3 (by omega),z 4 (by omega),z 5 (by omega),z 6 (by omega),z 7 (by omega)];omega
 ·rw[z 1 (by omega),z 2 (by omega),z 3 (by omega),z 4 (by omega),z 5 (by omega),z 6 (by omega),z 7 (by omega)];omega
 ·rw[z 2 (by omega),z 3 (by omega),z 4 (by omega),z 5 (by omega),z 6 (by omega),z 7 (by omega)];omega
 ·rw[z 3 (by omega),z 4 (by omega),z 5 (by omega),z 6 (by omega),z 7 (by omega)];omega
 ·rw[z 4 (by omega),z 5 (by omega),z 6 (by omega),z 7 (by omega)];omega
 ·rw[z 5 (by omega),z 6 (by omega),z 7 (by omega)];omega
 ·rw[z 6 (by omega),z 7 (by omega)];omega
 ·rw[z 7 (by omega)];omega
theorem xQY{N:Nat}{bs:List Bool}{q r:Nat}(hm:bs.length=8 * q+r)(hr:r<8)(hq:q<N):flN N (bs ++ [true])=(flN N bs).set q (UInt8.ofNat (zXT bs q+2 ^ r)):=by
 apply List.ext_getElem?
 intro i
 rw[List.getElem?_set]
 unfold flN
 simp only[List.length_map,List.length_range,List.getElem?_map]
 by_cases hi:i<N
 ·rw[List.getElem?_range hi]
  simp only[Option.map_some,yZm hm hr]
  by_cases h:q=i
  ·subst h;rw[if_pos rfl,if_pos rfl,if_pos hi]
  ·rw[if_neg (λe=>h e.symm),if_neg h,Nat.add_zero]
 ·rw[List.getElem?_eq_none (by simp;omega)]
  by_cases h:q=i
  ·omega
  ·rw[if_neg h];rfl
theorem xXF{N:Nat}{bs:List Bool}{q:Nat}(hq:q<N):(flN N bs)[q]?=some (UInt8.ofNat (zXT bs q)):=by
 unfold flN;rw[List.getElem?_map,List.getElem?_range hq];rfl
theorem or_bit:∀r:Nat,r<8->∀x:Nat,x<2 ^ r->(BitVec.ofInt 8 (x:Int) ||| BitVec.ofInt 8 (IntKind.u8.wrap ((1:Int) * 2 ^ (min r 8)))).toNat=x+2 ^ r:=by decide +kernel
def zXi:List Fld->List Val->List Bool
 | [],_=>[]
 | _,[]=>[]
 | f :: fs,v :: vs=>if f.null then decide (v.kind=0) :: zXi fs vs else zXi fs vs
theorem zYG:∀{l:List Fld} {vs:List Val} {k:Nat} {f:Fld} {v:Val},l[k]?=some f->vs[k]?=some v->zXi (l.take (k+1)) (vs.take (k+1))=zXi (l.take k) (vs.take k) ++ (if f.null then [decide (v.kind=0)]else [])
 | [],_,_,_,_,h,_=>by simp at h
 | _ :: _,[],_,_,_,_,h=>by simp at h
 | a :: l,b :: vs,0,f,v,h,h2=>by
  simp at h h2;subst h h2
  simp only[List.take_succ_cons,List.take_zero,zXi]
  split <;> simp
 | a :: l,b :: vs,k+1,f,v,h,h2=>by
  have ih:=zYG (l:=l) (vs:=vs) (k:=k) (f:=f) (v:=v) (by simpa using h) (by simpa using h2)
  simp only[List.take_succ_cons,zXi]
  by_cases hn:a.null=true
  ·rw[if_pos hn,if_pos hn];rw[ih];rfl
  ·rw[if_neg hn,if_neg hn];exact ih
theorem zWa:∀(l:List Fld) (vs:List Val),(zXi l vs).length<=(l.filter (·.null)).length
 | [],_=>by simp[zXi]
 | _ :: _,[]=>by simp[zXi]
 | f :: l,v :: vs=>by
  have:=zWa l vs
  unfold zXi
  rw[List.filter_cons]
  by_cases hn:f.null=true
  ·rw[if_pos hn,if_pos hn];simp only[List.length_cons];omega
  ·rw[if_neg hn,if_neg hn];exact this
end Go.Proofs.YtaeecpjhfmcliaaGreatDoor
/- Table: the program's row of a record. No condition. -/
namespace Go.Proofs.YtaeecpjhfmcliaaGreatDoor
open Go.Sh Go.RowKit Tryz
def yZc (J1:(Int × Int)->World->Prop) (cC bU:Nat) (p7:Option Addr) (n8 cq:Int) (aT:World):Prop:=
 ∃mN:Int,aT.cell? (⟨bU,0,none⟩:Addr)=some (.int .i64 mN)/\
 Br (mN == 0) (
 ∃iT:Int,aT.cell? ((⟨cC,0,none⟩:Addr).add 2)=some (.int .i64 iT)/\
 Calls prog 155 #[.string (⟨#[32]⟩:ByteArray),.int .i64 iT] aT λe df=>
 ∃lB:ByteArray,e=.returned (.string lB)/\
 Calls prog 199 #[.pointer p7,.string lB] df λe gI=>
 ∃hZ:Int,∃ia:Value,e=.returned (.tuple #[.int .i64 hZ,ia])/\
 J1 (n8,(IntKind.i64.wrap (cq+1))) gI) (
 dwE aT λhM=>
 ∃S6:World->Prop,S6 hM/\
 ∃mO:Int,(∀w',S6 w'->w'.cell? ((⟨cC,0,none⟩:Addr).add 1)=some (.int .i64 mO))/\
 ∃d8:ByteArray,(∀w',S6 w'->w'.cell? ((⟨cC,0,none⟩:Addr).add 0)=some (.string d8))/\
 ∃eb:Int,(∀w',S6 w'->w'.cell? ((⟨cC,0,none⟩:Addr).add 1)=some (.int .i64 eb))/\
 ∃ed:Int,(∀w',S6 w'->w'.cell? ((⟨cC,0,none⟩:Addr).add 2)=some (.int .i64 ed))/\
 ∃eg:Bool,(∀w',S6 w'->w'.cell? ((⟨cC,0,none⟩:Addr).add 3)=some (.bool eg))/\
 ∃cE:Int,(∀w',S6 w'->w'.cell? ((⟨bU,0,none⟩:Addr).add 0)=some (.int .i64 cE))/\
 ∃ei:Int,(∀w',S6 w'->w'.cell? ((⟨bU,0,none⟩:Addr).add 1)=some (.int .i64 ei))/\
 ∃ej:ByteArray,(∀w',S6 w'->w'.cell? ((⟨bU,0,none⟩:Addr).add 2)=some (.string ej))/\
 Calls prog 145 #[] hM λe fX=>
 ∃mP:Option Nat,e=.returned (.map mP)/\
 ∃S7:World->Prop,S7 fX/\(∀u,S7 u->S6 u)/\
 ∃ib:Int,∃fE:Int,∃fF:Int,∃eo:Value,∃ic:Value,(∀w',S7 w'->(Instr.lookup 176 (.map mP) (.int .i64 mO) false).run prog w'=.ok (.agg #[.int .u8 ib,.int .i64 fE,.int .i64 fF,eo,ic]) w')/\
 fnE eo λf63 first63 ie=>
 zQv prog f63=true/\Calls prog f63 (first63.toList ++ (([.agg #[.string d8,.int .i64 eb,.int .i64 ed,.bool eg],.agg #[.int .i64 cE,.int .i64 ei,.string ej]]:List Value) ++ ie.toList)).toArray fX λe fY=>
 ∃mQ:ByteArray,e=.returned (.string mQ)/\
 Calls prog 199 #[.pointer p7,.string mQ] fY λe ga=>
 ∃ig:Int,∃ii:Value,e=.returned (.tuple #[.int .i64 ig,ii])/\
 J1 (n8,(IntKind.i64.wrap (cq+1))) ga)
theorem xXd{B:Nat}{w w':World}(h:Below B w w'):Fr (B<=·) w w':=⟨h.os,h.tape,h.output,h.size,λk _ hk=>h.block k (by omega)⟩
theorem yZL{T e:TypeId}{B b:Nat}{xs:List Value}{Bs:Nat->Prop}{w w':World}(h:Lib.IsBuilderF T e B b xs w)(hf:Fr Bs w w')(hn:∀i,B<=i->¬Bs i):Lib.IsBuilderF T e B b xs w':=by
 have one:∀{p},Lib.BuilderAtF T e B b p xs w->Lib.BuilderAtF T e B b p xs w':=by
  rintro p ⟨hB,v,hb,⟨hl,ho⟩,hne⟩
  refine⟨hB,v,hf.blk hb (hn b hB),⟨hl,?_⟩,hne⟩
  rcases ho with ho|⟨g,cap,cur,fz,h1,h2,h3,h4⟩
  ·exact .inl ho
  ·exact .inr ⟨g,cap,cur,fz,h1,h2,hf.blk h3 (hn g h2),h4⟩
 exact h.elim (λh=>.inl (one h)) (λh=>.inr (one h))
theorem xWv {w:World} {b:Nat} (hb:w.heap[b]?=some (.cells #[.pointer none,.slice none 0 0] 220)):Lib.IsBuilderF 220 5 b b (Lib.byteCells []) w:=
 .inl ⟨Nat.le_refl _,.slice none 0 0,hb,⟨rfl,.inl ⟨rfl,rfl⟩⟩,by simp[Value.ownBlock]⟩
theorem zKW {w:World} {B b:Nat} {acc:List UInt8} (s:List UInt8) (h:Lib.IsBuilderF 220 5 B b (Lib.byteCells acc) w) (hl:acc.length+s.length<=140737488355328) (hB:B<=w.heap.size) :
  Calls prog 199 #[.pointer (some ⟨b,0,none⟩),.string (bs s)] w λe w'=>e=.returned (.tuple #[.int .i64 (s.length:Nat),.nilIface])/\Lib.IsBuilderF 220 5 B b (Lib.byteCells (acc ++ s)) w'/\Below B w w':=by
 refine(Any.Builder_WriteString_k Tryz.lays166 Tryz.Builder_Extra_105 B b (Lib.byteCells acc) (bs s) w h (by rw[Lib.byteCells_length,zQ3];exact hl) hB).mono ?_
 rintro e w' ⟨rfl,h1,h2,_⟩
 refine⟨by rw[zQ3],?_,h2⟩
 have e1:Lib.byteCells (acc ++ s)=Lib.byteCells acc ++ Lib.strCells (bs s):=by
  unfold Lib.byteCells Lib.strCells;rw[List.map_append,zQH]
 rw[e1]
 exact .inr h1
theorem u157:prog.underlying 243=some (.pointer 5):=by kernel_rfl
theorem yYj(w:World)(g n:Nat):Fr (·=g) w (w.freeze ⟨g,0,none⟩ n):=by
 unfold World.freeze
 split
 ·exact Fr.refl _ _
 ·refine⟨rfl,rfl,rfl,by simp,λk _ hk=>?_⟩
  have hk:¬g=k:=λe=>hk e.symm
  simp only[Array.getElem?_modify,hk,if_false]
theorem zJ9 {w:World} {B b:Nat} {acc:List UInt8} (h:Lib.IsBuilderF 220 5 B b (Lib.byteCells acc) w) (h0:acc ≠ []):∃g cap,B<=g/\w.cell? ⟨b,1,none⟩=some (.slice (some ⟨g,0,none⟩) acc.length cap)/\g<w.heap.size/\
  Calls prog 201 #[.pointer (some ⟨b,0,none⟩)] w λe w'=>e=.returned (.string (bs acc))/\Fr (·=g) w w':=by
 obtain⟨p,hB,v,hb,⟨hl,ho⟩,hne⟩:∃p,Lib.BuilderAtF 220 5 B b p (Lib.byteCells acc) w:=h.elim (λh=>⟨_,h⟩) (λh=>⟨_,h⟩)
 rw[Lib.byteCells_length]at ho
 have hpos:0<acc.length:=List.length_pos_iff.2 h0
 rcases ho with⟨_,hz⟩|⟨g,cap,cur,fz,rfl,hg,hgb,hfz,hcap,hmx,hcs,htk⟩
 ·omega
 rw[Nat.mul_one]at hcs htk
 refine⟨g,cap,hg,by rw[zQF hb];rfl,zQz hgb,?_⟩
 refine yKm _ w _ (zQf λw1 ax hh1=>?_)
 have aE:w1.heap[b]?=some (.cells #[p,.slice (some ⟨g,0,none⟩) acc.length cap] 220 (0,0)):=ax.blk hb
 have vR:w1.heap[g]?=some (.cells cur 5 fz):=ax.blk hgb
 refine⟨λu=>u=w1,rfl,⟨some ⟨g,0,none⟩,acc.length,cap⟩,λu hu=>by subst hu;exact cl aE 1,⟨some ⟨g,0,none⟩,acc.length,cap⟩,λu hu=>by subst hu;exact cl aE 1,some ⟨g,0,none⟩,w1,Lib.run_unsafeSliceData_row _ _ _ _ _ _ (show cap ≠ 0 by omega),rfl,bs acc,w1.freeze ⟨g,0,none⟩ acc.length,?_,rfl,?_⟩
 ·refine Lib.run_unsafeString_row w1 243 3 9 5 u157 (by kernel_rfl) g cur.size (by simp[World.shape?,vR]) acc h0 (by omega) (by unfold maxLen at hmx;omega) λj x hx=>?_
  rw[zQr,zQF vR,Nat.zero_add]
  have h1:(cur.toList.take acc.length)[j]?=some (.int .u8 x.toNat):=by rw[htk];simp[Lib.byteCells,hx]
  rw[List.getElem?_take]at h1
  split at h1
  ·simpa using h1
  ·cases h1
 ·exact(Fr.pu ax:Fr (·=g) w w1).trans (yYj w1 g _) λ_ h _=>h
theorem zQe.str{w0 w:World}{s:SV}{l:List UInt8}(h:zQe w0 w s l)(hz:w0.heap.size<=w.heap.size)(news:List UInt8)(hb:l.length+news.length<=70368744177664) :
  ∃(s':SV) (w':World),(Builtin.append_ #[22,9] 22 #[.slice s.a s.len s.cap,.string (bs news)]).run prog w=.ok (.slice s'.a s'.len s'.cap) w'/\zQe w0 w' s' (l ++ news)/\Fr (· ∈ zQb s) w w':=by
 have h1:=h.len
 have hi:=yWs
 obtain⟨i,h2,h3,h4,h5⟩:=info_parts hi
 have own:w.ownsRow 0 5 1 (.slice s.a s.len s.cap) s.len (l.map u8V):=h.1.owns
 have om:w.ownsRow w0.heap.size 5 1 (.slice s.a s.len s.cap) s.len (l.map u8V):=by
  obtain⟨q1,q2⟩:=own
  refine⟨q1,?_⟩
  rcases q2 with q2|⟨g,cap,cur,q3,_,q4⟩
  ·exact .inl q2
  ·refine .inr ⟨g,cap,cur,q3,h.2 g ?_,q4⟩
   simp only[Value.slice.injEq]at q3
   simp[zQb,q3.1]
 obtain⟨v2,w2,iN,rf,hg,_⟩:=Lib.run_append_own_string (P:=prog) w w0.heap.size 22 9 22 5 i u37 u9 h2 h3 h4 h5 _ _ _ om (bs news) (by rw[zQ3];unfold maxLen;omega) (by rw[zQ3];omega) hz
 have hs:Lib.strCells (bs news)=news.map u8V:=by unfold Lib.strCells;rw[zQH];rfl
 rw[hs,←List.map_append]at rf
 have hfr:Fr (· ∈ zQb s) w w2:=⟨hg.os,hg.tape,hg.output,hg.size,λk hk hn=>hg.block k hk (λe=>hn (by
  cases ha:s.a with
  | none=>rw[ha]at e;simp[Value.ownBlock]at e
  | some a=>rw[ha]at e;simp only[Value.ownBlock,Option.some.injEq]at e;simp[zQb,ha,e]))⟩
 obtain⟨q1,q2⟩:=rf
 rcases q2 with⟨q2,q3⟩|⟨g,cap,cur,q2,q3,q4,q5,q6,q7,q8⟩
 ·refine⟨⟨none,0,0⟩,w2,by rw[iN,q2],⟨⟨by rw[q1,q3],.inl rfl⟩,by simp[zQb]⟩,hfr⟩
 ·exact⟨⟨some ⟨g,0,none⟩,s.len+(bs news).size,cap⟩,w2,by rw[iN,q2],⟨⟨q1,.inr ⟨g,cur,rfl,q4,q5,q6,q7,q8⟩⟩,λb hb=>by simp[zQb]at hb;omega⟩,hfr⟩
theorem zQe.app' {w0 w:World} {s m:SV} {l news:List UInt8} (h:zQe w0 w s l) (hz:w0.heap.size<=w.heap.size) (hl:m.len=news.length) (hn:∀(j:Nat) (b:UInt8),news[j]?=some b->∃a,m.a=some a/\w.cell? (a.add j)=some (u8V b)) (hb:l.length+news.length<=70368744177664) :
  ∃(s':SV) (w':World),(Builtin.append_ #[22,22] 22 #[.slice s.a s.len s.cap,.slice m.a m.len m.cap]).run prog w=.ok (.slice s'.a s'.len s'.cap) w'/\zQe w0 w' s' (l ++ news)/\Fr (· ∈ zQb s) w w'/\∀k ∈ zQb s',k ∈ zQb s∨w.heap.size<=k:=by
 have h1:=h.len
 obtain⟨s',w',hr,hrow,hf,hblk,_⟩:=zJF (P:=prog) (ty:=22) u37 yWs rfl h.1 (m:=m) (news:=news.map u8V) (by simpa using hl) (λj u hu=>by
  obtain⟨b,hb,rfl⟩:∃b,news[j]?=some b/\u8V b=u:=by simpa using hu
  exact hn j b hb) (λu hu=>by simp at hu;obtain⟨x,_,rfl⟩:=hu;rfl) (by omega)
 refine⟨s',w',hr,⟨by rw[List.map_append];exact hrow,λb hb=>?_⟩,hf,hblk⟩
 rcases hblk b hb with h2|h2
 ·exact h.2 b h2
 ·omega
def zVu(sh:Fld->Val->List UInt8)(f:Fld)(v:Val):List UInt8:=if v.kind=0 then List.replicate f.width.toNat 32 else sh f v
def yJr(sh:Fld->Val->List UInt8)(l:List Fld)(vs:List Val):Prop:=∀(i:Nat) f v,l[i]?=some f->vs[i]?=some v->v.kind ≠ 0->(sh f v).length<=1000/\∃K,zQU f.kind=some K/\zQv prog K.wr=true/\
 ∀w,Calls prog K.wr #[yQ9 f,zWt v] w λe w'=>e=.returned (.string (bs (sh f v)))/\Pu w w'
theorem yWM {sh:Fld->Val->List UInt8} {w:World} {cC bU b:Nat} {f:Fld} {v:Val} {acc:List UInt8} {nb cq:Int} {J:(Int × Int)->World->Prop} (hw:0<=f.width/\f.width<=1000)
  (hW:v.kind ≠ 0->(sh f v).length<=1000/\∃K,zQU f.kind=some K/\zQv prog K.wr=true/\∀w,Calls prog K.wr #[yQ9 f,zWt v] w λe w'=>e=.returned (.string (bs (sh f v)))/\Pu w w')
  (fJ:w.heap[cC]?=some (.cells #[.string f.name,.int .i64 f.kind,.int .i64 f.width,.bool f.null] 129)) (fV:w.heap[bU]?=some (.cells #[.int .i64 v.kind,.int .i64 v.n,.string v.s] 73))
  (hB:Lib.IsBuilderF 220 5 b b (Lib.byteCells acc) w) (hbs:b<w.heap.size) (ha:acc.length<=1000000)
  (hJ:∀w',Lib.IsBuilderF 220 5 b b (Lib.byteCells (acc ++ zVu sh f v)) w'->Below b w w'->J (nb,IntKind.i64.wrap (cq+1)) w') :
  yZc J cC bU (some ⟨b,0,none⟩) nb cq w:=by
 have pub:∀{w'},Pu w w'->Below b w w':=λh=>Below.mono h (by omega)
 refine⟨_,cl0 fV,Br.of (λd=>⟨_,cl fJ 2,?_⟩) (λd=>?_)⟩
 ·have ew:f.width=((f.width.toNat:Nat):Int):=by omega
  rw[show(Value.int .i64 f.width)=.int .i64 ((f.width.toNat:Nat):Int)by rw[←ew]]
  refine(zKe 32 f.width.toNat (by omega) w).mono ?_
  rintro e w2 ⟨rfl,ar⟩
  refine⟨_,rfl,(zKW (List.replicate f.width.toNat 32) (yZL hB (Fr.pu ar:Fr (λ_=>False) w w2) λ_ _ h=>h) (by simp only[List.length_replicate];omega) (by have:=ar.size;omega)).mono ?_⟩
  rintro e w3 ⟨rfl,hB3,hbl⟩
  have:zVu sh f v=List.replicate f.width.toNat 32:=by unfold zVu;rw[if_pos (zQC d)]
  rw[←this]at hB3
  exact⟨_,_,rfl,hJ w3 hB3 ((pub ar).trans hbl)⟩
 ·have d:=zQm d
  obtain⟨hlen,K,hK,hbody,hcall⟩:=hW d
  refine zQf λw2 ar hh2=>⟨λu=>Pu w2 u,Pu.refl _,f.kind,λu hu=>cl (hu.blk (ar.blk fJ)) 1,f.name,λu hu=>cl (hu.blk (ar.blk fJ)) 0,f.kind,λu hu=>cl (hu.blk (ar.blk fJ)) 1,f.width,λu hu=>cl (hu.blk (ar.blk fJ)) 2,f.null,λu hu=>cl (hu.blk (ar.blk fJ)) 3,
   v.kind,λu hu=>cl (hu.blk (ar.blk fV)) 0,v.n,λu hu=>cl (hu.blk (ar.blk fV)) 1,v.s,λu hu=>cl (hu.blk (ar.blk fV)) 2,(zW1 w2).mono ?_⟩
  rintro e w3 ⟨m,rfl,hm,_,aA⟩
  refine⟨some m,rfl,λu=>Pu w3 u,Pu.refl _,λu hu=>aA.trans hu,K.letter,K.least,K.most,.func (.func K.wr) #[] #[],.func (.func K.rd) #[] #[],λu hu=>?_,hbody,?_⟩
  ·have:=zKP (hm.pu hu) f.kind false
   rw[hK]at this;exact this
  refine(hcall w3).mono ?_
  rintro e w4 ⟨rfl,aJ⟩
  have eI:=(ar.trans aA).trans aJ
  refine⟨_,rfl,(zKW (sh f v) (yZL hB (Fr.pu eI:Fr (λ_=>False) w w4) λ_ _ h=>h) (by omega) (by have:=eI.size;omega)).mono ?_⟩
  rintro e w5 ⟨rfl,hB5,hbl⟩
  have:zVu sh f v=sh f v:=by unfold zVu;rw[if_neg d]
  rw[←this]at hB5
  exact⟨_,_,rfl,hJ w5 hB5 ((pub eI).trans hbl)⟩
end Go.Proofs.YtaeecpjhfmcliaaGreatDoor
