import Derived.Test.YtaeecpjhfmcliaaGreatDoorLgOwC
import Derived.Test.YtaeecpjhfmcliaaGreatDoorLgPrA
import Derived.Test.YtaeecpjhfmcliaaGreatDoorLgPrB
/- Table: dates written and read by the reference; texts of dates. No condition. -/
set_option maxRecDepth 100000
set_option linter.unusedVariables false
set_option linter.unusedSimpArgs false
noncomputable section
namespace Go.Proofs.YtaeecpjhfmcliaaGreatDoor
open Go.Sh Go.RowKit Tryz
theorem zZS:∀(k n:Nat),n<10 ^ (k+1)->(zZQ n).length<=k+1
 | 0,n,h=>by rw[zZn (by omega)];simp
 | k+1,n,h=>by
  by_cases h1:n<10
  ·rw[zZn h1];simp
  ·rw[zZL h1,List.length_append]
   have:=zZS k (n / 10) (by rw[Nat.pow_succ]at h;omega)
   simp;omega
def zKe(k n:Nat):List UInt8:=List.replicate (k - (zZQ n).length) 48 ++ zZQ n
theorem zZr {k n:Nat} (h:(zZQ n).length<=k):(zKe k n).length=k:=by
 unfold zKe;rw[List.length_append,List.length_replicate];omega
theorem yXg (n k:Nat) (hn:n<=1000000) (hk:(zZQ n).length<=k/\k<=1000) (w:World):Calls prog 235 #[.int .i64 (n:Int),.int .i64 (k:Int)] w λe w'=>e=.returned (.string (bs (zKe k n)))/\Pu w w':=by
 refine yW6 _ _ w _ ((dec_c (n:=(n:Int)) (by omega) (by omega) w).mono ?_)
 rintro e w1 ⟨rfl,ar⟩
 rw[zKP]
 refine⟨_,rfl,?_⟩
 rw[zQ9,zQa (by omega) (by omega),show(k:Int) - ((zZQ n).length:Nat)=((k - (zZQ n).length:Nat):Int)by omega]
 refine(zKD 48 _ (by omega) w1).mono ?_
 rintro e w2 ⟨rfl,aq⟩
 refine⟨_,rfl,by rw[zQ9,List.length_replicate];omega,?_,ar.trans aq⟩
 rw[zJ0,zQQ,zQQ];rfl
open Classical in
def zK5(n:Int):List UInt8:=if n=0 then List.replicate 8 32 else
 if h:∃p:Nat × Nat × Nat,zQW p.1 p.2.1 p.2.2/\(zZC p.1 p.2.1 p.2.2:Int)=n then zKe 4 h.choose.1 ++ zKe 2 h.choose.2.1 ++ zKe 2 h.choose.2.2 else []
theorem xXW{y m d:Nat}(h:zQW y m d):1<=zZC y m d:=by have:=h.year;omega
theorem zKb:zK5 0=List.replicate 8 32:=by unfold zK5;rw[if_pos rfl]
theorem zWz{y m d:Nat}(h:zQW y m d):zK5 (zZC y m d:Nat)=zKe 4 y ++ zKe 2 m ++ zKe 2 d:=by
 have hp:=xXW h
 have hx:∃p:Nat × Nat × Nat,zQW p.1 p.2.1 p.2.2/\(zZC p.1 p.2.1 p.2.2:Int)=(zZC y m d:Nat):=⟨(y,m,d),h,rfl⟩
 unfold zK5
 rw[if_neg (by omega),dif_pos hx]
 obtain⟨h1,h2⟩:=hx.choose_spec
 obtain⟨e1,e2,e3⟩:=yKK h1 h (by omega)
 rw[e1,e2,e3]
theorem zYV{y m d:Nat}(h:zQW y m d):((zZQ y).length<=4/\y<=1000000)/\((zZQ m).length<=2/\m<=1000000)/\((zZQ d).length<=2/\d<=1000000):=by
 obtain⟨h1,h2,h3,h4,h5,h6⟩:=h
 have:=zVW y m
 exact⟨⟨zZS 3 y (by omega),by omega⟩,⟨zZS 1 m (by omega),by omega⟩,⟨zZS 1 d (by omega),by omega⟩⟩
theorem zVj{y m d:Nat}(h:zQW y m d):(zKe 4 y ++ zKe 2 m ++ zKe 2 d).length=8:=by
 obtain⟨a,b,c⟩:=zYV h
 rw[List.length_append,List.length_append,zZr a.1,zZr b.1,zZr c.1]
theorem xY7(n:Int)(h:0<=n/\n<=3652059)(w:World):Calls prog 212 #[.int .i64 n] w λe w'=>e=.returned (.tuple #[.string (bs (zK5 n)),.int .i64 0])/\(zK5 n).length=8/\Pu w w':=by
 refine yVW _ w _ ((yJi n w).mono ?_)
 rintro e w1 ⟨rfl,ar⟩
 rw[decide_eq_true h.1,decide_eq_true h.2]
 refine⟨_,rfl,Br.f rfl (Br.of (λd=>⟨?_,?_,ar⟩) (λd=>?_))⟩
 ·rw[zQG d,zKb];rfl
 ·rw[zQG d,zKb];rfl
 have qm:=zQm d
 clear d
 obtain⟨k,rfl⟩:∃k:Nat,n=(k:Int):=⟨n.toNat,by omega⟩
 refine yVI _ w1 _ ((xY0 k (by omega) w1).mono ?_)
 rintro e w2 ⟨y,m,d,hD,rfl,rfl,aq⟩
 obtain⟨a,b,c⟩:=zYV hD
 refine⟨_,_,_,_,rfl,(yXg y 4 a.2 ⟨a.1,by omega⟩ w2).mono ?_⟩
 rintro e w3 ⟨rfl,au⟩
 refine⟨_,rfl,(yXg m 2 b.2 ⟨b.1,by omega⟩ w3).mono ?_⟩
 rintro e w4 ⟨rfl,aK⟩
 refine⟨_,rfl,by rw[zQ9,zQ9,zZr a.1,zZr b.1];omega,(yXg d 2 c.2 ⟨c.1,by omega⟩ w4).mono ?_⟩
 rintro e w5 ⟨rfl,aR⟩
 have e1:bs (zKe 4 y) ++ bs (zKe 2 m)=bs (zKe 4 y ++ zKe 2 m):=by rw[zJ0,zQQ,zQQ]
 refine⟨_,rfl,by rw[e1,zQ9,zQ9,List.length_append,zZr a.1,zZr b.1,zZr c.1];omega,?_⟩
 rw[e1,zJ0,zQQ,zQQ,zWz hD]
 exact⟨_,rfl,rfl,zVj hD,(((ar.trans aq).trans au).trans aK).trans aR⟩
end Go.Proofs.YtaeecpjhfmcliaaGreatDoor
/- Table: how values are written in fields, by both packages. No condition. -/
namespace Go.Proofs.YtaeecpjhfmcliaaGreatDoor
open Go.Sh Go.RowKit Tryz
theorem zJf{s:ByteArray}(h:s.size=0):s=⟨#[]⟩:=by
 obtain⟨⟨l⟩⟩:=s
 cases l with
 | nil=>rfl
 | cons a l=>simp[ByteArray.size]at h
inductive zVH (f:Fld) (p:Int) (v:Val):Prop
 | nil (hv:v=noV) (hn:f.null=true)
 | truth (hk:f.kind=1) (hw:f.width=1) (hv:v=⟨1,v.n,⟨#[]⟩⟩) (hn:v.n=0∨v.n=1)
 | num (hk:f.kind=2) (hw:1<=f.width/\f.width<=15) (hv:v=⟨2,v.n,⟨#[]⟩⟩) (hn:-1000000000000000<=v.n/\v.n<=1000000000000000) (hl:((zJq v.n).length:Int)<=f.width)
 | date (hk:f.kind=3) (hw:f.width=8) (hv:v=⟨3,v.n,⟨#[]⟩⟩) (hn:0<=v.n/\v.n<=3652059)
 | text (hk:f.kind=4) (hw:1<=f.width/\f.width<=254) (hv:v=⟨4,0,v.s⟩) (hl:(v.s.size:Int)<=f.width) (hb:zZ4 v.s.data.toList=v.s.data.toList) (ht:zXN v.s.data.toList p=true)
 | memo (hk:f.kind=5) (hw:f.width=8) (hv:v=⟨2,v.n,⟨#[]⟩⟩) (hn:0<=v.n/\v.n<=99999999)
theorem yZG{f:Fld}(h:zQo f=true):(f.kind=1/\f.width=1)∨(f.kind=2/\1<=f.width/\f.width<=15)∨(f.kind=3/\f.width=8)∨(f.kind=4/\1<=f.width/\f.width<=254)∨(f.kind=5/\f.width=8):=by
 unfold zQo zWI at h
 simp only[Bool.and_eq_true]at h
 have h:=h.2
 split at h
 ·rename_i hk;simp at h;exact .inl ⟨hk,h⟩
 ·split at h
  ·rename_i hk;simp at h;exact .inr (.inl ⟨hk,h⟩)
  ·split at h
   ·rename_i hk;simp at h;exact .inr (.inr (.inl ⟨hk,h⟩))
   ·split at h
    ·rename_i hk;simp at h;exact .inr (.inr (.inr (.inl ⟨hk,h⟩)))
    ·split at h
     ·rename_i hk;simp at h;exact .inr (.inr (.inr (.inr ⟨hk,h⟩)))
     ·simp at h
theorem zVH.of{f:Fld}{p:Int}{v:Val}(hf:zQo f=true)(h:zQR f p v=true):zVH f p v:=by
 have hk:=yZG hf
 have hv:zXk v=0:=by
  by_cases hv:zXk v=0
  ·exact hv
  ·unfold zQR at h;rw[if_pos hv]at h;cases h
 obtain⟨_,hok,hs⟩:=zKH hv
 unfold zQR at h
 rw[if_neg (by omega)]at h
 obtain⟨k,n,s⟩:=v
 simp only at *
 by_cases h0:k=0
 ·rw[if_pos h0]at h
  subst h0
  have hn:n=0:=by unfold okN at hok;rw[if_pos rfl]at hok;simpa using hok
  have hs:s=⟨#[]⟩:=zJf (by rcases hs with h|h;omega;exact h)
  subst hn hs
  exact .nil rfl h
 rw[if_neg h0]at h
 by_cases h5:f.kind=5
 ·rw[if_pos h5]at h
  have hw:f.width=8:=by omega
  simp only[Bool.and_eq_true,decide_eq_true_eq,zVR]at h
  obtain⟨rfl,h1,h2⟩:=h
  have hs:s=⟨#[]⟩:=zJf (by rcases hs with h|h;omega;exact h)
  subst hs
  exact .memo h5 hw rfl ⟨h1,h2⟩
 rw[if_neg h5]at h
 by_cases hkk:k ≠ f.kind
 ·rw[if_pos hkk]at h;cases h
 rw[if_neg hkk]at h
 have hkk:k=f.kind:=by omega
 rcases hk with⟨e,hw⟩|⟨e,hw⟩|⟨e,hw⟩|⟨e,hw⟩|⟨e,hw⟩
 ·rw[e]at hkk;subst hkk
  have hs:s=⟨#[]⟩:=zJf (by rcases hs with h|h;omega;exact h)
  subst hs
  unfold okN at hok
  rw[if_neg (by decide),if_pos rfl]at hok
  exact .truth e hw rfl (by simpa using hok)
 ·rw[e]at hkk;subst hkk
  have hs:s=⟨#[]⟩:=zJf (by rcases hs with h|h;omega;exact h)
  subst hs
  unfold okN at hok
  rw[if_neg (by decide),if_neg (by decide),if_pos rfl]at hok
  rw[if_pos e]at h
  exact .num e hw rfl (by simpa using hok) (by simpa using h)
 ·rw[e]at hkk;subst hkk
  have hs:s=⟨#[]⟩:=zJf (by rcases hs with h|h;omega;exact h)
  subst hs
  unfold okN at hok
  rw[if_neg (by decide),if_neg (by decide),if_neg (by decide),if_pos rfl]at hok
  exact .date e hw rfl (by simpa using hok)
 ·rw[e]at hkk;subst hkk
  rw[if_neg (by omega),if_pos e]at h
  unfold okN at hok
  rw[if_neg (by decide),if_neg (by decide),if_neg (by decide),if_neg (by decide),if_pos rfl]at hok
  simp only[Bool.and_eq_true,decide_eq_true_eq]at h hok
  subst hok
  exact .text e hw rfl h.1.1 h.1.2 h.2
 ·omega
def zQu(f:Fld)(v:Val):List UInt8:=
 if v.kind=0 then List.replicate f.width.toNat 32 else if f.kind=1 then [if v.n=1 then 84 else 70]else if f.kind=3 then zK5 v.n
 else if f.kind=4 then yQ0 f v else if f.kind=5/\v.n=0 then List.replicate f.width.toNat 32 else List.replicate (f.width.toNat - (zJq v.n).length) 32 ++ zJq v.n
theorem zYz(f:Fld)(v:Val):yQd zQu f v=zQu f v:=by
 unfold yQd
 by_cases h:v.kind=0
 ·rw[if_pos h];unfold zQu;rw[if_pos h]
 ·rw[if_neg h]
theorem xX5{k:Nat}(h:1<=k/\k<=3652059):∃y m d,zQW y m d/\zZC y m d=k:=by
 have hend:=zKG
 -- the year that holds the day
 have hy:∃y,1<=y/\y<=9999/\zQz y<k/\k<=zQz (y+1):=by
  have:∀j:Nat,j<=9999->k<=zQz (j+1)->∃y,1<=y/\y<=9999/\zQz y<k/\k<=zQz (y+1):=by
   intro j
   induction j with
   | zero=>intro _ hk;exfalso;have:zQz 1=0:=(by decide);simp only[Nat.zero_add]at hk;omega
   | succ j ih=>
    intro hj hk
    by_cases hlt:zQz (j+1)<k
    ·exact⟨j+1,by omega,hj,hlt,hk⟩
    ·exact ih (by omega) (by omega)
  exact this 9999 (by omega) (by show k<=zQz 10000;omega)
 obtain⟨y,y1,y9,ylt,yle⟩:=hy
 have hys:=zXS y1
 have xM:=zJa y
 have hm:∃m,1<=m/\m<=12/\zQz y+zQ5 y (m - 1)<k/\k<=zQz y+zQ5 y m:=by
  have:∀j:Nat,j<=12->k<=zQz y+zQ5 y j->∃m,1<=m/\m<=12/\zQz y+zQ5 y (m - 1)<k/\k<=zQz y+zQ5 y m:=by
   intro j
   induction j with
   | zero=>intro _ hk;exfalso;simp only[zQ5]at hk;omega
   | succ j ih=>
    intro hj hk
    by_cases hlt:zQz y+zQ5 y j<k
    ·exact⟨j+1,by omega,hj,by rw[Nat.add_sub_cancel];exact hlt,hk⟩
    ·exact ih (by omega) (by omega)
  exact this 12 (by omega) (by rw[xM];omega)
 obtain⟨m,m1,m12,mlt,mle⟩:=hm
 obtain⟨j,rfl⟩:∃j,m=j+1:=⟨m - 1,by omega⟩
 rw[Nat.add_sub_cancel]at mlt
 have hmf:zQ5 y (j+1)=zQ5 y j+zJG y (j+1):=rfl
 have hD:zQW y (j+1) (k - zQz y - zQ5 y j):=⟨y1,y9,m1,m12,by omega,by omega⟩
 exact⟨y,j+1,k - zQz y - zQ5 y j,hD,by unfold zZC;rw[Nat.add_sub_cancel];omega⟩
theorem yW0{n:Int}(h:0<=n/\n<=3652059):(zK5 n).length=8:=by
 by_cases h0:n=0
 ·rw[h0,zKb];rfl
 obtain⟨k,rfl⟩:∃k:Nat,n=(k:Int):=⟨n.toNat,by omega⟩
 obtain⟨y,m,d,hD,e⟩:=xX5 (k:=k) (by omega)
 rw[←e,zWz hD]
 exact zVj hD
theorem zVH.len{f:Fld}{p:Int}{v:Val}(h:zVH f p v):(zQu f v).length=f.width.toNat:=by
 unfold zQu
 cases h with
 | nil hv hn=>rw[hv];simp[noV]
 | truth hk hw hv hn=>rw[hv,if_neg (by simp),if_pos hk,hw];rfl
 | num hk hw hv hn hl=>rw[hv]at *;dsimp only at *;rw[if_neg (by decide),if_neg (by omega),if_neg (by omega),if_neg (by omega),if_neg (by omega),List.length_append,List.length_replicate];omega
 | date hk hw hv hn=>rw[hv,if_neg (by simp),if_neg (by omega),if_pos hk,hw];exact yW0 hn
 | text hk hw hv hl hb ht=>rw[hv,if_neg (by simp),if_neg (by omega),if_neg (by omega),if_pos hk];unfold yQ0;rw[List.length_append,zQ3,List.length_replicate];dsimp only;omega
 | memo hk hw hv hn=>
  rw[hv]at *;dsimp only at *
  rw[if_neg (by decide),if_neg (by omega),if_neg (by omega),if_neg (by omega)]
  by_cases h0:v.n=0
  ·rw[if_pos ⟨hk,h0⟩,List.length_replicate]
  ·rw[if_neg (by simp[h0]),List.length_append,List.length_replicate]
   obtain⟨k,aJ⟩:∃k:Nat,v.n=(k:Int):=⟨v.n.toNat,by omega⟩
   rw[aJ,zKP]
   have:=zZS 7 k (by omega)
   omega
theorem yQS(f:Fld)(v:Val)(hw:1<=f.width/\f.width<=254)(hn:-1000000000000000<=v.n/\v.n<=1000000000000000)(w:World):Calls prog 182 #[yQk f,zJ6 v] w λe w'=>e=.returned (.string (bs (xZz v.n f.width)))/\Pu w w':=by
 refine yWL _ _ _ _ _ _ _ w _ (alB λw1 ar aB=>alB λw2 aq aM=>⟨_,cl aM 1,_,cl (aq.blk aB) 2,(str_c hn hw w2).mono ?_⟩)
 rintro e w3 ⟨rfl,au⟩
 exact⟨_,_,rfl,rfl,(ar.trans aq).trans au⟩
theorem yKq {n w:Int} (h:((zJq n).length:Int)<=w):xZz n w=List.replicate (w.toNat - (zJq n).length) 32 ++ zJq n:=by unfold xZz;rw[if_neg (by omega)]
theorem kQs{f:Fld}{p:Int}{v:Val}(h:zVH f p v)(h0:v.kind ≠ 0):∃K,zXd f.kind=some K/\zQ6 prog K.wr=true/\∀w,Calls prog K.wr #[yQk f,zJ6 v] w λe w'=>e=.returned (.string (bs (zQu f v)))/\Pu w w':=by
 cases h with
 | nil hv hn=>rw[hv]at h0;exact absurd rfl h0
 | truth hk hw hv hn=>
  refine⟨_,by rw[hk];rfl,by kernel_rfl,λw=>?_⟩
  refine yVx _ _ _ _ _ _ _ w _ (alB λw1 ar aB=>alB λw2 aq aM=>⟨_,cl aM 1,_,cl aM 1,?_⟩)
  have e:zQu f v=[if v.n=1 then 84 else 70]:=by unfold zQu;rw[if_neg h0,if_pos hk]
  rw[e]
  rcases hn with hn|hn
  ·rw[hn]
   rw[zQa (by decide) (by decide)]
   exact⟨by decide,by decide,by decide,by decide,rfl,ar.trans aq⟩
  ·rw[hn]
   rw[zQa (by decide) (by decide)]
   exact⟨by decide,by decide,by decide,by decide,rfl,ar.trans aq⟩
 | num hk hw hv hn hl=>
  refine⟨_,by rw[hk];rfl,by kernel_rfl,λw=>?_⟩
  have e:zQu f v=xZz v.n f.width:=by rw[yKq hl];unfold zQu;rw[if_neg h0,if_neg (by omega),if_neg (by omega),if_neg (by omega),if_neg (by omega)]
  rw[e]
  exact yQS f v ⟨hw.1,by omega⟩ hn w
 | date hk hw hv hn=>
  refine⟨_,by rw[hk];rfl,by kernel_rfl,λw=>?_⟩
  have e:zQu f v=zK5 v.n:=by unfold zQu;rw[if_neg h0,if_neg (by omega),if_pos hk]
  rw[e]
  refine yVr _ _ _ _ _ _ _ w _ (alB λw1 ar aB=>alB λw2 aq aM=>⟨_,cl aM 1,(xY7 v.n hn w2).mono ?_⟩)
  rintro e w3 ⟨rfl,_,au⟩
  exact⟨_,_,rfl,rfl,(ar.trans aq).trans au⟩
 | text hk hw hv hl hb ht=>
  refine⟨_,by rw[hk];rfl,by kernel_rfl,λw=>?_⟩
  have e:zQu f v=yQ0 f v:=by unfold zQu;rw[if_neg h0,if_neg (by omega),if_neg (by omega),if_pos hk]
  rw[e]
  exact yJB f v ⟨hl,by omega⟩ w
 | memo hk hw hv hn=>
  refine⟨_,by rw[hk];rfl,by kernel_rfl,λw=>?_⟩
  refine yVq _ _ _ _ _ _ _ w _ (alB λw1 ar aB=>alB λw2 aq aM=>⟨_,cl aM 1,Br.of (λd=>⟨_,cl (aq.blk aB) 2,?_⟩) (λd=>?_)⟩)
  ·rw[show(Value.int .i64 f.width)=.int .i64 ((8:Nat):Int)by rw[hw];rfl]
   refine(zKD 32 8 (by omega) w2).mono ?_
   rintro e w3 ⟨rfl,au⟩
   refine⟨_,rfl,?_,(ar.trans aq).trans au⟩
   have e:zQu f v=List.replicate 8 32:=by unfold zQu;rw[if_neg h0,if_neg (by omega),if_neg (by omega),if_neg (by omega),if_pos ⟨hk,zQG d⟩,hw];rfl
   rw[e]
  ·have d:=zQm d
   have q1:=aq.blk aB
   refine⟨_,cl q1 0,_,cl q1 1,_,cl q1 2,_,cl q1 3,_,cl aM 0,_,cl aM 1,_,cl aM 2,(yQS f v (by omega) (by omega) w2).mono ?_⟩
   rintro e w3 ⟨rfl,au⟩
   refine⟨_,rfl,?_,(ar.trans aq).trans au⟩
   have hl:((zJq v.n).length:Int)<=f.width:=by
    obtain⟨k,aJ⟩:∃k:Nat,v.n=(k:Int):=⟨v.n.toNat,by omega⟩
    rw[aJ,zKP]
    have:=zZS 7 k (by omega)
    omega
   have e:zQu f v=xZz v.n f.width:=by rw[yKq hl];unfold zQu;rw[if_neg h0,if_neg (by omega),if_neg (by omega),if_neg (by omega),if_neg (by simp[d])]
   rw[e]
def zXC(l:List Fld)(p:Int)(vs:List Val):Prop:=vs.length=l.length/\∀(i:Nat) (f:Fld) (v:Val),l[i]?=some f->vs[i]?=some v->zVH f p v
theorem zXC.of{l:List Fld}{p:Int}{r:Rec}(hl:l.all zQo=true)(h:zQ0 l p r=0):zXC l p r.v:=by
 obtain⟨h1,h2⟩:=zYX h
 refine⟨h1,λi f v hf hv=>zVH.of (List.all_eq_true.1 hl f (List.mem_of_getElem? hf)) ?_⟩
 exact List.all_eq_true.1 h2 (f,v) (List.mem_of_getElem? (xXF hf hv))
theorem zXC.writes{l:List Fld}{p:Int}{vs:List Val}(hl:l.all zQo=true)(h:zXC l p vs):yKS zQu l vs:=λi f v hf hv h0=>by
 have hr:=h.2 i f v hf hv
 refine⟨?_,kQs hr h0⟩
 rw[hr.len]
 have:=zXt (List.all_eq_true.1 hl f (List.mem_of_getElem? hf))
 omega
theorem zXR{l:List Fld}{p:Int}{vs:List Val}(hl:l.all zQo=true)(h:zXC l p vs):∀k,k<=l.length->((zXP zQu (l.take k) (vs.take k)).length:Int)=((l.take k).map (·.width)).sum
 | 0,_=>by simp[zXP]
 | k+1,h1=>by
  obtain⟨f,hf⟩:=zQM (show k<l.length by omega)
  obtain⟨v,hv⟩:=zQM (show k<vs.length by have:=h.1;omega)
  rw[zWi hf hv,List.length_append,zWF hf,zYz,(h.2 k f v hf hv).len]
  have:=zXR hl h k (by omega)
  have:=zXt (List.all_eq_true.1 hl f (List.mem_of_getElem? hf))
  omega
theorem zKN{l:List Fld}{p:Int}{r:Rec}(hl:l.all zQo=true)(h:zXC l p r.v):((zJO zQu l r).length:Int)=zXK l:=by
 have h1:=zXR hl h l.length (Nat.le_refl _)
 rw[List.take_length,List.take_of_length_le (by have:=h.1;omega)]at h1
 unfold zJO zXK
 rw[List.length_append,List.length_append,zVg,List.length_singleton]
 omega
theorem zXC.ne {l:List Fld} {p:Int} {vs:List Val} (hl:l.all zQo=true) (h:zXC l p vs) (h0:l ≠ []):zXP zQu l vs ≠ []:=λe=>by
 have h1:=zXR hl h l.length (Nat.le_refl _)
 rw[List.take_length,List.take_of_length_le (by have:=h.1;omega),e]at h1
 obtain⟨f,l',rfl⟩:=List.exists_cons_of_ne_nil h0
 simp only[List.map_cons,List.sum_cons,List.length_nil]at h1
 have hf:=zXt (List.all_eq_true.1 hl f (by simp))
 have:=zJs (l:=l') (WOk.of (List.all_eq_true.2 λg hg=>List.all_eq_true.1 hl g (by simp[hg])))
 omega
end Go.Proofs.YtaeecpjhfmcliaaGreatDoor
/- Table: numbers and dates that are read from texts, by both packages. No condition. -/
namespace Go.Proofs.YtaeecpjhfmcliaaGreatDoor
open Go.Sh Go.RowKit Tryz
def zZG:Nat->List UInt8->Nat
 | a,[]=>a
 | a,b :: l=>if zZm b then zZG (min (10 * a+(b.toNat - 48)) 1000000000000000) l else a
def yJ2:List UInt8->Int
 | []=>0
 | b :: r=>if b.toNat=45 then -(zZG 0 r:Int)else if b.toNat=43 then zZG 0 r else zZG 0 (b :: r)
theorem zZ0(b:UInt8)(r:List UInt8):yJ2 (b :: r)=if b.toNat=45 then -(zZG 0 r:Int)else if b.toNat=43 then zZG 0 r else zZG 0 (b :: r):=rfl
def yQr(l:List UInt8):Int:=yJ2 (l.dropWhile (· == 32))
theorem zY1:∀{l:List UInt8} {a:Nat},a<=1000000000000000->zZG a l<=1000000000000000
 | [],a,h=>h
 | b :: l,a,h=>by
  unfold zZG
  split
  ·exact zY1 (Nat.min_le_right _ _)
  ·exact h
theorem xQN(l:List UInt8):-1000000000000000<=yQr l/\yQr l<=1000000000000000:=by
 have h:=λr=>zY1 (l:=r) (a:=0) (by omega)
 unfold yQr yJ2
 split
 ·omega
 ·rename_i b r _
  have h1:=h r
  have h2:=h (b :: r)
  split
  ·omega
  ·split <;> omega
theorem yJk{b:UInt8}(h:zZm b=true):48<=b.toNat/\b.toNat<=57:=by
 unfold zZm at h;simpa using h
theorem yXD {b:UInt8} (h:¬(48<=b.toNat/\b.toNat<=57)):zZm b=false:=by
 unfold zZm;simp;omega
theorem yKL{b:UInt8}(h:48<=b.toNat/\b.toNat<=57):IntKind.i64.wrap (IntKind.u8.wrap (((b.toNat:Nat):Int) - 48))=((b.toNat - 48:Nat):Int):=by
 have e:IntKind.u8.wrap (((b.toNat:Nat):Int) - 48)=((b.toNat - 48:Nat):Int):=by rw[IntKind.wrap_u8];omega
 rw[e,zQa (by omega) (by omega)]
theorem yXJ(b:UInt8)(r:List UInt8):(bs (b :: r)).extract ((1:Int).toNat) (bs (b :: r)).size=bs r:=by
 apply zQU
 rw[zQ8,zQQ,zQQ,zQ9]
 show(List.take (b :: r).length (b :: r)).drop 1=r
 rw[List.take_length];rfl
theorem yXz {w0 w:World} (hp:Pu w0 w) (l:List UInt8) {sg X:Int} (hsg:sg=1∨sg=-1) (hl:l.length<=140737488355328) (hX:X=sg * (zZG 0 l:Nat)) :
  zV5 (λe w'=>e=.returned (.int .i64 X)/\Pu w0 w') (bs l) sg [] w:=by
 have hs:=zQ9 l
 have fin:∀{a:Nat} {w':World},a<=1000000000000000->a=zZG 0 l->Pu w0 w'->yXO (λe w'=>e=.returned (.int .i64 X)/\Pu w0 w') sg (a:Int) [] w':=λ{a w'} h1 h2 h3=>by
  refine⟨?_,h3⟩
  rw[hX,←h2]
  rcases hsg with h|h
  ·rw[h,zQa (by omega) (by omega)]
  ·rw[h,zQa (by omega) (by omega)]
 refine zQw l.length (λk t w'=>t.2=(k:Int)/\∃a:Nat,t.1=(a:Int)/\a<=1000000000000000/\zZG a (l.drop k)=zZG 0 l/\Pu w0 w') ⟨rfl,0,rfl,by omega,rfl,hp⟩ ?_
 rintro k J ⟨t1,t2⟩ w2 hk ⟨h2,a,h1,ha,hd,aq⟩ hJ
 obtain rfl:t2=(k:Int):=h2
 obtain rfl:t1=(a:Int):=h1
 dsimp only
 refine Br.of (λd=>?_) (λd=>?_)
 ·have aJ:k<l.length:=by have:=zQk d;omega
  obtain⟨b,hb⟩:=zQM aJ
  have hbb:(bs l)[((k:Int)).toNat]?=some b:=zYW (by rw[zQQ];exact hb)
  rw[zXU hb]at hd
  refine⟨b,by omega,hbb,Br.of (λd1=>?_) (λd1=>⟨b,by omega,hbb,Br.of (λd2=>?_) (λd2=>⟨b,by omega,hbb,?_⟩)⟩)⟩
  ·refine fin ha ?_ aq
   rw[zZG,yXD (by have:=zQk d1;omega)]at hd
   simpa using hd
  ·refine fin ha ?_ aq
   rw[zZG,yXD (by have:=zQk d2;omega)]at hd
   simpa using hd
  ·have d1:=zQd d1
   have d2:=zQd d2
   have aM:48<=b.toNat/\b.toNat<=57:=by omega
   rw[yKL aM,zQa (n:=(a:Int) * 10) (by omega) (by omega),zQa (n:=(a:Int) * 10+_) (by omega) (by omega),zQa (n:=(k:Int)+1) (by omega) (by omega)]
   refine⟨_,w2,yX8 _ _ _ _ _ _,?_⟩
   have e:zZm b=true:=by unfold zZm;simp;omega
   rw[zZG,e,if_pos rfl]at hd
   exact hJ _ _ aJ ⟨by dsimp only;omega,min (10 * a+(b.toNat - 48)) 1000000000000000,by dsimp only;omega,Nat.min_le_right _ _,hd,aq⟩
 ·have aJ:k=l.length:=by have:=zQd d;omega
  subst aJ
  rw[List.drop_length]at hd
  exact fin ha hd aq
theorem xXR(s:ByteArray)(hs:s.size<=140737488355328)(w:World):Calls prog 211 #[.string s] w λe w'=>e=.returned (.int .i64 (yQr s.data.toList))/\Pu w w':=by
 refine yYc _ w _ ((Any.strings_TrimLeft_one Tryz.lays161 s 32 (by decide) w).mono ?_)
 rintro e w1 ⟨rfl,rfl⟩
 have hT:Lib.trimLeftB s.data.toList 32=s.data.toList.dropWhile (· == 32):=rfl
 rw[hT]
 have hlen:(s.data.toList.dropWhile (· == 32)).length<=s.size:=by
  have:=(List.dropWhile_suffix (· == (32:UInt8)) (l:=s.data.toList)).length_le
  rwa [zQ3]at this
 refine⟨_,rfl,?_⟩
 rw[zZf]
 unfold yQr
 cases hL:s.data.toList.dropWhile (· == 32)with
 | nil=>exact Br.f (by simp[ByteArray.size]) (yXz (Pu.refl _) [] (.inl rfl) (by simp) rfl)
 | cons b r=>
  rw[hL]at hlen
  simp only[List.length_cons]at hlen
  have h0:(bs (b :: r))[((0:Int)).toNat]?=some b:=zYW (by rw[zQQ];rfl)
  refine Br.t (by rw[zQ9];simp) ⟨b,by omega,h0,Br.of (λd=>⟨b,by omega,h0,Br.of (λd1=>⟨Nat.le_refl _,by omega,by rw[zQ9];show 1<=_;simp,?_⟩) (λd1=>absurd (zQG d) (zQm d1))⟩) (λd=>⟨b,by omega,h0,Br.of (λd1=>⟨b,by omega,h0,Br.of (λd2=>absurd (zQG d2) (zQm d)) (λd2=>⟨Nat.le_refl _,by omega,by rw[zQ9];show 1<=_;simp,?_⟩)⟩) (λd1=>?_)⟩)⟩
  ·rw[yXJ]
   refine yXz (Pu.refl _) r (.inr rfl) (by omega) ?_
   rw[zZ0,if_pos (by have:=zQG d;omega)];omega
  ·rw[yXJ]
   refine yXz (Pu.refl _) r (.inl rfl) (by omega) ?_
   rw[zZ0,if_neg (by have:=zQm d;omega),if_pos (by have:=zQG d1;omega)];omega
  ·refine yXz (Pu.refl _) (b :: r) (.inl rfl) (by simp;omega) ?_
   rw[zZ0,if_neg (by have:=zQm d;omega),if_neg (by have:=zQm d1;omega)];omega
def yJJ(y m d:Nat):Int × Bool:=(((if zQW y m d then zZC y m d else 0:Nat):Int),decide (zQW y m d))
def zX6(l:List UInt8):Int × Bool:=if l=List.replicate 8 32 then(0,true)else if l.length ≠ 8 then(0,false)else if l.all zZm then yJJ (zZG 0 (l.take 4)) (zZG 0 ((l.drop 4).take 2)) (zZG 0 (l.drop 6))else(0,false)
theorem yJy(l:List UInt8):0<=(zX6 l).1/\(zX6 l).1<=3652059:=by
 unfold zX6
 split
 ·simp
 ·split
  ·simp
  ·split
   ·unfold yJJ
    dsimp only
    split
    ·rename_i h
     have h1:=h.year
     have h2:=zXY (a:=zZG 0 (l.take 4)+1) (b:=10000) (by omega) (by have:=h.2.1;omega)
     have:=zKG
     omega
    ·omega
   ·simp
theorem zJb{l:List UInt8}(h:l.all zZm=true):yQr l=(zZG 0 l:Nat):=by
 cases l with
 | nil=>rfl
 | cons b r=>
  have hb:=yJk (List.all_eq_true.1 h b (by simp))
  have e:(b == 32)=false:=by
   simp only[beq_eq_false_iff_ne,ne_eq]
   intro h;subst h;revert hb;decide
  unfold yQr
  rw[List.dropWhile_cons,e]
  simp only[Bool.false_eq_true,if_false]
  rw[zZ0,if_neg (by omega),if_neg (by omega)]
def xZ2:List UInt8:=[48,49,50,51,52,53,54,55,56,57]
theorem yYU(b:UInt8):xZ2.contains b=zZm b:=by
 have h:∀n:Nat,n<256->xZ2.contains (UInt8.ofNat n)=zZm (UInt8.ofNat n):=by decide +kernel
 have:=h b.toNat b.toNat_lt
 rwa [UInt8.ofNat_toNat]at this
theorem xYJ(s:ByteArray)(hs:s.size<=9223372036854775807)(w:World):Calls prog 190 #[.string s,.string ⟨#[48,49,50,51,52,53,54,55,56,57]⟩] w
  λe w'=>e=.returned (.string ⟨(Lib.trimS s.data.toList xZ2).toArray⟩)/\Pu w w':=
 Any.strings_Trim_laid Tryz.lays160 u110 s ⟨#[48,49,50,51,52,53,54,55,56,57]⟩ w hs (by decide) (ascii_of_all (by decide))
theorem xQu(s:ByteArray):(s.toList == (⟨#[32,32,32,32,32,32,32,32]⟩:ByteArray).toList)=decide (s.data.toList=List.replicate 8 32):=by
 rw[zX8]
 exact zZ9 ⟨λh=>by rw[h];rfl,λh=>zQU (by rw[h];rfl)⟩
theorem zWu{l:List UInt8}(h:l.all zZm=true)(n:Nat):(l.take n).all zZm=true:=List.all_eq_true.2 λb hb=>List.all_eq_true.1 h b (List.mem_of_mem_take hb)
theorem zWy{l:List UInt8}(h:l.all zZm=true)(n:Nat):(l.drop n).all zZm=true:=List.all_eq_true.2 λb hb=>List.all_eq_true.1 h b (List.mem_of_mem_drop hb)
theorem ext3{s:ByteArray}(h8:s.size=8):(s.extract 0 ((4:Int).toNat)).data.toList=s.data.toList.take 4/\(s.extract ((4:Int).toNat) ((6:Int).toNat)).data.toList=(s.data.toList.drop 4).take 2/\(s.extract ((6:Int).toNat) s.size).data.toList=s.data.toList.drop 6:=by
 refine⟨by rw[zQ8];rfl,?_,?_⟩
 ·rw[zQ8]
  show(List.take 6 s.data.toList).drop 4=_
  rw[List.drop_take]
 ·rw[zQ8,h8,List.take_of_length_le (by rw[zQ3];omega)];rfl
theorem xXD(s:ByteArray)(hs:s.size<=140737488355328)(w:World):Calls prog 213 #[.string s] w λe w'=>e=.returned (.tuple #[.int .i64 (zX6 s.data.toList).1,.bool (zX6 s.data.toList).2])/\Pu w w':=by
 refine yWS _ w _ ?_
 rw[xXh,xQu]
 refine Br.of (λd=>⟨by unfold zX6;rw[if_pos (zQk d)],Pu.refl w⟩) (λd=>Br.of (λd1=>⟨?_,Pu.refl w⟩) (λd1=>(xYJ s (by omega) w).mono ?_))
 ·unfold zX6;rw[if_neg (zQd d),if_pos (by rw[zQ3];have:=zQ2 d1;omega)]
 have h8:s.size=8:=by have:=zQs d1;omega
 rintro e w1 ⟨rfl,ar⟩
 have e2:((ByteArray.mk (Lib.trimS s.data.toList xZ2).toArray).toList == (⟨#[]⟩:ByteArray).toList)=s.data.toList.all zZm:=by
  rw[zZf]
  have h1:((ByteArray.mk (Lib.trimS s.data.toList xZ2).toArray).size=0) ↔ s.data.toList.all (xZ2.contains ·)=true:=by
   rw[←yZq];simp[ByteArray.size]
  rw[show zZm=(xZ2.contains ·)from funext λb=>(yYU b).symm]
  rw[Bool.eq_iff_iff,decide_eq_true_iff];exact h1
 refine⟨_,rfl,?_⟩
 rw[e2]
 have eU:zX6 s.data.toList=if s.data.toList.all zZm then yJJ (zZG 0 (s.data.toList.take 4)) (zZG 0 ((s.data.toList.drop 4).take 2)) (zZG 0 (s.data.toList.drop 6))else(0,false):=by
  unfold zX6;rw[if_neg (zQd d),if_neg (by rw[zQ3];omega)]
 refine Br.of (λd2=>⟨by rw[eU,if_neg (by simpa using d2)],ar⟩) (λd2=>zQc λw2 aq _=>?_)
 have hall:s.data.toList.all zZm=true:=by simpa using d2
 obtain⟨x1,x2,x3⟩:=ext3 h8
 refine⟨by omega,by rw[h8];decide,by decide,by omega,by rw[h8];decide,by omega,by decide,Nat.le_refl _,by omega,by rw[h8];decide,(xXR _ (by rw[←zQ3,x1,List.length_take];omega) w2).mono ?_⟩
 rintro e w3 ⟨rfl,au⟩
 refine⟨_,rfl,(xXR _ (by rw[←zQ3,x2,List.length_take];omega) w3).mono ?_⟩
 rintro e w4 ⟨rfl,aK⟩
 refine⟨_,rfl,(xXR _ (by rw[←zQ3,x3,List.length_drop,zQ3];omega) w4).mono ?_⟩
 rintro e w5 ⟨rfl,aR⟩
 rw[x1,x2,x3,zJb (zWu hall 4),zJb (zWu (zWy hall 4) 2),zJb (zWy hall 6)]
 refine⟨_,rfl,(days_c _ _ _ w5).mono ?_⟩
 rintro e w6 ⟨rfl,bB⟩
 refine⟨_,_,rfl,?_,(((ar.trans aq).trans au).trans (aK.trans aR)).trans bB⟩
 rw[eU,if_pos hall]
 unfold yJJ
 by_cases hD:zQW (zZG 0 (s.data.toList.take 4)) (zZG 0 ((s.data.toList.drop 4).take 2)) (zZG 0 (s.data.toList.drop 6))
 ·rw[if_pos hD,if_pos hD,decide_eq_true hD];rfl
 ·rw[if_neg hD,if_neg hD,decide_eq_false hD];rfl
end Go.Proofs.YtaeecpjhfmcliaaGreatDoor
/- Table: values that are read back, by both packages. No condition. -/
namespace Go.Proofs.YtaeecpjhfmcliaaGreatDoor
open Go.Sh Go.RowKit Tryz
def zJk(k:Int)(s:List UInt8):Val:=if k=1 then⟨1,if s=[84]then 1 else 0,⟨#[]⟩⟩else if k=3 then⟨3,(zX6 s).1,⟨#[]⟩⟩else if k=4 then⟨4,0,bs (zZ4 s)⟩else⟨2,yQr s,⟨#[]⟩⟩
def okS(k:Int)(s:List UInt8):Bool:=if k=1 then decide (s=[84]) || decide (s=[70])else if k=2 then !(s.all (· == 32))else if k=3 then(zX6 s).2 else true
theorem yKT(k:Int)(s:List UInt8):zZR (zJk k s).kind/\zZR (zJk k s).n:=by
 have h1:=xQN s
 have h2:=yJy s
 unfold zJk zZR
 split
 ·dsimp only
  split <;> omega
 ·split
  ·dsimp only;omega
  ·split
   ·dsimp only;omega
   ·dsimp only;omega
theorem yZQ:∀{l:List UInt8} {a:Nat} {d:UInt8},(∀b ∈ l,zZm b=true)->zZm d=true->zZG a (l ++ [d])=min (10 * zZG a l+(d.toNat - 48)) 1000000000000000
 | [],a,d,_,hd=>by simp[zZG,hd]
 | b :: l,a,d,hl,hd=>by
  rw[List.cons_append,zZG,hl b (by simp),if_pos rfl,yZQ (λx hx=>hl x (by simp[hx])) hd,zZG,hl b (by simp),if_pos rfl]
theorem zYL(n:Nat):∀b ∈ zZQ n,zZm b=true:=λb hb=>by
 have:=zKI n b hb
 unfold zZm;simp;omega
theorem yZS{n:Nat}(h:n<10):zZm (UInt8.ofNat (48+n))=true/\(UInt8.ofNat (48+n)).toNat - 48=n:=by
 have e:(UInt8.ofNat (48+n)).toNat=48+n:=by simp;omega
 exact⟨by unfold zZm;simp only[e];simp;omega,by omega⟩
theorem yXb:∀n:Nat,n<=1000000000000000->zZG 0 (zZQ n)=n:=by
 intro n
 induction n using Nat.strongRecOn with
 | _ n ih=>
  intro hn
  by_cases h:n<10
  ·rw[zZn h]
   obtain⟨h1,h2⟩:=yZS h
   rw[zZG,h1,if_pos rfl,zZG,h2];omega
  ·rw[zZL h]
   obtain⟨h1,h2⟩:=yZS (n:=n % 10) (by omega)
   rw[yZQ (zYL _) h1,h2,ih (n / 10) (by omega) (by omega)];omega
theorem yQK(l:List UInt8):∀j:Nat,zZG 0 (List.replicate j 48 ++ l)=zZG 0 l
 | 0=>rfl
 | j+1=>by
  rw[List.replicate_succ,List.cons_append,zZG]
  rw[show zZm 48=true by decide,if_pos rfl]
  exact yQK l j
theorem yXr(k n:Nat)(h:n<=1000000000000000):zZG 0 (zKe k n)=n:=by unfold zKe;rw[yQK,yXb n h]
theorem zY9(k n:Nat):∀b ∈ zKe k n,zZm b=true:=λb hb=>by
 unfold zKe at hb
 rcases List.mem_append.1 hb with h|h
 ·rw[List.eq_of_mem_replicate h];decide
 ·exact zYL n b h
theorem zKc(l:List UInt8):∀j:Nat,(List.replicate j 32 ++ l).dropWhile (· == 32)=l.dropWhile (· == 32)
 | 0=>rfl
 | j+1=>by rw[List.replicate_succ,List.cons_append,List.dropWhile_cons];simp only[beq_self_eq_true,if_true];exact zKc l j
theorem zYD(j:Nat)(l:List UInt8):yQr (List.replicate j 32 ++ l)=yQr l:=by unfold yQr;rw[zKc]
theorem yKd{n:Int}(h:-1000000000000000<=n/\n<=1000000000000000):yQr (zJq n)=n:=by
 unfold zJq
 split
 ·unfold yQr
  rw[List.dropWhile_cons,show((45:UInt8) == 32)=false by decide]
  simp only[Bool.false_eq_true,if_false]
  rw[zZ0,if_pos (by decide),yXb _ (by omega)];omega
 ·rw[zJb (List.all_eq_true.2 λb hb=>zYL _ b hb),yXb _ (by omega)];omega
theorem yX6{n:Int}(h:0<=n/\n<=3652059):zX6 (zK5 n)=(n,true):=by
 by_cases h0:n=0
 ·rw[h0,zKb];unfold zX6;rw[if_pos rfl]
 obtain⟨k,rfl⟩:∃k:Nat,n=(k:Int):=⟨n.toNat,by omega⟩
 obtain⟨y,m,d,hD,rfl⟩:=xX5 (k:=k) (by omega)
 rw[zWz hD]
 obtain⟨a,b,c⟩:=zYV hD
 have l4:=zZr a.1
 have l2:=zZr b.1
 have l2':=zZr c.1
 have hall:(zKe 4 y ++ zKe 2 m ++ zKe 2 d).all zZm=true:=List.all_eq_true.2 λx hx=>by
  rcases List.mem_append.1 hx with hx|hx
  ·rcases List.mem_append.1 hx with hx|hx
   ·exact zY9 _ _ x hx
   ·exact zY9 _ _ x hx
  ·exact zY9 _ _ x hx
 have hne:¬(zKe 4 y ++ zKe 2 m ++ zKe 2 d)=List.replicate 8 32:=λe=>by
  rw[e]at hall;revert hall;decide
 unfold zX6
 rw[if_neg hne,if_neg (by rw[zVj hD];simp),if_pos hall]
 have e1:(zKe 4 y ++ zKe 2 m ++ zKe 2 d).take 4=zKe 4 y:=by rw[List.append_assoc,List.take_append_of_le_length (by omega),List.take_of_length_le (by omega)]
 have e2:((zKe 4 y ++ zKe 2 m ++ zKe 2 d).drop 4).take 2=zKe 2 m:=by
  rw[List.append_assoc,List.drop_append_of_le_length (by omega),List.drop_eq_nil_of_le (by omega),List.nil_append,List.take_append_of_le_length (by omega),List.take_of_length_le (by omega)]
 have e3:(zKe 4 y ++ zKe 2 m ++ zKe 2 d).drop 6=zKe 2 d:=by
  rw[List.drop_append,List.drop_eq_nil_of_le (by rw[List.length_append];omega),List.nil_append,List.length_append,l4,l2];rfl
 rw[e1,e2,e3,yXr _ _ (by omega),yXr _ _ (by omega),yXr _ _ (by omega)]
 unfold yJJ
 rw[if_pos hD,decide_eq_true hD]
theorem zYt(l:List UInt8):∀j:Nat,zZ4 (l ++ List.replicate j 32)=zZ4 l
 | 0=>by simp
 | j+1=>by rw[List.replicate_succ',←List.append_assoc,zW8,if_pos rfl,zYt l j]
theorem yYV{j:Nat}{n:Int}:((List.replicate j 32 ++ zJq n).all (· == 32))=false:=by
 rw[List.all_append]
 have:(zJq n).all (· == (32:UInt8))=false:=by
  rw[List.all_eq_false]
  unfold zJq
  split
  ·exact⟨45,by simp,by decide⟩
  ·have hp:=yXv n.natAbs
   obtain⟨b,hb⟩:=zQM (l:=zZQ n.natAbs) (k:=0) (by omega)
   have hm:=List.mem_of_getElem? hb
   refine⟨b,hm,?_⟩
   have:=zKI n.natAbs b hm
   intro h
   have:b=32:=by simpa using h
   subst this
   revert this;simp at *
 rw[this,Bool.and_false]
theorem yVl{f:Fld}{p:Int}{v:Val}(h:zVH f p v)(h0:v.kind ≠ 0):zJk f.kind (zQu f v)=v/\okS f.kind (zQu f v)=true:=by
 cases h with
 | nil hv hn=>rw[hv]at h0;exact absurd rfl h0
 | truth hk hw hv hn=>
  have e:zQu f v=[if v.n=1 then 84 else 70]:=by unfold zQu;rw[if_neg h0,if_pos hk]
  rw[e];unfold zJk okS;rw[if_pos hk,if_pos hk]
  rcases hn with hn|hn
  ·rw[hn];refine⟨?_,by decide⟩;rw[hv,hn];rfl
  ·rw[hn];refine⟨?_,by decide⟩;rw[hv,hn];rfl
 | num hk hw hv hn hl=>
  have e:zQu f v=List.replicate (f.width.toNat - (zJq v.n).length) 32 ++ zJq v.n:=by unfold zQu;rw[if_neg h0,if_neg (by omega),if_neg (by omega),if_neg (by omega),if_neg (by omega)]
  rw[e];unfold zJk okS
  rw[if_neg (by omega),if_neg (by omega),if_neg (by omega),if_neg (by omega),if_pos hk,zYD,yKd hn,yYV]
  exact⟨hv.symm,rfl⟩
 | date hk hw hv hn=>
  have e:zQu f v=zK5 v.n:=by unfold zQu;rw[if_neg h0,if_neg (by omega),if_pos hk]
  rw[e];unfold zJk okS
  rw[if_neg (by omega),if_pos hk,if_neg (by omega),if_neg (by omega),if_pos hk,yX6 hn]
  exact⟨hv.symm,rfl⟩
 | text hk hw hv hl hb ht=>
  have e:zQu f v=yQ0 f v:=by unfold zQu;rw[if_neg h0,if_neg (by omega),if_neg (by omega),if_pos hk]
  rw[e];unfold zJk okS yQ0
  rw[if_neg (by omega),if_neg (by omega),if_pos hk,if_neg (by omega),if_neg (by omega),if_neg (by omega),zYt,hb,yJt]
  exact⟨hv.symm,rfl⟩
 | memo hk hw hv hn=>
  have e:yQr (zQu f v)=v.n:=by
   unfold zQu
   rw[if_neg h0,if_neg (by omega),if_neg (by omega),if_neg (by omega)]
   by_cases hz:v.n=0
   ·rw[if_pos ⟨hk,hz⟩,hz,hw];decide
   ·rw[if_neg (by simp[hz]),zYD,yKd (by omega)]
  unfold zJk okS
  rw[if_neg (by omega),if_neg (by omega),if_neg (by omega),if_neg (by omega),if_neg (by omega),if_neg (by omega),e]
  exact⟨hv.symm,rfl⟩
theorem xKC(s:ByteArray)(c:UInt8):(s.toList == (⟨#[c]⟩:ByteArray).toList)=decide (s.data.toList=[c]):=by
 rw[zX8]
 exact zZ9 ⟨λh=>by rw[h],λh=>zQU (by rw[h])⟩
theorem yJ9(s:ByteArray)(w:World):Calls prog 181 #[.string s] w λe w'=>e=.returned (.tuple #[zJ6 (zJk 1 s.data.toList),.bool (okS 1 s.data.toList)])/\Pu w w':=by
 refine yWB _ w _ (alB λw1 ar aB=>yQA rfl s25.symm rfl λw2 aq sL aM=>?_)
 have hlt:w.heap.size<w1.heap.size:=zQx aB
 have b1:=aq.blk aB
 rw[xKC,xKC]
 unfold zJk okS
 rw[if_pos rfl,if_pos rfl]
 refine Br.of (λd=>?_) (λd=>⟨_,cl aM 0,_,cl aM 1,_,cl aM 2,Br.of (λd1=>absurd d1 (by rw[d];simp)) (λd1=>zQi b1 s25.symm rfl rfl λw3 bn fT qU=>⟨_,cl bn 0,_,cl bn 1,_,cl bn 2,?_,ar.trans aq |>.andNew fT λi hi=>by omega⟩)⟩)
 ·show st1 ((⟨w1.heap.size,0,none⟩:Addr).add 1) _ w2 _
  rw[zQr]
  refine zQt aM (by decide) λw3 tA bn=>?_
  have fT:Fr (·=w1.heap.size) w2 w3:=by rw[tA];exact Fr.cell w2 _ _ _
  have b3:=fT.blk b1 (show ¬w.heap.size=w1.heap.size by omega)
  have au:Pu w w3:=(ar.trans aq).andNew fT λi hi=>by omega
  refine⟨_,cl bn 0,_,cl bn 1,_,cl bn 2,Br.t d (zQi b3 s25.symm rfl rfl λw4 dm gi yt=>⟨_,cl dm 0,_,cl dm 1,_,cl dm 2,?_,au.andNew gi λi hi=>by omega⟩)⟩
  rw[if_pos (zQk d),d];rfl
 ·rw[if_neg (zQd d),d];simp
theorem xQZ(l:List UInt8):(Lib.trimB l 32=[]) ↔ l.all (· == 32)=true:=by
 unfold Lib.trimB Lib.trimLeftB Lib.trimRightB
 rw[zZk,List.all_reverse,zZq,List.all_reverse]
theorem xZb(s:ByteArray)(hs:s.size<=140737488355328)(w:World):Calls prog 183 #[.string s] w λe w'=>e=.returned (.tuple #[zJ6 (zJk 2 s.data.toList),.bool (okS 2 s.data.toList)])/\Pu w w':=by
 refine yWo _ w _ (alB λw1 ar aB=>(xXR s hs w1).mono ?_)
 rintro e w2 ⟨rfl,aq⟩
 refine⟨_,rfl,(Any.strings_Trim_one Tryz.lays160 s 32 (by decide) w2 (by omega)).mono ?_⟩
 rintro e w3 ⟨rfl,tA⟩
 have au:Pu w2 w3:=by
  rcases tA with h|h
  ·rw[h];exact Pu.refl _
  ·rw[h];exact Pu.drew _
 refine⟨_,rfl,zQi ((aq.trans au).blk aB) s25.symm rfl rfl λw4 bn fT qU=>⟨_,cl bn 0,_,cl bn 1,_,cl bn 2,?_,(ar.trans (aq.trans au)).andNew fT λi hi=>by omega⟩⟩
 rw[zZf]
 have e:decide ((ByteArray.mk (Lib.trimB s.data.toList 32).toArray).size=0)=s.data.toList.all (· == 32):=by
  have h1:((ByteArray.mk (Lib.trimB s.data.toList 32).toArray).size=0) ↔ s.data.toList.all (· == 32)=true:=by
   rw[←xQZ];simp[ByteArray.size]
  rw[Bool.eq_iff_iff,decide_eq_true_iff];exact h1
 rw[e];rfl
theorem yWX(s:ByteArray)(hs:s.size<=140737488355328)(w:World):Calls prog 185 #[.string s] w λe w'=>e=.returned (.tuple #[zJ6 (zJk 3 s.data.toList),.bool (okS 3 s.data.toList)])/\Pu w w':=by
 refine yWF _ w _ (alB λw1 ar aB=>(xXD s hs w1).mono ?_)
 rintro e w2 ⟨rfl,aq⟩
 exact⟨_,_,rfl,zQi (aq.blk aB) s25.symm rfl rfl λw3 bn fT qU=>⟨_,cl bn 0,_,cl bn 1,_,cl bn 2,rfl,(ar.trans aq).andNew fT λi hi=>by omega⟩⟩
theorem yV3(s:ByteArray)(hs:s.size<=140737488355328)(w:World):Calls prog 187 #[.string s] w λe w'=>e=.returned (.tuple #[zJ6 (zJk 4 s.data.toList),.bool (okS 4 s.data.toList)])/\Pu w w':=by
 refine yVA _ w _ (alB λw1 ar aB=>(zYs s hs w1).mono ?_)
 rintro e w2 ⟨rfl,aq⟩
 exact⟨_,rfl,zQi (aq.blk aB) s25.symm rfl rfl λw3 bn fT qU=>⟨_,cl bn 0,_,cl bn 1,_,cl bn 2,rfl,(ar.trans aq).andNew fT λi hi=>by omega⟩⟩
theorem yVD(s:ByteArray)(hs:s.size<=140737488355328)(w:World):Calls prog 189 #[.string s] w λe w'=>e=.returned (.tuple #[zJ6 (zJk 5 s.data.toList),.bool (okS 5 s.data.toList)])/\Pu w w':=by
 refine yW5 _ w _ (alB λw1 ar aB=>(xXR s hs w1).mono ?_)
 rintro e w2 ⟨rfl,aq⟩
 exact⟨_,rfl,zQi (aq.blk aB) s25.symm rfl rfl λw3 bn fT qU=>⟨_,cl bn 0,_,cl bn 1,_,cl bn 2,rfl,(ar.trans aq).andNew fT λi hi=>by omega⟩⟩
theorem xZL{f:Fld}(hf:zQo f=true):∃K,zXd f.kind=some K/\zQ6 prog K.rd=true/\∀(s:ByteArray),s.size<=140737488355328->∀w,Calls prog K.rd #[.string s] w λe w'=>e=.returned (.tuple #[zJ6 (zJk f.kind s.data.toList),.bool (okS f.kind s.data.toList)])/\Pu w w':=by
 rcases yZG hf with⟨e,_⟩|⟨e,_⟩|⟨e,_⟩|⟨e,_⟩|⟨e,_⟩
 ·rw[e];exact⟨_,rfl,by kernel_rfl,λs _ w=>yJ9 s w⟩
 ·rw[e];exact⟨_,rfl,by kernel_rfl,xZb⟩
 ·rw[e];exact⟨_,rfl,by kernel_rfl,yWX⟩
 ·rw[e];exact⟨_,rfl,by kernel_rfl,yV3⟩
 ·rw[e];exact⟨_,rfl,by kernel_rfl,yVD⟩
end Go.Proofs.YtaeecpjhfmcliaaGreatDoor
/- Table: rows that a conversion of a text has made. No condition. -/
namespace Go.Proofs.YtaeecpjhfmcliaaGreatDoor
open Go.Sh Go.RowKit Tryz
def yZZ(w0 w:World)(s:SV)(l:List UInt8):Prop:=∃(g:Nat) (cur:Array Value) (fz:Nat × Nat),s.a=some ⟨g,0,none⟩/\w.heap[g]?=some (.cells cur 5 fz)/\cur.size<=fz.1/\s.len=l.length/\s.len<=s.cap/\s.cap<=maxLen/\cur.size=s.cap/\cur.toList.take s.len=l.map u8V/\w0.heap.size<=g
def zWT(w0 w:World)(s:SV)(l:List UInt8):Prop:=yZZ w0 w s l∨zQh w0 w s l
theorem zWT.pu{w0 w w':World}{s:SV}{l:List UInt8}(h:zWT w0 w s l)(hp:Pu w w'):zWT w0 w' s l:=by
 rcases h with⟨g,cur,fz,h1,h2,h3⟩|h
 ·exact .inl ⟨g,cur,fz,h1,hp.blk h2,h3⟩
 ·exact .inr (h.pu hp)
theorem zWT.len{w0 w:World}{s:SV}{l:List UInt8}(h:zWT w0 w s l):s.len=l.length:=by
 rcases h with⟨g,cur,fz,h1,h2,h3,h4,_⟩|h
 ·exact h4
 ·exact h.len
theorem yZZ.cell {w0 w:World} {s:SV} {l:List UInt8} (h:yZZ w0 w s l) {j:Nat} {b:UInt8} (hj:l[j]?=some b):∃a,s.a=some a/\w.cell? (a.add j)=some (u8V b):=by
 obtain⟨g,cur,fz,h1,h2,h3,h4,h5,h6,h7,h8,_⟩:=h
 refine⟨_,h1,?_⟩
 rw[zQr,zQI h2,Nat.zero_add]
 have e:(cur.toList.take s.len)[j]?=some (u8V b):=by rw[h8,List.getElem?_map,hj];rfl
 rw[List.getElem?_take]at e
 split at e
 ·simpa using e
 ·cases e
theorem zWT.cell {w0 w:World} {s:SV} {l:List UInt8} (h:zWT w0 w s l) {j:Nat} {b:UInt8} (hj:l[j]?=some b):∃a,s.a=some a/\w.cell? (a.add j)=some (u8V b):=by
 rcases h with h|h
 ·exact h.cell hj
 ·exact h.cell hj
theorem zWT.low{w0 w1 w:World}{s:SV}{l:List UInt8}(h:zWT w1 w s l)(hz:w0.heap.size<=w1.heap.size):zWT w0 w s l:=by
 rcases h with⟨g,cur,fz,h1,h2,h3,h4,h5,h6,h7,h8,h9⟩|h
 ·exact .inl ⟨g,cur,fz,h1,h2,h3,h4,h5,h6,h7,h8,Nat.le_trans hz h9⟩
 ·exact .inr (h.low hz)
theorem yZZ.push {w0 w:World} {s:SV} {l:List UInt8} (h:yZZ w0 w s l) (hz:w0.heap.size<=w.heap.size) {r:Nat} {b:UInt8} {c:Array Value} (hr:w.heap[r]?=some (.cells c 5)) (hc:c[0]?=some (u8V b)) (hb:l.length<=1000000) :
  ∃(s':SV) (w':World),(Builtin.append_ #[22,22] 22 #[.slice s.a s.len s.cap,.slice (some ⟨r,0,none⟩) 1 1]).run prog w=.ok (.slice s'.a s'.len s'.cap) w'/\zWT w0 w' s' (l ++ [b])/\Fr (· ∈ zQe s) w w':=by
 have hcell:=λ(j:Nat) (x:UInt8) (hj:l[j]?=some x)=>h.cell hj
 obtain⟨g,cur,fz,h1,h2,h3,h4,h5,h6,h7,h8,h9⟩:=h
 have hi:=yVo
 obtain⟨i,i1,i2,i3,i4⟩:=info_parts hi
 have hnews:∀j u,[u8V b][j]?=some u->w.cell? ((⟨r,0,none⟩:Addr).add j)=some u:=λj u hu=>by
  cases j with
  | zero=>simp at hu;subst hu;rw[yYf,zQI hr];exact hc
  | succ j=>simp at hu
 have hgl:g<w.heap.size:=zQx h2
 by_cases hroom:s.len+1<=s.cap
 ·have hin:s.len<cur.size:=by omega
  have hfro:w.frozen? ⟨g,s.len,none⟩=false:=by
   obtain⟨lo,hi'⟩:=fz
   simp only[World.frozen?,h2,Bool.and_eq_false_iff,decide_eq_false_iff_not]
   left;simp only at h3;omega
  have hcl:w.cell? ⟨g,s.len,none⟩=some cur[s.len]:=by rw[zQI h2];simp[hin]
  have hst:(storeCells ⟨g,s.len,none⟩ [u8V b] 0).run prog w=.ok () (w.setCell ⟨g,s.len,none⟩ (u8V b)):=by
   simp only[storeCells,Sem.run_bind,zQr,Nat.add_zero]
   rw[run_store prog w _ _ _ rfl,hcl]
   simp[hfro]
  have hf:=run_firstCells_some (P:=prog) w i.size 1 ⟨r,0,none⟩ 1 1 [u8V b] (by rw[i3];rfl) hnews
  have hrun:(Builtin.append_ #[22,22] 22 #[.slice s.a s.len s.cap,.slice (some ⟨r,0,none⟩) 1 1]).run prog w=.ok (.slice s.a (s.len+1) s.cap) (w.setCell ⟨g,s.len,none⟩ (u8V b)):=by
   rw[h1]
   rw[i3]at hf
   simp[Builtin.append_,run_underlying u37,sizeOf,typeInfo,i1,i3,Builtin.lenOf,hroom,hf,Addr.add_lit,hst]
  refine⟨⟨s.a,s.len+1,s.cap⟩,_,hrun,.inl ⟨g,cur.setIfInBounds s.len (u8V b),fz,h1,zJR h2 _ _,by rw[Array.size_setIfInBounds];exact h3,by simp[h4],hroom,h6,by rw[Array.size_setIfInBounds];exact h7,?_,h9⟩,?_⟩
  ·rw[Array.toList_setIfInBounds,List.map_append,←h8]
   apply List.ext_getElem?
   intro j
   show(List.take (s.len+1) _)[j]?=_
   rw[List.getElem?_take]
   rcases Nat.lt_trichotomy j s.len with hj|hj|hj
   ·rw[if_pos (by omega),List.getElem?_set_ne (by omega),List.getElem?_append_left (by rw[List.length_take,Array.length_toList];omega),List.getElem?_take,if_pos hj]
   ·subst hj
    rw[if_pos (by omega),List.getElem?_set_self (by rw[Array.length_toList];exact hin),List.getElem?_append_right (by rw[List.length_take];omega),List.length_take,Array.length_toList,show s.len - min s.len cur.size=0 by omega];rfl
   ·rw[if_neg (by omega),List.getElem?_eq_none]
    rw[List.length_append,List.length_take,List.length_map,List.length_singleton];omega
  ·have:=Fr.setCell w ⟨g,s.len,none⟩ (u8V b)
   exact⟨this.os,this.tape,this.output,this.size,λk hk hn=>this.block k hk (λe=>hn (by simp[zQe,h1,e]))⟩
 ·have hlen:(l.map u8V).length=s.len * i.size:=by rw[i3,List.length_map];omega
  have holds:∀j u,(l.map u8V)[j]?=some u->w.cell? ((⟨g,0,none⟩:Addr).add j)=some u:=λj u hu=>by
   obtain⟨x,hx,rfl⟩:∃x,l[j]?=some x/\u8V x=u:=by simpa using hu
   obtain⟨a,ha,hca⟩:=hcell j x hx
   rw[h1]at ha;cases ha;exact hca
  have hrun:=run_append_grow (P:=prog) w 22 37 5 i (.int .u8 0) u37 i1 i2 ⟨g,0,none⟩ s.len s.cap (l.map u8V) hlen holds ⟨r,0,none⟩ 1 1 [u8V b] (by rw[i3];rfl) hnews (by omega) (by omega) (growslice_fits (by omega) (by rw[i4];omega))
  have hge:=grownCap_ge w (s.len+1) s.cap 5
  have hcm:grownCap w (s.len+1) s.cap 5<=maxLen:=grownCap_le_maxLen w (s.len+1) s.cap 5 (by unfold maxLen;omega)
  refine⟨⟨some ⟨w.heap.size,0,none⟩,s.len+1,grownCap w (s.len+1) s.cap 5⟩,_,by rw[h1];exact hrun,.inr ⟨⟨by simp[h4],.inr ⟨w.heap.size,_,rfl,heap_alloc_new w.drew _,hge,hcm,?_,?_⟩⟩,λk hk=>by simp[zQe]at hk;omega⟩,?_⟩
  ·simp only[Array.size_append,List.size_toArray,List.length_map,List.length_singleton,size_zeroCells]
   show l.length+1+(grownCap w (s.len+1) s.cap 5 - (s.len+1)) * 1=_
   show l.length+1+(grownCap w (s.len+1) s.cap 5 - (s.len+1)) * 1=grownCap w (s.len+1) s.cap 5 * 1
   omega
  ·simp only[Array.toList_append,List.append_assoc]
   rw[←List.append_assoc,List.map_append]
   have e:(List.map u8V l ++ [u8V b]).length=(s.len+1) * 1:=by simp[h4]
   show List.take ((s.len+1) * 1) _=_
   rw[←e]
   exact List.take_left
  ·exact(Fr.drew w).trans (Fr.alloc w.drew _) λi hi _=>hi
theorem zWT.push {w0 w:World} {s:SV} {l:List UInt8} (h:zWT w0 w s l) (hp:Pu w0 w) {r:Nat} {b:UInt8} {c:Array Value} (hr:w.heap[r]?=some (.cells c 5)) (hc:c[0]?=some (u8V b)) (hb:l.length<=1000000) :
  ∃(s':SV) (w':World),(Builtin.append_ #[22,22] 22 #[.slice s.a s.len s.cap,.slice (some ⟨r,0,none⟩) 1 1]).run prog w=.ok (.slice s'.a s'.len s'.cap) w'/\zWT w0 w' s' (l ++ [b])/\Pu w0 w':=by
 rcases h with h|h
 ·obtain⟨g,cur,fz,h1,_,_,_,_,_,_,_,h9⟩:=id h
  obtain⟨s',w',e,h2,f⟩:=h.push hp.size hr hc hb
  exact⟨s',w',e,h2,hp.andNew f λi hi=>by simp[zQe,h1]at hi;omega⟩
 ·obtain⟨s',w',e,h2,f⟩:=h.one hp.size hr hc (by omega)
  exact⟨s',w',e,.inr h2,hp.andNew f λi hi=>h.2 i hi⟩
end Go.Proofs.YtaeecpjhfmcliaaGreatDoor
/- Table: the reference's header and row. No condition. -/
namespace Go.Proofs.YtaeecpjhfmcliaaGreatDoor
open Go.Sh Go.RowKit Tryz
theorem zQh.cat {w1 w:World} {s m:SV} {l news:List UInt8} (h:zQh w1 w s l) (hp:Pu w1 w) (hl:m.len=news.length) (hn:∀(j:Nat) (b:UInt8),news[j]?=some b->∃a,m.a=some a/\w.cell? (a.add j)=some (u8V b)) (hb:l.length+news.length<=2000000) :
  ∃(s':SV) (w':World),(Builtin.append_ #[22,22] 22 #[.slice s.a s.len s.cap,.slice m.a m.len m.cap]).run prog w=.ok (.slice s'.a s'.len s'.cap) w'/\zQh w1 w' s' (l ++ news)/\Pu w1 w':=by
 obtain⟨s',w',e,h2,f⟩:=h.app hp.size hl hn (by omega)
 exact⟨s',w',e,h2,hp.andNew f λi hi=>h.2 i hi⟩
theorem xQA {w:World} {r:Nat} {c:Array Value} {news:List UInt8} (hr:w.heap[r]?=some (.cells c 5)) (hc:c=(news.map u8V).toArray):∀(j:Nat) (b:UInt8),news[j]?=some b->∃a,(some (⟨r,0,none⟩:Addr))=some a/\w.cell? (a.add j)=some (u8V b):=λj b hj=>by
 refine⟨_,rfl,?_⟩
 rw[cl hr,hc];simp[hj]
end Go.Proofs.YtaeecpjhfmcliaaGreatDoor
/- Table: the bytes of a table; the law on them. No condition. -/
namespace Go.Proofs.YtaeecpjhfmcliaaGreatDoor
open Go.Sh Go.RowKit Tryz
def zQj(t:Tbl):List UInt8:=zJA t ++ t.recs.flatMap (zJO zQu t.fields) ++ [26]
def zQC(t:Tbl):List UInt8:=if zQf t=0 then zQj t else []
structure zJg(t:Tbl):Prop where
 page:zQX t.page=true
 vf:zQV t.fields=0
 ne:t.fields ≠ []
 all:t.fields.all zQo=true
 n16:t.fields.length<=16
 w2:zXK t.fields<=2000
 m300:t.recs.length<=300
 recs:∀x ∈ t.recs,zXC t.fields t.page x.v
theorem zJg.of{t:Tbl}(h:zQf t=0):zJg t:=by
 obtain⟨hpg,hvf,cM,hfb⟩:=zW9 h
 obtain⟨h0,hall,_,iY,hw⟩:=zXn hvf
 exact⟨hpg,hvf,h0,hall,iY,hw,cM,λx hx=>zXC.of hall (zJo hfb x hx)⟩
theorem zWP{t:Tbl}(h:zJg t):(zJA t).length=13+16 * t.fields.length:=by
 have:∀{l:List Fld},l.all zQo=true->(l.flatMap zQN).length=16 * l.length:=by
  intro l
  induction l with
  | nil=>intro _;rfl
  | cons f l ih=>
   intro hl
   rw[List.flatMap_cons,List.length_append,zZ6 (zXb (List.all_eq_true.1 hl f (by simp))).2.1,ih (List.all_eq_true.2 λg hg=>List.all_eq_true.1 hl g (by simp[hg])),List.length_cons]
   omega
 unfold zJA
 simp only[List.length_append,zXp,List.length_cons,List.length_nil,this h.all]
 omega
theorem zYc{t:Tbl}(h:zJg t):∀k,k<=t.recs.length->(((t.recs.take k).flatMap (zJO zQu t.fields)).length:Int)=k * zXK t.fields
 | 0,_=>by simp
 | k+1,hk=>by
  obtain⟨x,hx⟩:=zQM (show k<t.recs.length by omega)
  rw[zQD hx,List.flatMap_append,List.length_append,List.flatMap_cons,List.flatMap_nil,List.append_nil]
  have h1:=zYc h k (by omega)
  have h2:=zKN h.all (h.recs x (List.mem_of_getElem? hx))
  rw[Int.natCast_add,h1,h2,Int.natCast_add,Int.add_mul];omega
theorem yZl {α β:Type} (g:α->List β) {l:List α} {k:Nat} {x:α} (h:l[k]?=some x):(l.take (k+1)).flatMap g=(l.take k).flatMap g ++ g x:=by
 rw[zQD h,List.flatMap_append];simp
theorem xQi{t:Tbl}(h:zJg t)(k:Nat)(hk:k<=t.recs.length):((t.recs.take k).flatMap (zJO zQu t.fields)).length<=600000:=by
 have h1:=zYc h k hk
 have h2:=h.m300
 have h3:=h.w2
 have h4:(k:Int) * zXK t.fields<=300 * 2000:=by
  have hw:0<=zXK t.fields:=by have:=zJs (WOk.of h.all);unfold zXK;omega
  exact Int.mul_le_mul (by omega) h3 hw (by omega)
 omega
theorem yQP{w:World}{t:Tbl}{f r:SV}(h:zX2 w t f r)(ho:zJg t):Calls prog 123 #[zVb t f r] w λe w'=>∃q:SV,e=.returned (.slice q.a q.len q.cap)/\zQh w w' q (zQj t)/\Pu w w':=by
 have hm:=ho.m300
 have iY:=ho.n16
 have hrl:=h.recs.len
 have hh:=zWP ho
 refine yVv _ _ _ w _ (alB λw1 ar aB=>⟨_,cl aB 0,_,cl aB 1,_,cl aB 2,(yKm (h.pu ar) ho.vf (by omega)).mono ?_⟩)
 rintro e w2 ⟨q,rfl,hq,aq⟩
 refine⟨q,rfl,_,cl (aq.blk aB) 2,?_⟩
 refine zQw t.recs.length (λk u w'=>u.2=(k:Int)/\zQh w1 w' u.1 (zJA t ++ (t.recs.take k).flatMap (zJO zQu t.fields))/\Pu w1 w') ⟨rfl,by simpa using hq,aq⟩ ?_
 rintro k J ⟨u1,u2⟩ w3 hk ⟨tx,hr,hp⟩ hJ
 obtain rfl:u2=(k:Int):=tx
 have hr:zQh w1 w3 u1 (zJA t ++ (t.recs.take k).flatMap (zJO zQu t.fields)):=hr
 have hrs:=xQi ho k hk
 dsimp only
 refine Br.of (λd=>?_) (λd=>?_)
 ·have aJ:k<t.recs.length:=by have:=zQk d;omega
  obtain⟨x,hx⟩:=zQM aJ
  have hR:=ho.recs x (List.mem_of_getElem? hx)
  obtain⟨a,s,ha,hi,hs,c0,c1⟩:=zWk (h.recs.pu (ar.trans hp)) hx
  refine⟨a,ha,by omega,by omega,_,c0,s,c1,yQA rfl s46.symm rfl λw4 aK yt dm=>⟨_,cl ((hp.trans aK).blk aB) 1,_,cl dm 0,s,cl dm 1,?_⟩⟩
  refine(row_c (sh:=zQu) (r:=x) (h.fields.pu (ar.trans (hp.trans aK))) (hs.pu aK) hR.1 iY (WOk.of ho.all) (hR.writes ho.all) (hR.ne ho.all ho.ne)).mono ?_
  rintro e w5 ⟨m,rfl,hm5,aR⟩
  have hl5:=zKN ho.all hR
  have nA:=ho.w2
  obtain⟨q',w6,e6,r6,p6⟩:=((hr.pu aK).pu aR).cat ((hp.trans aK).trans aR) (m:=m) hm5.len (λj b hj=>hm5.cell hj) (by rw[List.length_append];omega)
  refine⟨m,rfl,q',w6,e6,?_⟩
  rw[zQa (by omega) (by omega)]
  refine hJ _ _ aJ ⟨by dsimp only;omega,?_,p6⟩
  dsimp only
  rw[yZl _ hx,←List.append_assoc];exact r6
 ·have aJ:k=t.recs.length:=by have:=zQd d;omega
  subst aJ
  rw[List.take_length]at hr hrs
  refine alB λw4 aK dm=>?_
  obtain⟨q',w5,e5,r5,p5⟩:=(hr.pu aK).cat (hp.trans aK) (m:=⟨some ⟨w3.heap.size,0,none⟩,1,1⟩) (news:=[26]) rfl (xQA dm rfl) (by rw[List.length_append,List.length_singleton];omega)
  exact⟨q',w5,e5,q',rfl,r5.low ar.size,ar.trans p5⟩
theorem yXt{w:World}{t:Tbl}{f r:SV}(h:zX2 w t f r)(hl:Lim.ok t.fields):Calls prog 86 #[zVb t f r] w λe w'=>∃q:SV,e=.returned (.tuple #[.slice q.a q.len q.cap,.int .i64 (zQf t)])/\zQh w w' q (zQC t)/\Pu w w':=by
 refine xQc _ _ _ w _ (alB λw1 ar aB=>⟨_,cl aB 0,_,cl aB 1,_,cl aB 2,(zZ7 (h.pu ar) hl).mono ?_⟩)
 rintro e w2 ⟨rfl,aq⟩
 have b2:=aq.blk aB
 refine⟨_,rfl,Br.of (λd=>⟨⟨none,0,0⟩,rfl,by unfold zQC;rw[if_neg (zQ2 d)];exact zQh.nil w w2,ar.trans aq⟩) (λd=>?_)⟩
 have hv:=zQs d
 refine⟨_,cl b2 0,_,cl b2 1,_,cl b2 2,(yQP (h.pu (ar.trans aq)) (zJg.of hv)).mono ?_⟩
 rintro e w3 ⟨q,rfl,hq,au⟩
 exact⟨q,rfl,q,by rw[hv],by unfold zQC;rw[if_pos hv];exact hq.low (ar.trans aq).size,(ar.trans aq).trans au⟩
end Go.Proofs.YtaeecpjhfmcliaaGreatDoor
/- Table: bytes that are handed in; parts of a row's bytes. No condition. -/
namespace Go.Proofs.YtaeecpjhfmcliaaGreatDoor
open Go.Sh Go.RowKit Tryz
theorem addr2(a:Addr)(i j:Nat):(a.add i).add j=a.add (i+j):=by
 unfold Addr.add
 by_cases hi:i=0
 ·subst hi;simp
 ·by_cases hj:j=0
  ·subst hj;simp[hi]
  ·simp[hi,hj,Nat.add_assoc]
structure ByV(w:World)(s:SV)(d:List UInt8):Prop where
 len:s.len=d.length
 cap:s.len<=s.cap
 lim:s.len<=140737488355328
 get:∀(j:Nat) (b:UInt8),d[j]?=some b->∃a,s.a=some a/\w.cell? (a.add (j * 1))=some (u8V b)
theorem ByV.pu{w w':World}{s:SV}{d:List UInt8}(h:ByV w s d)(hp:Pu w w'):ByV w' s d:=⟨h.len,h.cap,h.lim,λj b hj=>by
 obtain⟨a,h1,h2⟩:=h.get j b hj
 exact⟨a,h1,hp.cell h2⟩⟩
theorem ByV.of{w:World}{s:SV}{d:List UInt8}(h:zX3 w s d):ByV w s d:=⟨h.len,h.cap,h.lim,λj b hj=>by
 obtain⟨a,h1,_,h2⟩:=h.u8 hj
 exact⟨a,h1,h2⟩⟩
theorem zQh.by{w0 w:World}{s:SV}{d:List UInt8}(h:zQh w0 w s d)(hb:d.length<=140737488355328):ByV w s d:=⟨h.len,h.1.le_cap.1,by have:=h.len;omega,λj b hj=>by
 obtain⟨a,h1,h2⟩:=h.cell hj
 exact⟨a,h1,by rw[Nat.mul_one];exact h2⟩⟩
theorem xXq {d:List UInt8} {lo n j:Nat} {b:UInt8} (h:((d.drop lo).take n)[j]?=some b):d[lo+j]?=some b:=by
 rw[List.getElem?_take]at h
 split at h
 ·rw[List.getElem?_drop]at h;exact h
 ·cases h
theorem ByV.sub{w:World}{s:SV}{d:List UInt8}(h:ByV w s d){lo hi:Nat}(h1:lo<=hi)(h2:hi<=d.length):ByV w ⟨if s.cap=lo then s.a else s.a.map (λx=>x.add (lo * 1)),hi - lo,s.cap - lo⟩ ((d.drop lo).take (hi - lo)):=by
 have hl:=h.len
 have hc:=h.cap
 have hm:=h.lim
 refine⟨by rw[List.length_take,List.length_drop];show hi - lo=_;omega,by show hi - lo<=s.cap - lo;omega,by show hi - lo<=_;omega,λj b hj=>?_⟩
 have kj:=xXq hj
 obtain⟨a,ha,hcell⟩:=h.get _ _ kj
 have hlt:=(List.getElem?_eq_some_iff.1 kj).1
 have xN:=(List.getElem?_eq_some_iff.1 hj).1
 rw[List.length_take,List.length_drop]at xN
 refine⟨a.add (lo * 1),?_,?_⟩
 ·show(if s.cap=lo then s.a else s.a.map (λx=>x.add (lo * 1)))=_
  rw[if_neg (by omega),ha];rfl
 ·rw[addr2,show lo * 1+j * 1=(lo+j) * 1 by omega];exact hcell
theorem ByV.part3{w:World}{s:SV}{d:List UInt8}(h:ByV w s d){lo hi:Nat}(h1:lo<=hi)(h2:hi<=d.length):∃l:SV,(Instr.sliceAt 22 (.slice s.a s.len s.cap) (some (.int .i64 (lo:Int))) (some (.int .i64 (hi:Int))) (some (.int .i64 (hi:Int)))).run prog w=.ok (.slice l.a l.len l.cap) w/\ByV w l ((d.drop lo).take (hi - lo)):=by
 have hl:=h.len
 have hc:=h.cap
 have hm:=h.lim
 have hs:(sizeOf 5).run prog w=.ok 1 w:=Tryz.sizeOf5 w
 refine⟨⟨if hi=lo then s.a else s.a.map (λx=>x.add (lo * 1)),hi - lo,hi - lo⟩,?_,by rw[List.length_take,List.length_drop];show hi - lo=_;omega,Nat.le_refl _,by show hi - lo<=_;omega,λj b hj=>?_⟩
 ·simp[Instr.sliceAt,zQn u37,Instr.slice,hs,Instr.sliceBounds,Instr.sliceBound,asIntOf,show hi<=s.cap by omega,h1]
 ·have kj:=xXq hj
  obtain⟨a,ha,hcell⟩:=h.get _ _ kj
  have xN:=(List.getElem?_eq_some_iff.1 hj).1
  rw[List.length_take,List.length_drop]at xN
  refine⟨a.add (lo * 1),?_,?_⟩
  ·show(if hi=lo then s.a else s.a.map (λx=>x.add (lo * 1)))=_
   rw[if_neg (by omega),ha];rfl
  ·rw[addr2,show lo * 1+j * 1=(lo+j) * 1 by omega];exact hcell
theorem yJe{w:World}{s:SV}{d:List UInt8}(h:ByV w s d):(convert 22 9 (.slice s.a s.len s.cap)).run prog w=.ok (.string (bs d)) w:=by
 have hl:=h.len
 rw[run_convert_bytes_string w 22 9 5 _ _ _ u37 u5 u9]
 cases ha:s.a with
 | none=>
  have hd:d=[]:=by
   cases d with
   | nil=>rfl
   | cons b d=>obtain⟨a,h1,_⟩:=h.get 0 b rfl;rw[ha]at h1;cases h1
  subst hd
  simp[Conv.bytesToString];rfl
 | some a=>
  have hld:(loadCells a s.len).run prog w=.ok ((d.map λb=>((b.toNat:Nat):Int)).map (Value.int .u8)).toArray w:=by
   have:=run_loadCells_list (P:=prog) w a ((d.map λb=>((b.toNat:Nat):Int)).map (Value.int .u8)) (λj v hj=>by
    simp only[List.getElem?_map,Option.map_map,Option.map_eq_some_iff]at hj
    obtain⟨b,hb,rfl⟩:=hj
    obtain⟨a',h1,h2⟩:=h.get j b hb
    rw[ha]at h1;cases h1
    rw[Nat.mul_one]at h2;exact h2)
   simpa[hl] using this
  rw[run_bytesToString w a s.len s.cap _ hld,foldl_push_bytes]
  congr 2
  apply zQU
  have e0:((⟨ByteArray.empty.data ++ (List.map (λn:Int=>UInt8.ofNat n.toNat) (d.map λb=>((b.toNat:Nat):Int))).toArray⟩:ByteArray)).data.toList=d.map ((λn:Int=>UInt8.ofNat n.toNat) ∘ λb=>((b.toNat:Nat):Int)):=by
   simp[ByteArray.empty,ByteArray.emptyWithCapacity];rfl
  refine e0.trans ?_
  show _=d
  conv=>rhs;rw[←List.map_id d]
  apply List.map_congr_left
  intro x _
  simp
def xQj(d:List UInt8):Nat:=d.foldr (λb a=>a * 256+b.toNat) 0
theorem yQa(b:UInt8)(d:List UInt8):xQj (b :: d)=xQj d * 256+b.toNat:=rfl
theorem xQR:∀d:List UInt8,xQj d<256 ^ d.length
 | []=>by simp[xQj]
 | b :: d=>by
  rw[yQa,List.length_cons,Nat.pow_succ]
  have:=xQR d
  have:=b.toNat_lt
  omega
theorem xJx{m:Nat}(h:m<4294967296):xQj (zVS m 4)=m:=by
 unfold zVS
 simp only[List.range,List.range.loop,List.map_cons,List.map_nil,yQa]
 have e:∀x:Nat,(UInt8.ofNat (x % 256)).toNat=x % 256:=λx=>by simp
 simp only[e,xQj,List.foldr_nil]
 omega
theorem or_low{a b:Nat}(ha:a<16777216)(hb:b<256):IntKind.i64.wrap ((BitVec.ofInt 64 (IntKind.i64.wrap ((a:Int) * 2 ^ 8)) ||| BitVec.ofInt 64 (IntKind.i64.wrap (b:Int))).toNat:Nat)=((a * 256+b:Nat):Int):=by
 rw[zQa (n:=(a:Int) * 2 ^ 8) (by omega) (by omega),zQa (n:=(b:Int)) (by omega) (by omega)]
 have e1:((a:Int) * 2 ^ 8)=((a * 256:Nat):Int):=by omega
 have e2:(BitVec.ofInt 64 ((a * 256:Nat):Int) ||| BitVec.ofInt 64 (b:Int)).toNat=a * 256+b:=by
  rw[BitVec.toNat_or]
  have h1:(BitVec.ofInt 64 ((a * 256:Nat):Int)).toNat=a * 256:=by rw[BitVec.ofInt_natCast,BitVec.toNat_ofNat];omega
  have h2:(BitVec.ofInt 64 (b:Int)).toNat=b:=by rw[BitVec.ofInt_natCast,BitVec.toNat_ofNat];omega
  rw[h1,h2]
  have:=Nat.shiftLeft_add_eq_or_of_lt (i:=8) (b:=b) (by omega) a
  rw[Nat.shiftLeft_eq]at this
  exact this.symm
 rw[e1,e2,zQa (by omega) (by omega)]
theorem xJw{w:World}{s:SV}{d:List UInt8}(h:ByV w s d)(h4:d.length=4):Calls prog 162 #[.slice s.a s.len s.cap] w λe w'=>e=.returned (.int .i64 (xQj d:Nat))/\Pu w w':=by
 refine yWp _ w _ ?_
 have hl:=h.len
 rw[yYI,zQa (by omega) (by omega)]
 refine zQw 4 (λk t w'=>t.1=(xQj (d.drop (4 - k)):Nat)/\t.2=3 - (k:Int)/\Pu w w') ⟨by rw[List.drop_eq_nil_of_le (by omega)];rfl,by dsimp only;omega,Pu.refl _⟩ ?_
 rintro k J ⟨t1,t2⟩ w2 hk ⟨h1,h2,hp⟩ hJ
 obtain rfl:t1=(xQj (d.drop (4 - k)):Nat):=h1
 obtain rfl:t2=3 - (k:Int):=h2
 dsimp only
 refine Br.of (λq=>?_) (λq=>?_)
 ·have aJ:k<4:=by have:=zQk q;omega
  obtain⟨b,hb⟩:=zQM (l:=d) (k:=3 - k) (by omega)
  obtain⟨a,ha,hc⟩:=(h.pu hp).get _ _ hb
  have hlt:=xQR (d.drop (4 - k))
  rw[List.length_drop,h4]at hlt
  have hlt3:xQj (d.drop (4 - k))<16777216:=Nat.lt_of_lt_of_le hlt (by
   rcases(by omega:k=0∨k=1∨k=2∨k=3)with rfl|rfl|rfl|rfl <;> decide)
  have hbl:=b.toNat_lt
  refine⟨by omega,a,ha,by omega,by omega,_,by rw[show(3 - (k:Int)).toNat=3 - k by omega];exact hc,?_⟩
  rw[or_low hlt3 hbl,zQa (by omega) (by omega)]
  refine hJ _ _ aJ ⟨?_,by dsimp only;omega,hp⟩
  dsimp only
  rw[show 4 - (k+1)=3 - k by omega,zXU hb,yQa,show 3 - k+1=4 - k by omega]
 ·have aJ:k=4:=by have:=zQd q;omega
  subst aJ
  exact⟨rfl,hp⟩
theorem bit_p:∀x:Nat,x<256->∀r:Nat,r<8->((IntKind.u8.wrap ((BitVec.ofInt 8 (((x:Nat):Int).fdiv (2 ^ (min r 8))) &&& BitVec.ofInt 8 1).toNat:Nat)) == 1)=x.testBit r:=by decide +kernel
def sum8(c0 c1 c2 c3 c4 c5 c6 c7:Bool):Nat:=(if c0 then 2 ^ 0 else 0)+(if c1 then 2 ^ 1 else 0)+(if c2 then 2 ^ 2 else 0)+(if c3 then 2 ^ 3 else 0)+(if c4 then 2 ^ 4 else 0)+(if c5 then 2 ^ 5 else 0)+(if c6 then 2 ^ 6 else 0)+(if c7 then 2 ^ 7 else 0)
theorem xJG:∀c0 c1 c2 c3 c4 c5 c6 c7:Bool,∀r:Nat,r<8->(UInt8.ofNat (sum8 c0 c1 c2 c3 c4 c5 c6 c7)).toNat.testBit r=[c0,c1,c2,c3,c4,c5,c6,c7].getD r false:=by decide +kernel
theorem yVF(bits:List Bool)(q:Nat){r:Nat}(hr:r<8):(UInt8.ofNat (zZx bits q)).toNat.testBit r=decide (bits[8 * q+r]?=some true):=by
 have e:zZx bits q=sum8 (decide (bits[8 * q+0]?=some true)) (decide (bits[8 * q+1]?=some true)) (decide (bits[8 * q+2]?=some true)) (decide (bits[8 * q+3]?=some true)) (decide (bits[8 * q+4]?=some true)) (decide (bits[8 * q+5]?=some true)) (decide (bits[8 * q+6]?=some true)) (decide (bits[8 * q+7]?=some true)):=by
  unfold zZx sum8 zKm
  simp only[decide_eq_true_eq]
 rw[e,xJG _ _ _ _ _ _ _ _ r hr]
 rcases(by omega:r=0∨r=1∨r=2∨r=3∨r=4∨r=5∨r=6∨r=7)with rfl|rfl|rfl|rfl|rfl|rfl|rfl|rfl <;> rfl
def zXV(l:List Fld)(k:Nat):Nat:=((l.take k).filter (·.null)).length
theorem yK3(l:List Fld)(k:Nat):zXV l k<=(l.filter (·.null)).length:=zZ8 l k
theorem zWm:∀{l:List Fld} {vs:List Val},vs.length=l.length->(zXv l vs).length=(l.filter (·.null)).length
 | [],_,_=>by simp[zXv]
 | f :: l,[],h=>by simp at h
 | f :: l,v :: vs,h=>by
  have ih:=zWm (l:=l) (vs:=vs) (by simpa using h)
  unfold zXv
  rw[List.filter_cons]
  by_cases hn:f.null=true
  ·rw[if_pos hn,if_pos hn];simp only[List.length_cons];omega
  ·rw[if_neg hn,if_neg hn];exact ih
theorem zY4:∀(l:List Fld) (vs:List Val) (k:Nat),zXv l vs=zXv (l.take k) (vs.take k) ++ zXv (l.drop k) (vs.drop k)
 | [],_,_=>by simp[zXv]
 | f :: l,[],k=>by
  have:zXv (f :: l) []=[]:=rfl
  rw[this]
  cases k with
  | zero=>simp[zXv]
  | succ k=>cases h:List.drop (k+1) (f :: l) <;> simp[zXv]
 | f :: l,v :: vs,0=>by simp[zXv]
 | f :: l,v :: vs,k+1=>by
  have ih:=zY4 l vs k
  simp only[List.take_succ_cons,List.drop_succ_cons]
  have e1:zXv (f :: l) (v :: vs)=if f.null then decide (v.kind=0) :: zXv l vs else zXv l vs:=rfl
  have e2:zXv (f :: l.take k) (v :: vs.take k)=if f.null then decide (v.kind=0) :: zXv (l.take k) (vs.take k)else zXv (l.take k) (vs.take k):=rfl
  rw[e1,e2]
  split
  ·rw[ih];rfl
  ·exact ih
theorem xJp {l:List Fld} {vs:List Val} (hl:vs.length=l.length) {k:Nat} {f:Fld} {v:Val} (hf:l[k]?=some f) (hv:vs[k]?=some v) (hn:f.null=true):(zXv l vs)[zXV l k]?=some (decide (v.kind=0)):=by
 have hk:=(List.getElem?_eq_some_iff.1 hf).1
 have h1:(zXv (l.take k) (vs.take k)).length=zXV l k:=zWm (by rw[List.length_take,List.length_take];omega)
 rw[zY4 l vs k,List.getElem?_append_right (by omega),h1,Nat.sub_self,zXU hf,zXU hv]
 unfold zXv;rw[if_pos hn];rfl
theorem yZh(sh:Fld->Val->List UInt8)(l:List Fld)(vs:List Val)(h:vs.length=l.length)(k:Nat):zXP sh l vs=zXP sh (l.take k) (vs.take k) ++ zXP sh (l.drop k) (vs.drop k):=by
 unfold zXP
 rw[←List.flatMap_append,←List.zip_append (by rw[List.length_take,List.length_take];omega),List.take_append_drop,List.take_append_drop]
theorem xJn {l:List Fld} {r:Rec} {d:List UInt8} (hd:zJO zQu l r=d) {b:UInt8} (hb:d[0]?=some b):b=yZR r.gone:=by
 rw[←hd]at hb
 unfold zJO at hb
 simpa using hb.symm
def yQ1(l:List Fld)(k:Nat):Nat:=1+zXo l+((l.take k).map (λx:Fld=>x.width)).sum.toNat
theorem xJ7 {l:List Fld} {p:Int} {r:Rec} {d:List UInt8} (hall:l.all zQo=true) (hR:zXC l p r.v) (hd:zJO zQu l r=d) {k:Nat} {f:Fld} {v:Val} (hf:l[k]?=some f) (hv:r.v[k]?=some v):(d.drop (yQ1 l k)).take f.width.toNat=zQu f v:=by
 have hk:=(List.getElem?_eq_some_iff.1 hf).1
 have h1:=zXR hall hR k (by omega)
 have hw:=(hR.2 k f v hf hv).len
 rw[←hd]
 unfold zJO yQ1
 have hlen:([yZR r.gone] ++ flN (zXo l) (zXv l r.v) ++ zXP zQu (l.take k) (r.v.take k)).length=1+zXo l+((l.take k).map (λx:Fld=>x.width)).sum.toNat:=by
  simp only[List.length_append,zVg,List.length_singleton];omega
 rw[yZh zQu l r.v hR.1 k,←List.append_assoc,List.drop_append,List.drop_eq_nil_of_le (by omega),hlen,Nat.sub_self,List.drop_zero,List.nil_append,zXU hf,zXU hv]
 unfold zXP
 rw[List.zip_cons_cons,List.flatMap_cons]
 dsimp only
 rw[zYz,List.take_append_of_le_length (by omega),List.take_of_length_le (by omega)]
theorem yKr {l:List Fld} {p:Int} {r:Rec} {d:List UInt8} (hR:zXC l p r.v) (hd:zJO zQu l r=d) {k:Nat} {f:Fld} {v:Val} (hf:l[k]?=some f) (hv:r.v[k]?=some v) (hn:f.null=true) {b:UInt8} (hb:d[1+zXV l k / 8]?=some b):b.toNat.testBit (zXV l k % 8)=decide (v.kind=0):=by
 have hc:=xJp hR.1 hf hv hn
 have hlt:=(List.getElem?_eq_some_iff.1 hc).1
 rw[zWm hR.1]at hlt
 have hq:zXV l k / 8<zXo l:=by unfold zXo;omega
 have e:b=UInt8.ofNat (zZx (zXv l r.v) (zXV l k / 8)):=by
  rw[←hd]at hb
  unfold zJO at hb
  rw[List.append_assoc,List.getElem?_append_right (by simp),List.getElem?_append_left (by simp[zVg];exact hq)]at hb
  simp only[List.length_singleton,Nat.add_sub_cancel_left]at hb
  rw[xWp hq]at hb
  exact(Option.some.inj hb).symm
 rw[e,yVF _ _ (Nat.mod_lt _ (by decide)),show 8 * (zXV l k / 8)+zXV l k % 8=zXV l k by omega,hc]
 simp
theorem zVz {l:List Fld} {k:Nat} {f:Fld} (hf:l[k]?=some f):zXV l (k+1)=if f.null then zXV l k+1 else zXV l k:=zWw hf
theorem xZy {l:List Fld} (hall:l.all zQo=true) {k:Nat} {f:Fld} (hf:l[k]?=some f):yQ1 l (k+1)=yQ1 l k+f.width.toNat:=by
 have h1:=zWF hf
 have h2:=zJs ((WOk.of hall).take k)
 have h3:=WOk.of hall f (List.mem_of_getElem? hf)
 unfold yQ1;rw[h1];omega
theorem xY3 {l:List Fld} (hall:l.all zQo=true) {k:Nat} {f:Fld} (hf:l[k]?=some f):((yQ1 l k+f.width.toNat:Nat):Int)<=zXK l:=by
 have hk:=(List.getElem?_eq_some_iff.1 hf).1
 have h1:=zWF hf
 have h2:=zJs ((WOk.of hall).take k)
 have h3:=WOk.of hall f (List.mem_of_getElem? hf)
 have h4:((l.take (k+1)).map (·.width)).sum<=(l.map (·.width)).sum:=by
  have e:l.map (·.width)=(l.take (k+1)).map (·.width) ++ (l.drop (k+1)).map (·.width):=by rw[←List.map_append,List.take_append_drop]
  have h5:=zJs (l:=l.drop (k+1)) λg hg=>WOk.of hall g (List.mem_of_mem_drop hg)
  rw[e,List.sum_append];omega
 unfold yQ1 zXK;omega
end Go.Proofs.YtaeecpjhfmcliaaGreatDoor
