import Derived.Test.YtaeecpjhfmcliaaGreatDoorLgOwC
import Derived.Test.YtaeecpjhfmcliaaGreatDoorLgOwA
import Derived.Test.YtaeecpjhfmcliaaGreatDoorLgPrA
import Derived.Test.YtaeecpjhfmcliaaGreatDoorLgPrB
/- Table: days and dates, as both packages compute them. No condition. -/
set_option maxRecDepth 100000
set_option linter.unusedVariables false
set_option linter.unusedSimpArgs false
noncomputable section
namespace Go.Proofs.YtaeecpjhfmcliaaGreatDoor
open Go.Sh Go.RowKit Tryz
theorem xXW(a b:Int):(a == b)=decide (a=b):=by simp[BEq.beq]
theorem zW6(n k:Nat):((n:Int)).tmod (k:Int)=((n % k:Nat):Int):=by rw[Int.tmod_eq_emod_of_nonneg (by omega)];norm_cast
theorem zKM(n k:Nat):((n:Int)).tdiv (k:Int)=((n / k:Nat):Int):=by rw[Int.tdiv_eq_ediv_of_nonneg (by omega)];norm_cast
theorem leap_c(n:Nat)(w:World):Calls prog 239 #[.int .i64 (n:Int)] w λe w'=>e=.returned (.bool (zKc n))/\Pu w w':=by
 have e4:(n:Int).tmod 4=((n % 4:Nat):Int):=zW6 n 4
 have sB:(n:Int).tmod 100=((n % 100:Nat):Int):=zW6 n 100
 have sC:(n:Int).tmod 400=((n % 400:Nat):Int):=zW6 n 400
 refine yKV _ w _ ⟨rfl,by decide,Br.of (λd=>⟨rfl,by decide,Br.of (λd1=>⟨?_,Pu.refl w⟩) (λd1=>⟨rfl,by decide,?_,Pu.refl w⟩)⟩) (λd=>⟨?_,Pu.refl w⟩)⟩
 ·have d:=zQD d;have d1:=zQw d1
  rw[show zKc n=true from by unfold zKc;rw[decide_eq_true (show n % 4=0 by omega),decide_eq_true (show n % 100 ≠ 0 by omega)];rfl]
 ·have d:=zQD d;have d1:=zQq d1
  rw[xXW,show zKc n=decide (n % 400=0)from by unfold zKc;rw[decide_eq_false (show ¬n % 100 ≠ 0 by omega),Bool.and_false,Bool.false_or]]
  congr 2;simp only[decide_eq_decide];omega
 ·have d:=zQm d
  rw[show zKc n=false from by unfold zKc;rw[decide_eq_false (show ¬n % 4=0 by omega),decide_eq_false (show ¬n % 400=0 by omega)];rfl]
theorem s184:zX8 prog 258=12:=by kernel_rfl
def md12:Array Value:=#[.int .i64 31,.int .i64 28,.int .i64 31,.int .i64 30,.int .i64 31,.int .i64 30,.int .i64 31,.int .i64 31,.int .i64 30,.int .i64 31,.int .i64 30,.int .i64 31]
theorem md_at{m:Nat}(h:1<=m/\m<=12):md12[m - 1]?=some (.int .i64 ((if m=2 then 28 else if m=4∨m=6∨m=9∨m=11 then 30 else 31:Nat):Int)):=by
 rcases(by omega:m=1∨m=2∨m=3∨m=4∨m=5∨m=6∨m=7∨m=8∨m=9∨m=10∨m=11∨m=12)with rfl|rfl|rfl|rfl|rfl|rfl|rfl|rfl|rfl|rfl|rfl|rfl <;> rfl
theorem zJU(y m:Nat)(h:1<=m/\m<=12)(w:World):Calls prog 236 #[.int .i64 (y:Int),.int .i64 (m:Int)] w λe w'=>e=.returned (.int .i64 (zJu y m:Nat))/\Pu w w':=by
 refine yVC _ _ w _ (yQr rfl s184.symm rfl λw1 ar _ aA=>?_)
 rw[zQa (n:=(m:Int) - 1) (by omega) (by omega)]
 have em:((m:Int) - 1).toNat * 1=m - 1:=by omega
 have hc:∀{wz:World},Pu w1 wz->wz.cell? ((⟨w.heap.size,0,none⟩:Addr).add (((m:Int) - 1).toNat * 1))=some (.int .i64 ((if m=2 then 28 else if m=4∨m=6∨m=9∨m=11 then 30 else 31:Nat):Int)):=λ{wz} hz=>by
  rw[em,cl (hz.blk aA)];exact md_at h
 refine Br.of (λd=>(leap_c y w1).mono ?_) (λd=>⟨by omega,by omega,_,hc (Pu.refl _),?_,ar⟩)
 ·have d:=zQD d
  have d:m=2:=by omega
  rintro e w2 ⟨rfl,aq⟩
  refine⟨_,rfl,Br.of (λd1=>⟨?_,ar.trans aq⟩) (λd1=>⟨by omega,by omega,_,hc aq,?_,ar.trans aq⟩)⟩
  ·unfold zJu;rw[if_pos d,if_pos d1];rfl
  ·unfold zJu;rw[if_pos d,if_pos d,if_neg (by rw[d1];simp)]
 ·have d:=zQm d
  have d:¬m=2:=by omega
  unfold zJu;rw[if_neg d,if_neg d]
theorem zWj(y:Nat)(h:1<=y/\y<=10000)(w:World):Calls prog 237 #[.int .i64 (y:Int)] w λe w'=>e=.returned (.int .i64 (zQ0 y:Nat))/\Pu w w':=by
 obtain⟨p,rfl⟩:∃p,y=p+1:=⟨y - 1,by omega⟩
 have e0:(((p+1:Nat):Int) - 1)=(p:Int):=by omega
 have e4:=zKM p 4
 have sB:=zKM p 100
 have sC:=zKM p 400
 refine yWX _ w _ ⟨rfl,by decide,rfl,by decide,rfl,by decide,?_,Pu.refl w⟩
 have e4:(p:Int).tdiv 4=((p / 4:Nat):Int):=e4
 have sB:(p:Int).tdiv 100=((p / 100:Nat):Int):=sB
 have sC:(p:Int).tdiv 400=((p / 400:Nat):Int):=sC
 rw[e0,zQa (n:=(p:Int)) (by omega) (by omega),e4,sB,sC,zQa (n:=((p / 4:Nat):Int)) (by omega) (by omega),zQa (n:=((p / 100:Nat):Int)) (by omega) (by omega),zQa (n:=((p / 400:Nat):Int)) (by omega) (by omega),zQa (n:=365 * (p:Int)) (by omega) (by omega),zQa (n:=365 * (p:Int)+_) (by omega) (by omega),zQa (n:=365 * (p:Int)+_ - _) (by omega) (by omega),zQa (by omega) (by omega)]
 unfold zQ0
 rw[Nat.add_sub_cancel]
 congr 2
 omega
def yQO(y m d:Nat):Ending:=.returned (.tuple #[.int .i64 ((if zQS y m d then zZ4 y m d else 0:Nat):Int),.int .i64 (if zQS y m d then 0 else 1)])
theorem zVU(y m:Nat):zJu y m<=31/\28<=zJu y m:=by unfold zJu;split <;> (try split) <;> omega
theorem days_c(y m d:Nat)(w:World):Calls prog 226 #[.int .i64 (y:Int),.int .i64 (m:Int),.int .i64 (d:Int)] w λe w'=>e=yQO y m d/\Pu w w':=by
 have no:¬zQS y m d->∀{w'},Pu w w'->zVH (λe w'=>e=yQO y m d/\Pu w w') (y:Int) (m:Int) (d:Int) true [] w':=λh w' hp=>Br.t rfl ⟨by unfold yQO;rw[if_neg h,if_neg h];rfl,hp⟩
 refine yVB _ _ _ w _ ?_
 refine Br.of (λd0=>no (λh=>by have:=h.1;have:=zQj d0;omega) (Pu.refl w)) (λd0=>Br.of (λd1=>no (λh=>by have:=h.2.1;have:=zQj d1;omega) (Pu.refl w)) (λd1=>Br.of (λd2=>no (λh=>by have:=h.2.2.1;have:=zQj d2;omega) (Pu.refl w)) (λd2=>Br.of (λd3=>no (λh=>by have:=h.2.2.2.1;have:=zQj d3;omega) (Pu.refl w)) (λd3=>Br.of (λd4=>no (λh=>by have:=h.2.2.2.2.1;have:=zQj d4;omega) (Pu.refl w)) (λd4=>?_)))))
 have d0:=zQd d0
 have d1:=zQd d1
 have d2:=zQd d2
 have d3:=zQd d3
 have d4:=zQd d4
 refine(zJU y m (by omega) w).mono ?_
 rintro e w1 ⟨rfl,ar⟩
 refine⟨_,rfl,?_⟩
 by_cases hd:d<=zJu y m
 ·have hD:zQS y m d:=⟨by omega,by omega,by omega,by omega,by omega,hd⟩
  have hml:=zVU y m
  rw[decide_eq_false (by omega)]
  refine Br.f rfl ((zWj y (by omega) w1).mono ?_)
  rintro e w2 ⟨rfl,aq⟩
  have hyl:=zYq (y:=y) (by omega)
  refine⟨_,rfl,?_⟩
  rw[zQa (n:=((zQ0 y:Nat):Int)+(d:Int)) (by omega) (by omega),zQa (n:=(m:Int) - 1) (by omega) (by omega)]
  refine zQx (m - 1) (λk t w'=>t.2=(k:Int)/\t.1=((zQ0 y+d+zQ4 y k:Nat):Int)/\Pu w w') ⟨rfl,by simp[zQ4],ar.trans aq⟩ ?_
  rintro k J ⟨t1,t2⟩ w3 hk ⟨h2,h1,hp⟩ hJ
  obtain rfl:t2=(k:Int):=h2
  obtain rfl:t1=((zQ0 y+d+zQ4 y k:Nat):Int):=h1
  dsimp only
  refine Br.of (λd5=>?_) (λd5=>?_)
  ·have aH:k<m - 1:=by have:=zQj d5;omega
   rw[zQa (n:=(k:Int)+1) (by omega) (by omega)]
   refine(zJU y (k+1) (by omega) w3).mono ?_
   rintro e w4 ⟨rfl,aK⟩
   have hmf:=yZF y k
   have hmd:=zVU y (k+1)
   refine⟨_,rfl,?_⟩
   rw[zQa (by omega) (by omega)]
   refine hJ _ _ aH ⟨by dsimp only;omega,?_,hp.trans aK⟩
   dsimp only[zQ4];omega
  ·have aH:k=m - 1:=by have:=zQd d5;omega
   subst aH
   refine⟨?_,hp⟩
   unfold yQO zZ4;rw[if_pos hD,if_pos hD,show zQ0 y+d+zQ4 y (m - 1)=zQ0 y+zQ4 y (m - 1)+d by omega]
 ·rw[decide_eq_true (by omega)]
  exact no (λh=>hd h.2.2.2.2.2) ar
theorem xYF(n:Nat)(h:1<=n/\n<=3652059)(w:World):Calls prog 234 #[.int .i64 (n:Int)] w λe w'=>∃y m d:Nat,zQS y m d/\zZ4 y m d=n/\e=.returned (.tuple #[.int .i64 (y:Int),.int .i64 (m:Int),.int .i64 (d:Int),.int .i64 0])/\Pu w w':=by
 refine yVE _ w _ ((yJs (n:Int) w).mono ?_)
 rintro e w1 ⟨rfl,ar⟩
 rw[decide_eq_true (show(0:Int)<=n by omega),decide_eq_true (show(n:Int)<=3652059 by omega)]
 refine⟨_,rfl,Br.f rfl (Br.of (λd=>absurd (zQD d) (by omega)) (λd=>⟨rfl,by decide,?_⟩))⟩
 rw[show((n:Int).tdiv 366)=((n / 366:Nat):Int)from zKM n 366,zQa (n:=((n / 366:Nat):Int)) (by omega) (by omega),zQa (by omega) (by omega)]
 have y0:zQ0 (n / 366+1)<n:=by unfold zQ0;rw[Nat.add_sub_cancel];omega
 have hend:=zKF
 refine zQx 10000 (λk t w'=>t=((n / 366+1+k:Nat):Int)/\zQ0 (n / 366+1+k)<n/\Pu w w') ⟨by omega,y0,ar⟩ ?_
 rintro k J t w2 hk ⟨ht,hy,hp⟩ hJ
 have hy9:n / 366+1+k<=9999:=by
  rcases Nat.lt_or_ge (n / 366+1+k) 10000 with h1|h1
  ·omega
  ·have:=zXO (a:=10000) (by omega) h1;omega
 generalize hyy:n / 366+1+k=y at *
 obtain rfl:t=(y:Int):=ht
 refine(?_:yVX _ J _ _ _ _)
 show Calls prog 237 #[.int .i64 (IntKind.i64.wrap ((y:Int)+1))] w2 _
 rw[zQa (n:=(y:Int)+1) (by omega) (by omega)]
 refine(zWj (y+1) (by omega) w2).mono ?_
 rintro e w3 ⟨rfl,au⟩
 refine⟨_,rfl,Br.of (λd1=>?_) (λd1=>?_)⟩
 ·have hlt:zQ0 (y+1)<n:=by have:=zQj d1;omega
  refine hJ _ _ (by omega) ⟨by omega,by rw[show n / 366+1+(k+1)=y+1 by omega];exact hlt,hp.trans au⟩
 have hge:n<=zQ0 (y+1):=by have:=zQd d1;omega
 have y1:1<=y:=by omega
 refine(zWj y (by omega) w3).mono ?_
 rintro e w4 ⟨rfl,aK⟩
 refine⟨_,rfl,?_⟩
 clear hJ J d1
 have hyl:=zYq y1
 rw[zQa (by omega) (by omega)]
 have hys:=zXS y1
 have wO:=zZZ y
 refine zQx 11 (λk t w'=>t.2=((k+1:Nat):Int)/\t.1=((n - zQ0 y - zQ4 y k:Nat):Int)/\zQ0 y+zQ4 y k<n/\Pu w w') ⟨rfl,by simp[zQ4];omega,by simp[zQ4];omega,(hp.trans au).trans aK⟩ ?_
 rintro k2 J ⟨t1,t2⟩ w5 aH ⟨h2,h1,hlt,aT⟩ hJ
 obtain rfl:t2=((k2+1:Nat):Int):=h2
 obtain rfl:t1=((n - zQ0 y - zQ4 y k2:Nat):Int):=h1
 dsimp only
 refine(zJU y (k2+1) (by omega) w5).mono ?_
 rintro e w6 ⟨rfl,bE⟩
 have hml:=zVU y (k2+1)
 have hmf:zQ4 y (k2+1)=zQ4 y k2+zJu y (k2+1):=rfl
 refine⟨_,rfl,Br.of (λd1=>(zJU y (k2+1) (by omega) w6).mono ?_) (λd1=>?_)⟩
 ·rintro e w7 ⟨rfl,cy⟩
  have hgt:=zQj d1
  have k10:k2<11:=by
   rcases Nat.lt_or_ge k2 11 with h|h
   ·exact h
   ·exfalso
    have:k2=11:=by omega
    subst this
    have:zQ4 y 12=zQ4 y 11+zJu y 12:=rfl
    split at wO <;> split at hys <;> simp_all <;> omega
  refine⟨_,rfl,?_⟩
  rw[zQa (by omega) (by omega),zQa (by omega) (by omega)]
  refine hJ _ _ k10 ⟨by dsimp only;omega,by dsimp only;omega,by omega,(aT.trans bE).trans cy⟩
 ·have hle:=zQd d1
  refine⟨y,k2+1,n - zQ0 y - zQ4 y k2,⟨y1,hy9,by omega,by omega,by omega,by omega⟩,?_,rfl,aT.trans bE⟩
  unfold zZ4;rw[Nat.add_sub_cancel];omega
end Go.Proofs.YtaeecpjhfmcliaaGreatDoor
/- Table: dates written and read by the reference; texts of dates. No condition. -/
namespace Go.Proofs.YtaeecpjhfmcliaaGreatDoor
open Go.Sh Go.RowKit Tryz
theorem zZM:∀(k n:Nat),n<10 ^ (k+1)->(zZH n).length<=k+1
 | 0,n,h=>by rw[zZj (by omega)];simp
 | k+1,n,h=>by
  by_cases h1:n<10
  ·rw[zZj h1];simp
  ·rw[zZC h1,List.length_append]
   have:=zZM k (n / 10) (by rw[Nat.pow_succ]at h;omega)
   simp;omega
def zJZ(k n:Nat):List UInt8:=List.replicate (k - (zZH n).length) 48 ++ zZH n
theorem zXZ {k n:Nat} (h:(zZH n).length<=k):(zJZ k n).length=k:=by
 unfold zJZ;rw[List.length_append,List.length_replicate];omega
theorem yXw (n k:Nat) (hn:n<=1000000) (hk:(zZH n).length<=k/\k<=1000) (w:World):Calls prog 235 #[.int .i64 (n:Int),.int .i64 (k:Int)] w λe w'=>e=.returned (.string (bs (zJZ k n)))/\Pu w w':=by
 refine yWm _ _ w _ ((dec_c (n:=(n:Int)) (by omega) (by omega) w).mono ?_)
 rintro e w1 ⟨rfl,ar⟩
 rw[zKG]
 refine⟨_,rfl,?_⟩
 rw[zQ8,zQa (by omega) (by omega),show(k:Int) - ((zZH n).length:Nat)=((k - (zZH n).length:Nat):Int)by omega]
 refine(zKC 48 _ (by omega) w1).mono ?_
 rintro e w2 ⟨rfl,aq⟩
 refine⟨_,rfl,by rw[zQ8,List.length_replicate];omega,?_,ar.trans aq⟩
 rw[zJA,zQN,zQN];rfl
open Classical in
def zKm(n:Int):List UInt8:=if n=0 then List.replicate 8 32 else
 if h:∃p:Nat × Nat × Nat,zQS p.1 p.2.1 p.2.2/\(zZ4 p.1 p.2.1 p.2.2:Int)=n then zJZ 4 h.choose.1 ++ zJZ 2 h.choose.2.1 ++ zJZ 2 h.choose.2.2 else []
theorem yVU{y m d:Nat}(h:zQS y m d):1<=zZ4 y m d:=by have:=h.year;omega
theorem zJV:zKm 0=List.replicate 8 32:=by unfold zKm;rw[if_pos rfl]
theorem zWr{y m d:Nat}(h:zQS y m d):zKm (zZ4 y m d:Nat)=zJZ 4 y ++ zJZ 2 m ++ zJZ 2 d:=by
 have hp:=yVU h
 have hx:∃p:Nat × Nat × Nat,zQS p.1 p.2.1 p.2.2/\(zZ4 p.1 p.2.1 p.2.2:Int)=(zZ4 y m d:Nat):=⟨(y,m,d),h,rfl⟩
 unfold zKm
 rw[if_neg (by omega),dif_pos hx]
 obtain⟨h1,h2⟩:=hx.choose_spec
 obtain⟨e1,e2,e3⟩:=yJW h1 h (by omega)
 rw[e1,e2,e3]
theorem zYI{y m d:Nat}(h:zQS y m d):((zZH y).length<=4/\y<=1000000)/\((zZH m).length<=2/\m<=1000000)/\((zZH d).length<=2/\d<=1000000):=by
 obtain⟨h1,h2,h3,h4,h5,h6⟩:=h
 have:=zVU y m
 exact⟨⟨zZM 3 y (by omega),by omega⟩,⟨zZM 1 m (by omega),by omega⟩,⟨zZM 1 d (by omega),by omega⟩⟩
theorem zVr{y m d:Nat}(h:zQS y m d):(zJZ 4 y ++ zJZ 2 m ++ zJZ 2 d).length=8:=by
 obtain⟨a,b,c⟩:=zYI h
 rw[List.length_append,List.length_append,zXZ a.1,zXZ b.1,zXZ c.1]
theorem xYv(n:Int)(h:0<=n/\n<=3652059)(w:World):Calls prog 212 #[.int .i64 n] w λe w'=>e=.returned (.tuple #[.string (bs (zKm n)),.int .i64 0])/\(zKm n).length=8/\Pu w w':=by
 refine yKH _ w _ ((yJs n w).mono ?_)
 rintro e w1 ⟨rfl,ar⟩
 rw[decide_eq_true h.1,decide_eq_true h.2]
 refine⟨_,rfl,Br.f rfl (Br.of (λd=>⟨?_,?_,ar⟩) (λd=>?_))⟩
 ·rw[zQD d,zJV];rfl
 ·rw[zQD d,zJV];rfl
 have rN:=zQm d
 clear d
 obtain⟨k,rfl⟩:∃k:Nat,n=(k:Int):=⟨n.toNat,by omega⟩
 refine yWA _ w1 _ ((xYF k (by omega) w1).mono ?_)
 rintro e w2 ⟨y,m,d,hD,rfl,rfl,aq⟩
 obtain⟨a,b,c⟩:=zYI hD
 refine⟨_,_,_,_,rfl,(yXw y 4 a.2 ⟨a.1,by omega⟩ w2).mono ?_⟩
 rintro e w3 ⟨rfl,au⟩
 refine⟨_,rfl,(yXw m 2 b.2 ⟨b.1,by omega⟩ w3).mono ?_⟩
 rintro e w4 ⟨rfl,aK⟩
 refine⟨_,rfl,by rw[zQ8,zQ8,zXZ a.1,zXZ b.1];omega,(yXw d 2 c.2 ⟨c.1,by omega⟩ w4).mono ?_⟩
 rintro e w5 ⟨rfl,aT⟩
 have e1:bs (zJZ 4 y) ++ bs (zJZ 2 m)=bs (zJZ 4 y ++ zJZ 2 m):=by rw[zJA,zQN,zQN]
 refine⟨_,rfl,by rw[e1,zQ8,zQ8,List.length_append,zXZ a.1,zXZ b.1,zXZ c.1];omega,?_⟩
 rw[e1,zJA,zQN,zQN,zWr hD]
 exact⟨_,rfl,rfl,zVr hD,(((ar.trans aq).trans au).trans aK).trans aT⟩
end Go.Proofs.YtaeecpjhfmcliaaGreatDoor
/- Table: how values are written in fields, by both packages. No condition. -/
namespace Go.Proofs.YtaeecpjhfmcliaaGreatDoor
open Go.Sh Go.RowKit Tryz
theorem zZS{s:ByteArray}(h:s.size=0):s=⟨#[]⟩:=by
 obtain⟨⟨l⟩⟩:=s
 cases l with
 | nil=>rfl
 | cons a l=>simp[ByteArray.size]at h
inductive zVu (f:Fld) (p:Int) (v:Val):Prop
 | nil (hv:v=noV) (hn:f.null=true)
 | truth (hk:f.kind=1) (hw:f.width=1) (hv:v=⟨1,v.n,⟨#[]⟩⟩) (hn:v.n=0∨v.n=1)
 | num (hk:f.kind=2) (hw:1<=f.width/\f.width<=15) (hv:v=⟨2,v.n,⟨#[]⟩⟩) (hn:-1000000000000000<=v.n/\v.n<=1000000000000000) (hl:((zJo v.n).length:Int)<=f.width)
 | date (hk:f.kind=3) (hw:f.width=8) (hv:v=⟨3,v.n,⟨#[]⟩⟩) (hn:0<=v.n/\v.n<=3652059)
 | text (hk:f.kind=4) (hw:1<=f.width/\f.width<=254) (hv:v=⟨4,0,v.s⟩) (hl:(v.s.size:Int)<=f.width) (hb:zZs v.s.data.toList=v.s.data.toList) (ht:zXJ v.s.data.toList p=true)
 | memo (hk:f.kind=5) (hw:f.width=8) (hv:v=⟨2,v.n,⟨#[]⟩⟩) (hn:0<=v.n/\v.n<=99999999)
theorem yXY{f:Fld}(h:zQo f=true):(f.kind=1/\f.width=1)∨(f.kind=2/\1<=f.width/\f.width<=15)∨(f.kind=3/\f.width=8)∨(f.kind=4/\1<=f.width/\f.width<=254)∨(f.kind=5/\f.width=8):=by
 unfold zQo zWM at h
 simp only[Bool.and_eq_true]at h
 have h:=h.2
 split at h
 ·rename_i hk;simp at h;exact .inl ⟨hk,h⟩
 ·split at h
  ·rename_i hk;simp at h;exact .inr (.inl ⟨hk,h⟩)
  ·split at h
   ·rename_i hk;simp at h;exact .inr (.inr (.inl ⟨hk,h⟩))
   ·split at h
    ·rename_i hk;simp at h;exact .inr (.inr (.inr (.inl ⟨hk,h⟩)))
    ·split at h
     ·rename_i hk;simp at h;exact .inr (.inr (.inr (.inr ⟨hk,h⟩)))
     ·simp at h
theorem zVu.of{f:Fld}{p:Int}{v:Val}(hf:zQo f=true)(h:zQO f p v=true):zVu f p v:=by
 have hk:=yXY hf
 have hv:zXh v=0:=by
  by_cases hv:zXh v=0
  ·exact hv
  ·unfold zQO at h;rw[if_pos hv]at h;cases h
 obtain⟨_,hok,hs⟩:=zKO hv
 unfold zQO at h
 rw[if_neg (by omega)]at h
 obtain⟨k,n,s⟩:=v
 simp only at *
 by_cases h0:k=0
 ·rw[if_pos h0]at h
  subst h0
  have hn:n=0:=by unfold okN at hok;rw[if_pos rfl]at hok;simpa using hok
  have hs:s=⟨#[]⟩:=zZS (by rcases hs with h|h;omega;exact h)
  subst hn hs
  exact .nil rfl h
 rw[if_neg h0]at h
 by_cases h5:f.kind=5
 ·rw[if_pos h5]at h
  have hw:f.width=8:=by omega
  simp only[Bool.and_eq_true,decide_eq_true_eq,zVK]at h
  obtain⟨rfl,h1,h2⟩:=h
  have hs:s=⟨#[]⟩:=zZS (by rcases hs with h|h;omega;exact h)
  subst hs
  exact .memo h5 hw rfl ⟨h1,h2⟩
 rw[if_neg h5]at h
 by_cases hkk:k ≠ f.kind
 ·rw[if_pos hkk]at h;cases h
 rw[if_neg hkk]at h
 have hkk:k=f.kind:=by omega
 rcases hk with⟨e,hw⟩|⟨e,hw⟩|⟨e,hw⟩|⟨e,hw⟩|⟨e,hw⟩
 ·rw[e]at hkk;subst hkk
  have hs:s=⟨#[]⟩:=zZS (by rcases hs with h|h;omega;exact h)
  subst hs
  unfold okN at hok
  rw[if_neg (by decide),if_pos rfl]at hok
  exact .truth e hw rfl (by simpa using hok)
 ·rw[e]at hkk;subst hkk
  have hs:s=⟨#[]⟩:=zZS (by rcases hs with h|h;omega;exact h)
  subst hs
  unfold okN at hok
  rw[if_neg (by decide),if_neg (by decide),if_pos rfl]at hok
  rw[if_pos e]at h
  exact .num e hw rfl (by simpa using hok) (by simpa using h)
 ·rw[e]at hkk;subst hkk
  have hs:s=⟨#[]⟩:=zZS (by rcases hs with h|h;omega;exact h)
  subst hs
  unfold okN at hok
  rw[if_neg (by decide),if_neg (by decide),if_neg (by decide),if_pos rfl]at hok
  exact .date e hw rfl (by simpa using hok)
 ·rw[e]at hkk;subst hkk
  rw[if_neg (by omega),if_pos e]at h
  unfold okN at hok
  rw[if_neg (by decide),if_neg (by decide),if_neg (by decide),if_neg (by decide),if_pos rfl]at hok
  simp only[Bool.and_eq_true,decide_eq_true_eq]at h hok
  subst hok
  exact .text e hw rfl h.1.1 h.1.2 h.2
 ·omega
def zQv(f:Fld)(v:Val):List UInt8:=
 if v.kind=0 then List.replicate f.width.toNat 32 else if f.kind=1 then [if v.n=1 then 84 else 70]else if f.kind=3 then zKm v.n
 else if f.kind=4 then yQD f v else if f.kind=5/\v.n=0 then List.replicate f.width.toNat 32 else List.replicate (f.width.toNat - (zJo v.n).length) 32 ++ zJo v.n
theorem zYA(f:Fld)(v:Val):zY0 zQv f v=zQv f v:=by
 unfold zY0
 by_cases h:v.kind=0
 ·rw[if_pos h];unfold zQv;rw[if_pos h]
 ·rw[if_neg h]
theorem xX7{k:Nat}(h:1<=k/\k<=3652059):∃y m d,zQS y m d/\zZ4 y m d=k:=by
 have hend:=zKF
 -- the year that holds the day
 have hy:∃y,1<=y/\y<=9999/\zQ0 y<k/\k<=zQ0 (y+1):=by
  have:∀j:Nat,j<=9999->k<=zQ0 (j+1)->∃y,1<=y/\y<=9999/\zQ0 y<k/\k<=zQ0 (y+1):=by
   intro j
   induction j with
   | zero=>intro _ hk;exfalso;have:zQ0 1=0:=(by decide);simp only[Nat.zero_add]at hk;omega
   | succ j ih=>
    intro hj hk
    by_cases hlt:zQ0 (j+1)<k
    ·exact⟨j+1,by omega,hj,hlt,hk⟩
    ·exact ih (by omega) (by omega)
  exact this 9999 (by omega) (by show k<=zQ0 10000;omega)
 obtain⟨y,y1,y9,ylt,yle⟩:=hy
 have hys:=zXS y1
 have wO:=zZZ y
 have hm:∃m,1<=m/\m<=12/\zQ0 y+zQ4 y (m - 1)<k/\k<=zQ0 y+zQ4 y m:=by
  have:∀j:Nat,j<=12->k<=zQ0 y+zQ4 y j->∃m,1<=m/\m<=12/\zQ0 y+zQ4 y (m - 1)<k/\k<=zQ0 y+zQ4 y m:=by
   intro j
   induction j with
   | zero=>intro _ hk;exfalso;simp only[zQ4]at hk;omega
   | succ j ih=>
    intro hj hk
    by_cases hlt:zQ0 y+zQ4 y j<k
    ·exact⟨j+1,by omega,hj,by rw[Nat.add_sub_cancel];exact hlt,hk⟩
    ·exact ih (by omega) (by omega)
  exact this 12 (by omega) (by rw[wO];omega)
 obtain⟨m,m1,m12,mlt,mle⟩:=hm
 obtain⟨j,rfl⟩:∃j,m=j+1:=⟨m - 1,by omega⟩
 rw[Nat.add_sub_cancel]at mlt
 have hmf:zQ4 y (j+1)=zQ4 y j+zJu y (j+1):=rfl
 have hD:zQS y (j+1) (k - zQ0 y - zQ4 y j):=⟨y1,y9,m1,m12,by omega,by omega⟩
 exact⟨y,j+1,k - zQ0 y - zQ4 y j,hD,by unfold zZ4;rw[Nat.add_sub_cancel];omega⟩
theorem yW0{n:Int}(h:0<=n/\n<=3652059):(zKm n).length=8:=by
 by_cases h0:n=0
 ·rw[h0,zJV];rfl
 obtain⟨k,rfl⟩:∃k:Nat,n=(k:Int):=⟨n.toNat,by omega⟩
 obtain⟨y,m,d,hD,e⟩:=xX7 (k:=k) (by omega)
 rw[←e,zWr hD]
 exact zVr hD
theorem zVu.len{f:Fld}{p:Int}{v:Val}(h:zVu f p v):(zQv f v).length=f.width.toNat:=by
 unfold zQv
 cases h with
 | nil hv hn=>rw[hv];simp[noV]
 | truth hk hw hv hn=>rw[hv,if_neg (by simp),if_pos hk,hw];rfl
 | num hk hw hv hn hl=>rw[hv]at *;dsimp only at *;rw[if_neg (by decide),if_neg (by omega),if_neg (by omega),if_neg (by omega),if_neg (by omega),List.length_append,List.length_replicate];omega
 | date hk hw hv hn=>rw[hv,if_neg (by simp),if_neg (by omega),if_pos hk,hw];exact yW0 hn
 | text hk hw hv hl hb ht=>rw[hv,if_neg (by simp),if_neg (by omega),if_neg (by omega),if_pos hk];unfold yQD;rw[List.length_append,zQ2,List.length_replicate];dsimp only;omega
 | memo hk hw hv hn=>
  rw[hv]at *;dsimp only at *
  rw[if_neg (by decide),if_neg (by omega),if_neg (by omega),if_neg (by omega)]
  by_cases h0:v.n=0
  ·rw[if_pos ⟨hk,h0⟩,List.length_replicate]
  ·rw[if_neg (by simp[h0]),List.length_append,List.length_replicate]
   obtain⟨k,aH⟩:∃k:Nat,v.n=(k:Int):=⟨v.n.toNat,by omega⟩
   rw[aH,zKG]
   have:=zZM 7 k (by omega)
   omega
theorem yQ2(f:Fld)(v:Val)(hw:1<=f.width/\f.width<=254)(hn:-1000000000000000<=v.n/\v.n<=1000000000000000)(w:World):Calls prog 182 #[zYY f,zJ5 v] w λe w'=>e=.returned (.string (bs (xZh v.n f.width)))/\Pu w w':=by
 refine yVy _ _ _ _ _ _ _ w _ (alB λw1 ar aA=>alB λw2 aq aN=>⟨_,cl aN 1,_,cl (aq.blk aA) 2,(str_c hn hw w2).mono ?_⟩)
 rintro e w3 ⟨rfl,au⟩
 exact⟨_,_,rfl,rfl,(ar.trans aq).trans au⟩
theorem yKz {n w:Int} (h:((zJo n).length:Int)<=w):xZh n w=List.replicate (w.toNat - (zJo n).length) 32 ++ zJo n:=by unfold xZh;rw[if_neg (by omega)]
theorem xYo{f:Fld}{p:Int}{v:Val}(h:zVu f p v)(h0:v.kind ≠ 0):∃K,zXb f.kind=some K/\zQ5 prog K.wr=true/\∀w,Calls prog K.wr #[zYY f,zJ5 v] w λe w'=>e=.returned (.string (bs (zQv f v)))/\Pu w w':=by
 cases h with
 | nil hv hn=>rw[hv]at h0;exact absurd rfl h0
 | truth hk hw hv hn=>
  refine⟨_,by rw[hk];rfl,by kernel_rfl,λw=>?_⟩
  refine yVA _ _ _ _ _ _ _ w _ (alB λw1 ar aA=>alB λw2 aq aN=>⟨_,cl aN 1,_,cl aN 1,?_⟩)
  have e:zQv f v=[if v.n=1 then 84 else 70]:=by unfold zQv;rw[if_neg h0,if_pos hk]
  rw[e]
  rcases hn with hn|hn
  ·rw[hn]
   rw[zQa (by decide) (by decide)]
   exact⟨by decide,by decide,by decide,by decide,rfl,ar.trans aq⟩
  ·rw[hn]
   rw[zQa (by decide) (by decide)]
   exact⟨by decide,by decide,by decide,by decide,rfl,ar.trans aq⟩
 | num hk hw hv hn hl=>
  refine⟨_,by rw[hk];rfl,by kernel_rfl,λw=>?_⟩
  have e:zQv f v=xZh v.n f.width:=by rw[yKz hl];unfold zQv;rw[if_neg h0,if_neg (by omega),if_neg (by omega),if_neg (by omega),if_neg (by omega)]
  rw[e]
  exact yQ2 f v ⟨hw.1,by omega⟩ hn w
 | date hk hw hv hn=>
  refine⟨_,by rw[hk];rfl,by kernel_rfl,λw=>?_⟩
  have e:zQv f v=zKm v.n:=by unfold zQv;rw[if_neg h0,if_neg (by omega),if_pos hk]
  rw[e]
  refine yWP _ _ _ _ _ _ _ w _ (alB λw1 ar aA=>alB λw2 aq aN=>⟨_,cl aN 1,(xYv v.n hn w2).mono ?_⟩)
  rintro e w3 ⟨rfl,_,au⟩
  exact⟨_,_,rfl,rfl,(ar.trans aq).trans au⟩
 | text hk hw hv hl hb ht=>
  refine⟨_,by rw[hk];rfl,by kernel_rfl,λw=>?_⟩
  have e:zQv f v=yQD f v:=by unfold zQv;rw[if_neg h0,if_neg (by omega),if_neg (by omega),if_pos hk]
  rw[e]
  exact yZU f v ⟨hl,by omega⟩ w
 | memo hk hw hv hn=>
  refine⟨_,by rw[hk];rfl,by kernel_rfl,λw=>?_⟩
  refine yWN _ _ _ _ _ _ _ w _ (alB λw1 ar aA=>alB λw2 aq aN=>⟨_,cl aN 1,Br.of (λd=>⟨_,cl (aq.blk aA) 2,?_⟩) (λd=>?_)⟩)
  ·rw[show(Value.int .i64 f.width)=.int .i64 ((8:Nat):Int)by rw[hw];rfl]
   refine(zKC 32 8 (by omega) w2).mono ?_
   rintro e w3 ⟨rfl,au⟩
   refine⟨_,rfl,?_,(ar.trans aq).trans au⟩
   have e:zQv f v=List.replicate 8 32:=by unfold zQv;rw[if_neg h0,if_neg (by omega),if_neg (by omega),if_neg (by omega),if_pos ⟨hk,zQD d⟩,hw];rfl
   rw[e]
  ·have d:=zQm d
   have q1:=aq.blk aA
   refine⟨_,cl q1 0,_,cl q1 1,_,cl q1 2,_,cl q1 3,_,cl aN 0,_,cl aN 1,_,cl aN 2,(yQ2 f v (by omega) (by omega) w2).mono ?_⟩
   rintro e w3 ⟨rfl,au⟩
   refine⟨_,rfl,?_,(ar.trans aq).trans au⟩
   have hl:((zJo v.n).length:Int)<=f.width:=by
    obtain⟨k,aH⟩:∃k:Nat,v.n=(k:Int):=⟨v.n.toNat,by omega⟩
    rw[aH,zKG]
    have:=zZM 7 k (by omega)
    omega
   have e:zQv f v=xZh v.n f.width:=by rw[yKz hl];unfold zQv;rw[if_neg h0,if_neg (by omega),if_neg (by omega),if_neg (by omega),if_neg (by simp[d])]
   rw[e]
def zX7(l:List Fld)(p:Int)(vs:List Val):Prop:=vs.length=l.length/\∀(i:Nat) (f:Fld) (v:Val),l[i]?=some f->vs[i]?=some v->zVu f p v
theorem zX7.of{l:List Fld}{p:Int}{r:Rec}(hl:l.all zQo=true)(h:zQ1 l p r=0):zX7 l p r.v:=by
 obtain⟨h1,h2⟩:=zYS h
 refine⟨h1,λi f v hf hv=>zVu.of (List.all_eq_true.1 hl f (List.mem_of_getElem? hf)) ?_⟩
 exact List.all_eq_true.1 h2 (f,v) (List.mem_of_getElem? (yYd hf hv))
theorem zX7.writes{l:List Fld}{p:Int}{vs:List Val}(hl:l.all zQo=true)(h:zX7 l p vs):yJH zQv l vs:=λi f v hf hv h0=>by
 have hr:=h.2 i f v hf hv
 refine⟨?_,xYo hr h0⟩
 rw[hr.len]
 have:=zXq (List.all_eq_true.1 hl f (List.mem_of_getElem? hf))
 omega
theorem zXM{l:List Fld}{p:Int}{vs:List Val}(hl:l.all zQo=true)(h:zX7 l p vs):∀k,k<=l.length->((zXL zQv (l.take k) (vs.take k)).length:Int)=((l.take k).map (·.width)).sum
 | 0,_=>by simp[zXL]
 | k+1,h1=>by
  obtain⟨f,hf⟩:=zQK (show k<l.length by omega)
  obtain⟨v,hv⟩:=zQK (show k<vs.length by have:=h.1;omega)
  rw[zKZ hf hv,List.length_append,zW3 hf,zYA,(h.2 k f v hf hv).len]
  have:=zXM hl h k (by omega)
  have:=zXq (List.all_eq_true.1 hl f (List.mem_of_getElem? hf))
  omega
theorem zKE{l:List Fld}{p:Int}{r:Rec}(hl:l.all zQo=true)(h:zX7 l p r.v):((zJI zQv l r).length:Int)=zXG l:=by
 have h1:=zXM hl h l.length (Nat.le_refl _)
 rw[List.take_length,List.take_of_length_le (by have:=h.1;omega)]at h1
 unfold zJI zXG
 rw[List.length_append,List.length_append,zVd,List.length_singleton]
 omega
theorem zX7.ne {l:List Fld} {p:Int} {vs:List Val} (hl:l.all zQo=true) (h:zX7 l p vs) (h0:l ≠ []):zXL zQv l vs ≠ []:=λe=>by
 have h1:=zXM hl h l.length (Nat.le_refl _)
 rw[List.take_length,List.take_of_length_le (by have:=h.1;omega),e]at h1
 obtain⟨f,l',rfl⟩:=List.exists_cons_of_ne_nil h0
 simp only[List.map_cons,List.sum_cons,List.length_nil]at h1
 have hf:=zXq (List.all_eq_true.1 hl f (by simp))
 have:=zJp (l:=l') (WOk.of (List.all_eq_true.2 λg hg=>List.all_eq_true.1 hl g (by simp[hg])))
 omega
end Go.Proofs.YtaeecpjhfmcliaaGreatDoor
/- Table: numbers and dates that are read from texts, by both packages. No condition. -/
namespace Go.Proofs.YtaeecpjhfmcliaaGreatDoor
open Go.Sh Go.RowKit Tryz
def zZ7:Nat->List UInt8->Nat
 | a,[]=>a
 | a,b :: l=>if zZk b then zZ7 (min (10 * a+(b.toNat - 48)) 1000000000000000) l else a
def yJd:List UInt8->Int
 | []=>0
 | b :: r=>if b.toNat=45 then -(zZ7 0 r:Int)else if b.toNat=43 then zZ7 0 r else zZ7 0 (b :: r)
theorem zZu(b:UInt8)(r:List UInt8):yJd (b :: r)=if b.toNat=45 then -(zZ7 0 r:Int)else if b.toNat=43 then zZ7 0 r else zZ7 0 (b :: r):=rfl
def yQy(l:List UInt8):Int:=yJd (l.dropWhile (· == 32))
theorem zYd:∀{l:List UInt8} {a:Nat},a<=1000000000000000->zZ7 a l<=1000000000000000
 | [],a,h=>h
 | b :: l,a,h=>by
  unfold zZ7
  split
  ·exact zYd (Nat.min_le_right _ _)
  ·exact h
theorem yYl(l:List UInt8):-1000000000000000<=yQy l/\yQy l<=1000000000000000:=by
 have h:=λr=>zYd (l:=r) (a:=0) (by omega)
 unfold yQy yJd
 split
 ·omega
 ·rename_i b r _
  have h1:=h r
  have h2:=h (b :: r)
  split
  ·omega
  ·split <;> omega
theorem yZL{b:UInt8}(h:zZk b=true):48<=b.toNat/\b.toNat<=57:=by
 unfold zZk at h;simpa using h
theorem yQW {b:UInt8} (h:¬(48<=b.toNat/\b.toNat<=57)):zZk b=false:=by
 unfold zZk;simp;omega
theorem yJP{b:UInt8}(h:48<=b.toNat/\b.toNat<=57):IntKind.i64.wrap (IntKind.u8.wrap (((b.toNat:Nat):Int) - 48))=((b.toNat - 48:Nat):Int):=by
 have e:IntKind.u8.wrap (((b.toNat:Nat):Int) - 48)=((b.toNat - 48:Nat):Int):=by rw[IntKind.wrap_u8];omega
 rw[e,zQa (by omega) (by omega)]
theorem yQL(b:UInt8)(r:List UInt8):(bs (b :: r)).extract ((1:Int).toNat) (bs (b :: r)).size=bs r:=by
 apply zQU
 rw[zQ7,zQN,zQN,zQ8]
 show(List.take (b :: r).length (b :: r)).drop 1=r
 rw[List.take_length];rfl
theorem yXe {w0 w:World} (hp:Pu w0 w) (l:List UInt8) {sg X:Int} (hsg:sg=1∨sg=-1) (hl:l.length<=140737488355328) (hX:X=sg * (zZ7 0 l:Nat)) :
  zV3 (λe w'=>e=.returned (.int .i64 X)/\Pu w0 w') (bs l) sg [] w:=by
 have hs:=zQ8 l
 have fin:∀{a:Nat} {w':World},a<=1000000000000000->a=zZ7 0 l->Pu w0 w'->yZz (λe w'=>e=.returned (.int .i64 X)/\Pu w0 w') sg (a:Int) [] w':=λ{a w'} h1 h2 h3=>by
  refine⟨?_,h3⟩
  rw[hX,←h2]
  rcases hsg with h|h
  ·rw[h,zQa (by omega) (by omega)]
  ·rw[h,zQa (by omega) (by omega)]
 refine zQx l.length (λk t w'=>t.2=(k:Int)/\∃a:Nat,t.1=(a:Int)/\a<=1000000000000000/\zZ7 a (l.drop k)=zZ7 0 l/\Pu w0 w') ⟨rfl,0,rfl,by omega,rfl,hp⟩ ?_
 rintro k J ⟨t1,t2⟩ w2 hk ⟨h2,a,h1,ha,hd,aq⟩ hJ
 obtain rfl:t2=(k:Int):=h2
 obtain rfl:t1=(a:Int):=h1
 dsimp only
 refine Br.of (λd=>?_) (λd=>?_)
 ·have aH:k<l.length:=by have:=zQj d;omega
  obtain⟨b,hb⟩:=zQK aH
  have hbb:(bs l)[((k:Int)).toNat]?=some b:=zY3 (by rw[zQN];exact hb)
  rw[zXR hb]at hd
  refine⟨b,by omega,hbb,Br.of (λd1=>?_) (λd1=>⟨b,by omega,hbb,Br.of (λd2=>?_) (λd2=>⟨b,by omega,hbb,?_⟩)⟩)⟩
  ·refine fin ha ?_ aq
   rw[zZ7,yQW (by have:=zQj d1;omega)]at hd
   simpa using hd
  ·refine fin ha ?_ aq
   rw[zZ7,yQW (by have:=zQj d2;omega)]at hd
   simpa using hd
  ·have d1:=zQd d1
   have d2:=zQd d2
   have aN:48<=b.toNat/\b.toNat<=57:=by omega
   rw[yJP aN,zQa (n:=(a:Int) * 10) (by omega) (by omega),zQa (n:=(a:Int) * 10+_) (by omega) (by omega),zQa (n:=(k:Int)+1) (by omega) (by omega)]
   refine⟨_,w2,yZV _ _ _ _ _ _,?_⟩
   have e:zZk b=true:=by unfold zZk;simp;omega
   rw[zZ7,e,if_pos rfl]at hd
   exact hJ _ _ aH ⟨by dsimp only;omega,min (10 * a+(b.toNat - 48)) 1000000000000000,by dsimp only;omega,Nat.min_le_right _ _,hd,aq⟩
 ·have aH:k=l.length:=by have:=zQd d;omega
  subst aH
  rw[List.drop_length]at hd
  exact fin ha hd aq
theorem xXb(s:ByteArray)(hs:s.size<=140737488355328)(w:World):Calls prog 211 #[.string s] w λe w'=>e=.returned (.int .i64 (yQy s.data.toList))/\Pu w w':=by
 refine yWQ _ w _ ((Any.strings_TrimLeft_one Tryz.lays161 s 32 (by decide) w).mono ?_)
 rintro e w1 ⟨rfl,rfl⟩
 have hT:Lib.trimLeftB s.data.toList 32=s.data.toList.dropWhile (· == 32):=rfl
 rw[hT]
 have hlen:(s.data.toList.dropWhile (· == 32)).length<=s.size:=by
  have:=(List.dropWhile_suffix (· == (32:UInt8)) (l:=s.data.toList)).length_le
  rwa [zQ2]at this
 refine⟨_,rfl,?_⟩
 rw[zXX]
 unfold yQy
 cases hL:s.data.toList.dropWhile (· == 32)with
 | nil=>exact Br.f (by simp[ByteArray.size]) (yXe (Pu.refl _) [] (.inl rfl) (by simp) rfl)
 | cons b r=>
  rw[hL]at hlen
  simp only[List.length_cons]at hlen
  have h0:(bs (b :: r))[((0:Int)).toNat]?=some b:=zY3 (by rw[zQN];rfl)
  refine Br.t (by rw[zQ8];simp) ⟨b,by omega,h0,Br.of (λd=>⟨b,by omega,h0,Br.of (λd1=>⟨Nat.le_refl _,by omega,by rw[zQ8];show 1<=_;simp,?_⟩) (λd1=>absurd (zQD d) (zQm d1))⟩) (λd=>⟨b,by omega,h0,Br.of (λd1=>⟨b,by omega,h0,Br.of (λd2=>absurd (zQD d2) (zQm d)) (λd2=>⟨Nat.le_refl _,by omega,by rw[zQ8];show 1<=_;simp,?_⟩)⟩) (λd1=>?_)⟩)⟩
  ·rw[yQL]
   refine yXe (Pu.refl _) r (.inr rfl) (by omega) ?_
   rw[zZu,if_pos (by have:=zQD d;omega)];omega
  ·rw[yQL]
   refine yXe (Pu.refl _) r (.inl rfl) (by omega) ?_
   rw[zZu,if_neg (by have:=zQm d;omega),if_pos (by have:=zQD d1;omega)];omega
  ·refine yXe (Pu.refl _) (b :: r) (.inl rfl) (by simp;omega) ?_
   rw[zZu,if_neg (by have:=zQm d;omega),if_neg (by have:=zQm d1;omega)];omega
def yJh(y m d:Nat):Int × Bool:=(((if zQS y m d then zZ4 y m d else 0:Nat):Int),decide (zQS y m d))
def zX2(l:List UInt8):Int × Bool:=if l=List.replicate 8 32 then(0,true)else if l.length ≠ 8 then(0,false)else if l.all zZk then yJh (zZ7 0 (l.take 4)) (zZ7 0 ((l.drop 4).take 2)) (zZ7 0 (l.drop 6))else(0,false)
theorem yZW(l:List UInt8):0<=(zX2 l).1/\(zX2 l).1<=3652059:=by
 unfold zX2
 split
 ·simp
 ·split
  ·simp
  ·split
   ·unfold yJh
    dsimp only
    split
    ·rename_i h
     have h1:=h.year
     have h2:=zXO (a:=zZ7 0 (l.take 4)+1) (b:=10000) (by omega) (by have:=h.2.1;omega)
     have:=zKF
     omega
    ·omega
   ·simp
theorem zZW{l:List UInt8}(h:l.all zZk=true):yQy l=(zZ7 0 l:Nat):=by
 cases l with
 | nil=>rfl
 | cons b r=>
  have hb:=yZL (List.all_eq_true.1 h b (by simp))
  have e:(b == 32)=false:=by
   simp only[beq_eq_false_iff_ne,ne_eq]
   intro h;subst h;revert hb;decide
  unfold yQy
  rw[List.dropWhile_cons,e]
  simp only[Bool.false_eq_true,if_false]
  rw[zZu,if_neg (by omega),if_neg (by omega)]
def xZg:List UInt8:=[48,49,50,51,52,53,54,55,56,57]
theorem xXX(b:UInt8):xZg.contains b=zZk b:=by
 have h:∀n:Nat,n<256->xZg.contains (UInt8.ofNat n)=zZk (UInt8.ofNat n):=by decide +kernel
 have:=h b.toNat b.toNat_lt
 rwa [UInt8.ofNat_toNat]at this
theorem xYL(s:ByteArray)(hs:s.size<=9223372036854775807)(w:World):Calls prog 190 #[.string s,.string ⟨#[48,49,50,51,52,53,54,55,56,57]⟩] w
  λe w'=>e=.returned (.string ⟨(Lib.trimS s.data.toList xZg).toArray⟩)/\Pu w w':=
 Any.strings_Trim_laid Tryz.lays160 u110 s ⟨#[48,49,50,51,52,53,54,55,56,57]⟩ w hs (by decide) (ascii_of_all (by decide))
theorem xQ5(s:ByteArray):(s.toList == (⟨#[32,32,32,32,32,32,32,32]⟩:ByteArray).toList)=decide (s.data.toList=List.replicate 8 32):=by
 rw[zX5]
 exact zZ5 ⟨λh=>by rw[h];rfl,λh=>zQU (by rw[h];rfl)⟩
theorem zWa{l:List UInt8}(h:l.all zZk=true)(n:Nat):(l.take n).all zZk=true:=List.all_eq_true.2 λb hb=>List.all_eq_true.1 h b (List.mem_of_mem_take hb)
theorem zWb{l:List UInt8}(h:l.all zZk=true)(n:Nat):(l.drop n).all zZk=true:=List.all_eq_true.2 λb hb=>List.all_eq_true.1 h b (List.mem_of_mem_drop hb)
theorem ext3{s:ByteArray}(h8:s.size=8):(s.extract 0 ((4:Int).toNat)).data.toList=s.data.toList.take 4/\(s.extract ((4:Int).toNat) ((6:Int).toNat)).data.toList=(s.data.toList.drop 4).take 2/\(s.extract ((6:Int).toNat) s.size).data.toList=s.data.toList.drop 6:=by
 refine⟨by rw[zQ7];rfl,?_,?_⟩
 ·rw[zQ7]
  show(List.take 6 s.data.toList).drop 4=_
  rw[List.drop_take]
 ·rw[zQ7,h8,List.take_of_length_le (by rw[zQ2];omega)];rfl
theorem yYA(s:ByteArray)(hs:s.size<=140737488355328)(w:World):Calls prog 213 #[.string s] w λe w'=>e=.returned (.tuple #[.int .i64 (zX2 s.data.toList).1,.bool (zX2 s.data.toList).2])/\Pu w w':=by
 refine yWb _ w _ ?_
 rw[xQF,xQ5]
 refine Br.of (λd=>⟨by unfold zX2;rw[if_pos (zQj d)],Pu.refl w⟩) (λd=>Br.of (λd1=>⟨?_,Pu.refl w⟩) (λd1=>(xYL s (by omega) w).mono ?_))
 ·unfold zX2;rw[if_neg (zQd d),if_pos (by rw[zQ2];have:=zQw d1;omega)]
 have h8:s.size=8:=by have:=zQq d1;omega
 rintro e w1 ⟨rfl,ar⟩
 have e2:((ByteArray.mk (Lib.trimS s.data.toList xZg).toArray).toList == (⟨#[]⟩:ByteArray).toList)=s.data.toList.all zZk:=by
  rw[zXX]
  have h1:((ByteArray.mk (Lib.trimS s.data.toList xZg).toArray).size=0) ↔ s.data.toList.all (xZg.contains ·)=true:=by
   rw[←yXB];simp[ByteArray.size]
  rw[show zZk=(xZg.contains ·)from funext λb=>(xXX b).symm]
  rw[Bool.eq_iff_iff,decide_eq_true_iff];exact h1
 refine⟨_,rfl,?_⟩
 rw[e2]
 have eU:zX2 s.data.toList=if s.data.toList.all zZk then yJh (zZ7 0 (s.data.toList.take 4)) (zZ7 0 ((s.data.toList.drop 4).take 2)) (zZ7 0 (s.data.toList.drop 6))else(0,false):=by
  unfold zX2;rw[if_neg (zQd d),if_neg (by rw[zQ2];omega)]
 refine Br.of (λd2=>⟨by rw[eU,if_neg (by simpa using d2)],ar⟩) (λd2=>zQc λw2 aq _=>?_)
 have hall:s.data.toList.all zZk=true:=by simpa using d2
 obtain⟨x1,x2,x3⟩:=ext3 h8
 refine⟨by omega,by rw[h8];decide,by decide,by omega,by rw[h8];decide,by omega,by decide,Nat.le_refl _,by omega,by rw[h8];decide,(xXb _ (by rw[←zQ2,x1,List.length_take];omega) w2).mono ?_⟩
 rintro e w3 ⟨rfl,au⟩
 refine⟨_,rfl,(xXb _ (by rw[←zQ2,x2,List.length_take];omega) w3).mono ?_⟩
 rintro e w4 ⟨rfl,aK⟩
 refine⟨_,rfl,(xXb _ (by rw[←zQ2,x3,List.length_drop,zQ2];omega) w4).mono ?_⟩
 rintro e w5 ⟨rfl,aT⟩
 rw[x1,x2,x3,zZW (zWa hall 4),zZW (zWa (zWb hall 4) 2),zZW (zWb hall 6)]
 refine⟨_,rfl,(days_c _ _ _ w5).mono ?_⟩
 rintro e w6 ⟨rfl,bE⟩
 refine⟨_,_,rfl,?_,(((ar.trans aq).trans au).trans (aK.trans aT)).trans bE⟩
 rw[eU,if_pos hall]
 unfold yJh
 by_cases hD:zQS (zZ7 0 (s.data.toList.take 4)) (zZ7 0 ((s.data.toList.drop 4).take 2)) (zZ7 0 (s.data.toList.drop 6))
 ·rw[if_pos hD,if_pos hD,decide_eq_true hD];rfl
 ·rw[if_neg hD,if_neg hD,decide_eq_false hD];rfl
end Go.Proofs.YtaeecpjhfmcliaaGreatDoor
/- Table: values that are read back, by both packages. No condition. -/
namespace Go.Proofs.YtaeecpjhfmcliaaGreatDoor
open Go.Sh Go.RowKit Tryz
def zJh(k:Int)(s:List UInt8):Val:=if k=1 then⟨1,if s=[84]then 1 else 0,⟨#[]⟩⟩else if k=3 then⟨3,(zX2 s).1,⟨#[]⟩⟩else if k=4 then⟨4,0,bs (zZs s)⟩else⟨2,yQy s,⟨#[]⟩⟩
def okS(k:Int)(s:List UInt8):Bool:=if k=1 then decide (s=[84]) || decide (s=[70])else if k=2 then !(s.all (· == 32))else if k=3 then(zX2 s).2 else true
theorem yJT(k:Int)(s:List UInt8):zJe (zJh k s).kind/\zJe (zJh k s).n:=by
 have h1:=yYl s
 have h2:=yZW s
 unfold zJh zJe
 split
 ·dsimp only
  split <;> omega
 ·split
  ·dsimp only;omega
  ·split
   ·dsimp only;omega
   ·dsimp only;omega
theorem yZ4:∀{l:List UInt8} {a:Nat} {d:UInt8},(∀b ∈ l,zZk b=true)->zZk d=true->zZ7 a (l ++ [d])=min (10 * zZ7 a l+(d.toNat - 48)) 1000000000000000
 | [],a,d,_,hd=>by simp[zZ7,hd]
 | b :: l,a,d,hl,hd=>by
  rw[List.cons_append,zZ7,hl b (by simp),if_pos rfl,yZ4 (λx hx=>hl x (by simp[hx])) hd,zZ7,hl b (by simp),if_pos rfl]
theorem zY2(n:Nat):∀b ∈ zZH n,zZk b=true:=λb hb=>by
 have:=zKN n b hb
 unfold zZk;simp;omega
theorem yZg{n:Nat}(h:n<10):zZk (UInt8.ofNat (48+n))=true/\(UInt8.ofNat (48+n)).toNat - 48=n:=by
 have e:(UInt8.ofNat (48+n)).toNat=48+n:=by simp;omega
 exact⟨by unfold zZk;simp only[e];simp;omega,by omega⟩
theorem yXh:∀n:Nat,n<=1000000000000000->zZ7 0 (zZH n)=n:=by
 intro n
 induction n using Nat.strongRecOn with
 | _ n ih=>
  intro hn
  by_cases h:n<10
  ·rw[zZj h]
   obtain⟨h1,h2⟩:=yZg h
   rw[zZ7,h1,if_pos rfl,zZ7,h2];omega
  ·rw[zZC h]
   obtain⟨h1,h2⟩:=yZg (n:=n % 10) (by omega)
   rw[yZ4 (zY2 _) h1,h2,ih (n / 10) (by omega) (by omega)];omega
theorem yQk(l:List UInt8):∀j:Nat,zZ7 0 (List.replicate j 48 ++ l)=zZ7 0 l
 | 0=>rfl
 | j+1=>by
  rw[List.replicate_succ,List.cons_append,zZ7]
  rw[show zZk 48=true by decide,if_pos rfl]
  exact yQk l j
theorem yXo(k n:Nat)(h:n<=1000000000000000):zZ7 0 (zJZ k n)=n:=by unfold zJZ;rw[yQk,yXh n h]
theorem zYl(k n:Nat):∀b ∈ zJZ k n,zZk b=true:=λb hb=>by
 unfold zJZ at hb
 rcases List.mem_append.1 hb with h|h
 ·rw[List.eq_of_mem_replicate h];decide
 ·exact zY2 n b h
theorem zJW(l:List UInt8):∀j:Nat,(List.replicate j 32 ++ l).dropWhile (· == 32)=l.dropWhile (· == 32)
 | 0=>rfl
 | j+1=>by rw[List.replicate_succ,List.cons_append,List.dropWhile_cons];simp only[beq_self_eq_true,if_true];exact zJW l j
theorem zYg(j:Nat)(l:List UInt8):yQy (List.replicate j 32 ++ l)=yQy l:=by unfold yQy;rw[zJW]
theorem yJL{n:Int}(h:-1000000000000000<=n/\n<=1000000000000000):yQy (zJo n)=n:=by
 unfold zJo
 split
 ·unfold yQy
  rw[List.dropWhile_cons,show((45:UInt8) == 32)=false by decide]
  simp only[Bool.false_eq_true,if_false]
  rw[zZu,if_pos (by decide),yXh _ (by omega)];omega
 ·rw[zZW (List.all_eq_true.2 λb hb=>zY2 _ b hb),yXh _ (by omega)];omega
theorem yXi{n:Int}(h:0<=n/\n<=3652059):zX2 (zKm n)=(n,true):=by
 by_cases h0:n=0
 ·rw[h0,zJV];unfold zX2;rw[if_pos rfl]
 obtain⟨k,rfl⟩:∃k:Nat,n=(k:Int):=⟨n.toNat,by omega⟩
 obtain⟨y,m,d,hD,rfl⟩:=xX7 (k:=k) (by omega)
 rw[zWr hD]
 obtain⟨a,b,c⟩:=zYI hD
 have l4:=zXZ a.1
 have l2:=zXZ b.1
 have l2':=zXZ c.1
 have hall:(zJZ 4 y ++ zJZ 2 m ++ zJZ 2 d).all zZk=true:=List.all_eq_true.2 λx hx=>by
  rcases List.mem_append.1 hx with hx|hx
  ·rcases List.mem_append.1 hx with hx|hx
   ·exact zYl _ _ x hx
   ·exact zYl _ _ x hx
  ·exact zYl _ _ x hx
 have hne:¬(zJZ 4 y ++ zJZ 2 m ++ zJZ 2 d)=List.replicate 8 32:=λe=>by
  rw[e]at hall;revert hall;decide
 unfold zX2
 rw[if_neg hne,if_neg (by rw[zVr hD];simp),if_pos hall]
 have e1:(zJZ 4 y ++ zJZ 2 m ++ zJZ 2 d).take 4=zJZ 4 y:=by rw[List.append_assoc,List.take_append_of_le_length (by omega),List.take_of_length_le (by omega)]
 have e2:((zJZ 4 y ++ zJZ 2 m ++ zJZ 2 d).drop 4).take 2=zJZ 2 m:=by
  rw[List.append_assoc,List.drop_append_of_le_length (by omega),List.drop_eq_nil_of_le (by omega),List.nil_append,List.take_append_of_le_length (by omega),List.take_of_length_le (by omega)]
 have e3:(zJZ 4 y ++ zJZ 2 m ++ zJZ 2 d).drop 6=zJZ 2 d:=by
  rw[List.drop_append,List.drop_eq_nil_of_le (by rw[List.length_append];omega),List.nil_append,List.length_append,l4,l2];rfl
 rw[e1,e2,e3,yXo _ _ (by omega),yXo _ _ (by omega),yXo _ _ (by omega)]
 unfold yJh
 rw[if_pos hD,decide_eq_true hD]
theorem zYG(l:List UInt8):∀j:Nat,zZs (l ++ List.replicate j 32)=zZs l
 | 0=>by simp
 | j+1=>by rw[List.replicate_succ',←List.append_assoc,zWK,if_pos rfl,zYG l j]
theorem yVZ{j:Nat}{n:Int}:((List.replicate j 32 ++ zJo n).all (· == 32))=false:=by
 rw[List.all_append]
 have:(zJo n).all (· == (32:UInt8))=false:=by
  rw[List.all_eq_false]
  unfold zJo
  split
  ·exact⟨45,by simp,by decide⟩
  ·have hp:=yXr n.natAbs
   obtain⟨b,hb⟩:=zQK (l:=zZH n.natAbs) (k:=0) (by omega)
   have hm:=List.mem_of_getElem? hb
   refine⟨b,hm,?_⟩
   have:=zKN n.natAbs b hm
   intro h
   have:b=32:=by simpa using h
   subst this
   revert this;simp at *
 rw[this,Bool.and_false]
theorem yVl{f:Fld}{p:Int}{v:Val}(h:zVu f p v)(h0:v.kind ≠ 0):zJh f.kind (zQv f v)=v/\okS f.kind (zQv f v)=true:=by
 cases h with
 | nil hv hn=>rw[hv]at h0;exact absurd rfl h0
 | truth hk hw hv hn=>
  have e:zQv f v=[if v.n=1 then 84 else 70]:=by unfold zQv;rw[if_neg h0,if_pos hk]
  rw[e];unfold zJh okS;rw[if_pos hk,if_pos hk]
  rcases hn with hn|hn
  ·rw[hn];refine⟨?_,by decide⟩;rw[hv,hn];rfl
  ·rw[hn];refine⟨?_,by decide⟩;rw[hv,hn];rfl
 | num hk hw hv hn hl=>
  have e:zQv f v=List.replicate (f.width.toNat - (zJo v.n).length) 32 ++ zJo v.n:=by unfold zQv;rw[if_neg h0,if_neg (by omega),if_neg (by omega),if_neg (by omega),if_neg (by omega)]
  rw[e];unfold zJh okS
  rw[if_neg (by omega),if_neg (by omega),if_neg (by omega),if_neg (by omega),if_pos hk,zYg,yJL hn,yVZ]
  exact⟨hv.symm,rfl⟩
 | date hk hw hv hn=>
  have e:zQv f v=zKm v.n:=by unfold zQv;rw[if_neg h0,if_neg (by omega),if_pos hk]
  rw[e];unfold zJh okS
  rw[if_neg (by omega),if_pos hk,if_neg (by omega),if_neg (by omega),if_pos hk,yXi hn]
  exact⟨hv.symm,rfl⟩
 | text hk hw hv hl hb ht=>
  have e:zQv f v=yQD f v:=by unfold zQv;rw[if_neg h0,if_neg (by omega),if_neg (by omega),if_pos hk]
  rw[e];unfold zJh okS yQD
  rw[if_neg (by omega),if_neg (by omega),if_pos hk,if_neg (by omega),if_neg (by omega),if_neg (by omega),zYG,hb,yJ7]
  exact⟨hv.symm,rfl⟩
 | memo hk hw hv hn=>
  have e:yQy (zQv f v)=v.n:=by
   unfold zQv
   rw[if_neg h0,if_neg (by omega),if_neg (by omega),if_neg (by omega)]
   by_cases hz:v.n=0
   ·rw[if_pos ⟨hk,hz⟩,hz,hw];decide
   ·rw[if_neg (by simp[hz]),zYg,yJL (by omega)]
  unfold zJh okS
  rw[if_neg (by omega),if_neg (by omega),if_neg (by omega),if_neg (by omega),if_neg (by omega),if_neg (by omega),e]
  exact⟨hv.symm,rfl⟩
theorem xWV(s:ByteArray)(c:UInt8):(s.toList == (⟨#[c]⟩:ByteArray).toList)=decide (s.data.toList=[c]):=by
 rw[zX5]
 exact zZ5 ⟨λh=>by rw[h],λh=>zQU (by rw[h])⟩
theorem yJ5(s:ByteArray)(w:World):Calls prog 181 #[.string s] w λe w'=>e=.returned (.tuple #[zJ5 (zJh 1 s.data.toList),.bool (okS 1 s.data.toList)])/\Pu w w':=by
 refine yWh _ w _ (alB λw1 ar aA=>yQr rfl s25.symm rfl λw2 aq rM aN=>?_)
 have hlt:w.heap.size<w1.heap.size:=zQy aA
 have b1:=aq.blk aA
 rw[xWV,xWV]
 unfold zJh okS
 rw[if_pos rfl,if_pos rfl]
 refine Br.of (λd=>?_) (λd=>⟨_,cl aN 0,_,cl aN 1,_,cl aN 2,Br.of (λd1=>absurd d1 (by rw[d];simp)) (λd1=>zQg b1 s25.symm rfl rfl λw3 bo fS qn=>⟨_,cl bo 0,_,cl bo 1,_,cl bo 2,?_,ar.trans aq |>.andNew fS λi hi=>by omega⟩)⟩)
 ·show st1 ((⟨w1.heap.size,0,none⟩:Addr).add 1) _ w2 _
  rw[zQs]
  refine zQu aN (by decide) λw3 sA bo=>?_
  have fS:Fr (·=w1.heap.size) w2 w3:=by rw[sA];exact Fr.cell w2 _ _ _
  have b3:=fS.blk b1 (show ¬w.heap.size=w1.heap.size by omega)
  have au:Pu w w3:=(ar.trans aq).andNew fS λi hi=>by omega
  refine⟨_,cl bo 0,_,cl bo 1,_,cl bo 2,Br.t d (zQg b3 s25.symm rfl rfl λw4 cI fe xz=>⟨_,cl cI 0,_,cl cI 1,_,cl cI 2,?_,au.andNew fe λi hi=>by omega⟩)⟩
  rw[if_pos (zQj d),d];rfl
 ·rw[if_neg (zQd d),d];simp
theorem yYO(l:List UInt8):(Lib.trimB l 32=[]) ↔ l.all (· == 32)=true:=by
 unfold Lib.trimB Lib.trimLeftB Lib.trimRightB
 rw[zZa,List.all_reverse,zZb,List.all_reverse]
theorem yYx(s:ByteArray)(hs:s.size<=140737488355328)(w:World):Calls prog 183 #[.string s] w λe w'=>e=.returned (.tuple #[zJ5 (zJh 2 s.data.toList),.bool (okS 2 s.data.toList)])/\Pu w w':=by
 refine yVz _ w _ (alB λw1 ar aA=>(xXb s hs w1).mono ?_)
 rintro e w2 ⟨rfl,aq⟩
 refine⟨_,rfl,(Any.strings_Trim_one Tryz.lays160 s 32 (by decide) w2 (by omega)).mono ?_⟩
 rintro e w3 ⟨rfl,sA⟩
 have au:Pu w2 w3:=by
  rcases sA with h|h
  ·rw[h];exact Pu.refl _
  ·rw[h];exact Pu.drew _
 refine⟨_,rfl,zQg ((aq.trans au).blk aA) s25.symm rfl rfl λw4 bo fS qn=>⟨_,cl bo 0,_,cl bo 1,_,cl bo 2,?_,(ar.trans (aq.trans au)).andNew fS λi hi=>by omega⟩⟩
 rw[zXX]
 have e:decide ((ByteArray.mk (Lib.trimB s.data.toList 32).toArray).size=0)=s.data.toList.all (· == 32):=by
  have h1:((ByteArray.mk (Lib.trimB s.data.toList 32).toArray).size=0) ↔ s.data.toList.all (· == 32)=true:=by
   rw[←yYO];simp[ByteArray.size]
  rw[Bool.eq_iff_iff,decide_eq_true_iff];exact h1
 rw[e];rfl
theorem yVc(s:ByteArray)(hs:s.size<=140737488355328)(w:World):Calls prog 185 #[.string s] w λe w'=>e=.returned (.tuple #[zJ5 (zJh 3 s.data.toList),.bool (okS 3 s.data.toList)])/\Pu w w':=by
 refine yW3 _ w _ (alB λw1 ar aA=>(yYA s hs w1).mono ?_)
 rintro e w2 ⟨rfl,aq⟩
 exact⟨_,_,rfl,zQg (aq.blk aA) s25.symm rfl rfl λw3 bo fS qn=>⟨_,cl bo 0,_,cl bo 1,_,cl bo 2,rfl,(ar.trans aq).andNew fS λi hi=>by omega⟩⟩
theorem yWy(s:ByteArray)(hs:s.size<=140737488355328)(w:World):Calls prog 187 #[.string s] w λe w'=>e=.returned (.tuple #[zJ5 (zJh 4 s.data.toList),.bool (okS 4 s.data.toList)])/\Pu w w':=by
 refine yW5 _ w _ (alB λw1 ar aA=>(zYy s hs w1).mono ?_)
 rintro e w2 ⟨rfl,aq⟩
 exact⟨_,rfl,zQg (aq.blk aA) s25.symm rfl rfl λw3 bo fS qn=>⟨_,cl bo 0,_,cl bo 1,_,cl bo 2,rfl,(ar.trans aq).andNew fS λi hi=>by omega⟩⟩
theorem yKF(s:ByteArray)(hs:s.size<=140737488355328)(w:World):Calls prog 189 #[.string s] w λe w'=>e=.returned (.tuple #[zJ5 (zJh 5 s.data.toList),.bool (okS 5 s.data.toList)])/\Pu w w':=by
 refine yWZ _ w _ (alB λw1 ar aA=>(xXb s hs w1).mono ?_)
 rintro e w2 ⟨rfl,aq⟩
 exact⟨_,rfl,zQg (aq.blk aA) s25.symm rfl rfl λw3 bo fS qn=>⟨_,cl bo 0,_,cl bo 1,_,cl bo 2,rfl,(ar.trans aq).andNew fS λi hi=>by omega⟩⟩
theorem xJf{f:Fld}(hf:zQo f=true):∃K,zXb f.kind=some K/\zQ5 prog K.rd=true/\∀(s:ByteArray),s.size<=140737488355328->∀w,Calls prog K.rd #[.string s] w λe w'=>e=.returned (.tuple #[zJ5 (zJh f.kind s.data.toList),.bool (okS f.kind s.data.toList)])/\Pu w w':=by
 rcases yXY hf with⟨e,_⟩|⟨e,_⟩|⟨e,_⟩|⟨e,_⟩|⟨e,_⟩
 ·rw[e];exact⟨_,rfl,by kernel_rfl,λs _ w=>yJ5 s w⟩
 ·rw[e];exact⟨_,rfl,by kernel_rfl,yYx⟩
 ·rw[e];exact⟨_,rfl,by kernel_rfl,yVc⟩
 ·rw[e];exact⟨_,rfl,by kernel_rfl,yWy⟩
 ·rw[e];exact⟨_,rfl,by kernel_rfl,yKF⟩
end Go.Proofs.YtaeecpjhfmcliaaGreatDoor
/- Table: rows that a conversion of a text has made. No condition. -/
namespace Go.Proofs.YtaeecpjhfmcliaaGreatDoor
open Go.Sh Go.RowKit Tryz
def yZH(w0 w:World)(s:SV)(l:List UInt8):Prop:=∃(g:Nat) (cur:Array Value) (fz:Nat × Nat),s.a=some ⟨g,0,none⟩/\w.heap[g]?=some (.cells cur 5 fz)/\cur.size<=fz.1/\s.len=l.length/\s.len<=s.cap/\s.cap<=maxLen/\cur.size=s.cap/\cur.toList.take s.len=l.map u8V/\w0.heap.size<=g
def zWF(w0 w:World)(s:SV)(l:List UInt8):Prop:=yZH w0 w s l∨zQi w0 w s l
theorem zWF.pu{w0 w w':World}{s:SV}{l:List UInt8}(h:zWF w0 w s l)(hp:Pu w w'):zWF w0 w' s l:=by
 rcases h with⟨g,cur,fz,h1,h2,h3⟩|h
 ·exact .inl ⟨g,cur,fz,h1,hp.blk h2,h3⟩
 ·exact .inr (h.pu hp)
theorem zWF.len{w0 w:World}{s:SV}{l:List UInt8}(h:zWF w0 w s l):s.len=l.length:=by
 rcases h with⟨g,cur,fz,h1,h2,h3,h4,_⟩|h
 ·exact h4
 ·exact h.len
theorem yZH.cell {w0 w:World} {s:SV} {l:List UInt8} (h:yZH w0 w s l) {j:Nat} {b:UInt8} (hj:l[j]?=some b):∃a,s.a=some a/\w.cell? (a.add j)=some (u8V b):=by
 obtain⟨g,cur,fz,h1,h2,h3,h4,h5,h6,h7,h8,_⟩:=h
 refine⟨_,h1,?_⟩
 rw[zQs,zQE h2,Nat.zero_add]
 have e:(cur.toList.take s.len)[j]?=some (u8V b):=by rw[h8,List.getElem?_map,hj];rfl
 rw[List.getElem?_take]at e
 split at e
 ·simpa using e
 ·cases e
theorem zWF.cell {w0 w:World} {s:SV} {l:List UInt8} (h:zWF w0 w s l) {j:Nat} {b:UInt8} (hj:l[j]?=some b):∃a,s.a=some a/\w.cell? (a.add j)=some (u8V b):=by
 rcases h with h|h
 ·exact h.cell hj
 ·exact h.cell hj
theorem zWF.low{w0 w1 w:World}{s:SV}{l:List UInt8}(h:zWF w1 w s l)(hz:w0.heap.size<=w1.heap.size):zWF w0 w s l:=by
 rcases h with⟨g,cur,fz,h1,h2,h3,h4,h5,h6,h7,h8,h9⟩|h
 ·exact .inl ⟨g,cur,fz,h1,h2,h3,h4,h5,h6,h7,h8,Nat.le_trans hz h9⟩
 ·exact .inr (h.low hz)
theorem yZH.push {w0 w:World} {s:SV} {l:List UInt8} (h:yZH w0 w s l) (hz:w0.heap.size<=w.heap.size) {r:Nat} {b:UInt8} {c:Array Value} (hr:w.heap[r]?=some (.cells c 5)) (hc:c[0]?=some (u8V b)) (hb:l.length<=1000000) :
  ∃(s':SV) (w':World),(Builtin.append_ #[22,22] 22 #[.slice s.a s.len s.cap,.slice (some ⟨r,0,none⟩) 1 1]).run prog w=.ok (.slice s'.a s'.len s'.cap) w'/\zWF w0 w' s' (l ++ [b])/\Fr (· ∈ zQe s) w w':=by
 have hcell:=λ(j:Nat) (x:UInt8) (hj:l[j]?=some x)=>h.cell hj
 obtain⟨g,cur,fz,h1,h2,h3,h4,h5,h6,h7,h8,h9⟩:=h
 have hi:=yVe
 obtain⟨i,i1,i2,i3,i4⟩:=info_parts hi
 have hnews:∀j u,[u8V b][j]?=some u->w.cell? ((⟨r,0,none⟩:Addr).add j)=some u:=λj u hu=>by
  cases j with
  | zero=>simp at hu;subst hu;rw[yVM,zQE hr];exact hc
  | succ j=>simp at hu
 have hgl:g<w.heap.size:=zQy h2
 by_cases hroom:s.len+1<=s.cap
 ·have hin:s.len<cur.size:=by omega
  have hfro:w.frozen? ⟨g,s.len,none⟩=false:=by
   obtain⟨lo,hi'⟩:=fz
   simp only[World.frozen?,h2,Bool.and_eq_false_iff,decide_eq_false_iff_not]
   left;simp only at h3;omega
  have hcl:w.cell? ⟨g,s.len,none⟩=some cur[s.len]:=by rw[zQE h2];simp[hin]
  have hst:(storeCells ⟨g,s.len,none⟩ [u8V b] 0).run prog w=.ok () (w.setCell ⟨g,s.len,none⟩ (u8V b)):=by
   simp only[storeCells,Sem.run_bind,zQs,Nat.add_zero]
   rw[run_store prog w _ _ _ rfl,hcl]
   simp[hfro]
  have hf:=run_firstCells_some (P:=prog) w i.size 1 ⟨r,0,none⟩ 1 1 [u8V b] (by rw[i3];rfl) hnews
  have hrun:(Builtin.append_ #[22,22] 22 #[.slice s.a s.len s.cap,.slice (some ⟨r,0,none⟩) 1 1]).run prog w=.ok (.slice s.a (s.len+1) s.cap) (w.setCell ⟨g,s.len,none⟩ (u8V b)):=by
   rw[h1]
   rw[i3]at hf
   simp[Builtin.append_,run_underlying u37,sizeOf,typeInfo,i1,i3,Builtin.lenOf,hroom,hf,Addr.add_lit,hst]
  refine⟨⟨s.a,s.len+1,s.cap⟩,_,hrun,.inl ⟨g,cur.setIfInBounds s.len (u8V b),fz,h1,zJK h2 _ _,by rw[Array.size_setIfInBounds];exact h3,by simp[h4],hroom,h6,by rw[Array.size_setIfInBounds];exact h7,?_,h9⟩,?_⟩
  ·rw[Array.toList_setIfInBounds,List.map_append,←h8]
   apply List.ext_getElem?
   intro j
   show(List.take (s.len+1) _)[j]?=_
   rw[List.getElem?_take]
   rcases Nat.lt_trichotomy j s.len with hj|hj|hj
   ·rw[if_pos (by omega),List.getElem?_set_ne (by omega),List.getElem?_append_left (by rw[List.length_take,Array.length_toList];omega),List.getElem?_take,if_pos hj]
   ·subst hj
    rw[if_pos (by omega),List.getElem?_set_self (by rw[Array.length_toList];exact hin),List.getElem?_append_right (by rw[List.length_take];omega),List.length_take,Array.length_toList,show s.len - min s.len cur.size=0 by omega];rfl
   ·rw[if_neg (by omega),List.getElem?_eq_none]
    rw[List.length_append,List.length_take,List.length_map,List.length_singleton];omega
  ·have:=Fr.setCell w ⟨g,s.len,none⟩ (u8V b)
   exact⟨this.os,this.tape,this.output,this.size,λk hk hn=>this.block k hk (λe=>hn (by simp[zQe,h1,e]))⟩
 ·have hlen:(l.map u8V).length=s.len * i.size:=by rw[i3,List.length_map];omega
  have holds:∀j u,(l.map u8V)[j]?=some u->w.cell? ((⟨g,0,none⟩:Addr).add j)=some u:=λj u hu=>by
   obtain⟨x,hx,rfl⟩:∃x,l[j]?=some x/\u8V x=u:=by simpa using hu
   obtain⟨a,ha,hca⟩:=hcell j x hx
   rw[h1]at ha;cases ha;exact hca
  have hrun:=run_append_grow (P:=prog) w 22 37 5 i (.int .u8 0) u37 i1 i2 ⟨g,0,none⟩ s.len s.cap (l.map u8V) hlen holds ⟨r,0,none⟩ 1 1 [u8V b] (by rw[i3];rfl) hnews (by omega) (by omega) (growslice_fits (by omega) (by rw[i4];omega))
  have hge:=grownCap_ge w (s.len+1) s.cap 5
  have hcm:grownCap w (s.len+1) s.cap 5<=maxLen:=grownCap_le_maxLen w (s.len+1) s.cap 5 (by unfold maxLen;omega)
  refine⟨⟨some ⟨w.heap.size,0,none⟩,s.len+1,grownCap w (s.len+1) s.cap 5⟩,_,by rw[h1];exact hrun,.inr ⟨⟨by simp[h4],.inr ⟨w.heap.size,_,rfl,heap_alloc_new w.drew _,hge,hcm,?_,?_⟩⟩,λk hk=>by simp[zQe]at hk;omega⟩,?_⟩
  ·simp only[Array.size_append,List.size_toArray,List.length_map,List.length_singleton,size_zeroCells]
   show l.length+1+(grownCap w (s.len+1) s.cap 5 - (s.len+1)) * 1=_
   show l.length+1+(grownCap w (s.len+1) s.cap 5 - (s.len+1)) * 1=grownCap w (s.len+1) s.cap 5 * 1
   omega
  ·simp only[Array.toList_append,List.append_assoc]
   rw[←List.append_assoc,List.map_append]
   have e:(List.map u8V l ++ [u8V b]).length=(s.len+1) * 1:=by simp[h4]
   show List.take ((s.len+1) * 1) _=_
   rw[←e]
   exact List.take_left
  ·exact(Fr.drew w).trans (Fr.alloc w.drew _) λi hi _=>hi
theorem zWF.push {w0 w:World} {s:SV} {l:List UInt8} (h:zWF w0 w s l) (hp:Pu w0 w) {r:Nat} {b:UInt8} {c:Array Value} (hr:w.heap[r]?=some (.cells c 5)) (hc:c[0]?=some (u8V b)) (hb:l.length<=1000000) :
  ∃(s':SV) (w':World),(Builtin.append_ #[22,22] 22 #[.slice s.a s.len s.cap,.slice (some ⟨r,0,none⟩) 1 1]).run prog w=.ok (.slice s'.a s'.len s'.cap) w'/\zWF w0 w' s' (l ++ [b])/\Pu w0 w':=by
 rcases h with h|h
 ·obtain⟨g,cur,fz,h1,_,_,_,_,_,_,_,h9⟩:=id h
  obtain⟨s',w',e,h2,f⟩:=h.push hp.size hr hc hb
  exact⟨s',w',e,h2,hp.andNew f λi hi=>by simp[zQe,h1]at hi;omega⟩
 ·obtain⟨s',w',e,h2,f⟩:=h.one hp.size hr hc (by omega)
  exact⟨s',w',e,.inr h2,hp.andNew f λi hi=>h.2 i hi⟩
end Go.Proofs.YtaeecpjhfmcliaaGreatDoor
/- Table: the reference's header and row. No condition. -/
namespace Go.Proofs.YtaeecpjhfmcliaaGreatDoor
open Go.Sh Go.RowKit Tryz
theorem zQi.cat {w1 w:World} {s m:SV} {l news:List UInt8} (h:zQi w1 w s l) (hp:Pu w1 w) (hl:m.len=news.length) (hn:∀(j:Nat) (b:UInt8),news[j]?=some b->∃a,m.a=some a/\w.cell? (a.add j)=some (u8V b)) (hb:l.length+news.length<=2000000) :
  ∃(s':SV) (w':World),(Builtin.append_ #[22,22] 22 #[.slice s.a s.len s.cap,.slice m.a m.len m.cap]).run prog w=.ok (.slice s'.a s'.len s'.cap) w'/\zQi w1 w' s' (l ++ news)/\Pu w1 w':=by
 obtain⟨s',w',e,h2,f⟩:=h.app hp.size hl hn (by omega)
 exact⟨s',w',e,h2,hp.andNew f λi hi=>h.2 i hi⟩
theorem xQR {w:World} {r:Nat} {c:Array Value} {news:List UInt8} (hr:w.heap[r]?=some (.cells c 5)) (hc:c=(news.map u8V).toArray):∀(j:Nat) (b:UInt8),news[j]?=some b->∃a,(some (⟨r,0,none⟩:Addr))=some a/\w.cell? (a.add j)=some (u8V b):=λj b hj=>by
 refine⟨_,rfl,?_⟩
 rw[cl hr,hc];simp[hj]
end Go.Proofs.YtaeecpjhfmcliaaGreatDoor
/- Table: the bytes of a table; the law on them. No condition. -/
namespace Go.Proofs.YtaeecpjhfmcliaaGreatDoor
open Go.Sh Go.RowKit Tryz
def zQk(t:Tbl):List UInt8:=zJC t ++ t.recs.flatMap (zJI zQv t.fields) ++ [26]
def zQI(t:Tbl):List UInt8:=if zQh t=0 then zQk t else []
structure zJf(t:Tbl):Prop where
 page:zQV t.page=true
 vf:zQT t.fields=0
 ne:t.fields ≠ []
 all:t.fields.all zQo=true
 n16:t.fields.length<=16
 w2:zXG t.fields<=2000
 m300:t.recs.length<=300
 recs:∀x ∈ t.recs,zX7 t.fields t.page x.v
theorem zJf.of{t:Tbl}(h:zQh t=0):zJf t:=by
 obtain⟨hpg,hvf,cJ,hfb⟩:=zJB h
 obtain⟨h0,hall,_,iP,hw⟩:=zXl hvf
 exact⟨hpg,hvf,h0,hall,iP,hw,cJ,λx hx=>zX7.of hall (zJl hfb x hx)⟩
theorem zWH{t:Tbl}(h:zJf t):(zJC t).length=13+16 * t.fields.length:=by
 have:∀{l:List Fld},l.all zQo=true->(l.flatMap zQJ).length=16 * l.length:=by
  intro l
  induction l with
  | nil=>intro _;rfl
  | cons f l ih=>
   intro hl
   rw[List.flatMap_cons,List.length_append,zZp (zQZ (List.all_eq_true.1 hl f (by simp))).2.1,ih (List.all_eq_true.2 λg hg=>List.all_eq_true.1 hl g (by simp[hg])),List.length_cons]
   omega
 unfold zJC
 simp only[List.length_append,zXm,List.length_cons,List.length_nil,this h.all]
 omega
theorem zVT{t:Tbl}(h:zJf t):∀k,k<=t.recs.length->(((t.recs.take k).flatMap (zJI zQv t.fields)).length:Int)=k * zXG t.fields
 | 0,_=>by simp
 | k+1,hk=>by
  obtain⟨x,hx⟩:=zQK (show k<t.recs.length by omega)
  rw[zQC hx,List.flatMap_append,List.length_append,List.flatMap_cons,List.flatMap_nil,List.append_nil]
  have h1:=zVT h k (by omega)
  have h2:=zKE h.all (h.recs x (List.mem_of_getElem? hx))
  rw[Int.natCast_add,h1,h2,Int.natCast_add,Int.add_mul];omega
theorem yZB {α β:Type} (g:α->List β) {l:List α} {k:Nat} {x:α} (h:l[k]?=some x):(l.take (k+1)).flatMap g=(l.take k).flatMap g ++ g x:=by
 rw[zQC h,List.flatMap_append];simp
theorem xQG{t:Tbl}(h:zJf t)(k:Nat)(hk:k<=t.recs.length):((t.recs.take k).flatMap (zJI zQv t.fields)).length<=600000:=by
 have h1:=zVT h k hk
 have h2:=h.m300
 have h3:=h.w2
 have h4:(k:Int) * zXG t.fields<=300 * 2000:=by
  have hw:0<=zXG t.fields:=by have:=zJp (WOk.of h.all);unfold zXG;omega
  exact Int.mul_le_mul (by omega) h3 hw (by omega)
 omega
theorem yQH{w:World}{t:Tbl}{f r:SV}(h:zXi w t f r)(ho:zJf t):Calls prog 123 #[zKQ t f r] w λe w'=>∃q:SV,e=.returned (.slice q.a q.len q.cap)/\zQi w w' q (zQk t)/\Pu w w':=by
 have hm:=ho.m300
 have iP:=ho.n16
 have hrl:=h.recs.len
 have hh:=zWH ho
 refine yWS _ _ _ w _ (alB λw1 ar aA=>⟨_,cl aA 0,_,cl aA 1,_,cl aA 2,(yKq (h.pu ar) ho.vf (by omega)).mono ?_⟩)
 rintro e w2 ⟨q,rfl,hq,aq⟩
 refine⟨q,rfl,_,cl (aq.blk aA) 2,?_⟩
 refine zQx t.recs.length (λk u w'=>u.2=(k:Int)/\zQi w1 w' u.1 (zJC t ++ (t.recs.take k).flatMap (zJI zQv t.fields))/\Pu w1 w') ⟨rfl,by simpa using hq,aq⟩ ?_
 rintro k J ⟨u1,u2⟩ w3 hk ⟨z7,hr,hp⟩ hJ
 obtain rfl:u2=(k:Int):=z7
 have hr:zQi w1 w3 u1 (zJC t ++ (t.recs.take k).flatMap (zJI zQv t.fields)):=hr
 have hrs:=xQG ho k hk
 dsimp only
 refine Br.of (λd=>?_) (λd=>?_)
 ·have aH:k<t.recs.length:=by have:=zQj d;omega
  obtain⟨x,hx⟩:=zQK aH
  have hR:=ho.recs x (List.mem_of_getElem? hx)
  obtain⟨a,s,ha,hi,hs,c0,c1⟩:=zKn (h.recs.pu (ar.trans hp)) hx
  refine⟨a,ha,by omega,by omega,_,c0,s,c1,yQr rfl s46.symm rfl λw4 aK xz cI=>⟨_,cl ((hp.trans aK).blk aA) 1,_,cl cI 0,s,cl cI 1,?_⟩⟩
  refine(row_c (sh:=zQv) (r:=x) (h.fields.pu (ar.trans (hp.trans aK))) (hs.pu aK) hR.1 iP (WOk.of ho.all) (hR.writes ho.all) (hR.ne ho.all ho.ne)).mono ?_
  rintro e w5 ⟨m,rfl,hm5,aT⟩
  have hl5:=zKE ho.all hR
  have mP:=ho.w2
  obtain⟨q',w6,e6,r6,p6⟩:=((hr.pu aK).pu aT).cat ((hp.trans aK).trans aT) (m:=m) hm5.len (λj b hj=>hm5.cell hj) (by rw[List.length_append];omega)
  refine⟨m,rfl,q',w6,e6,?_⟩
  rw[zQa (by omega) (by omega)]
  refine hJ _ _ aH ⟨by dsimp only;omega,?_,p6⟩
  dsimp only
  rw[yZB _ hx,←List.append_assoc];exact r6
 ·have aH:k=t.recs.length:=by have:=zQd d;omega
  subst aH
  rw[List.take_length]at hr hrs
  refine alB λw4 aK cI=>?_
  obtain⟨q',w5,e5,r5,p5⟩:=(hr.pu aK).cat (hp.trans aK) (m:=⟨some ⟨w3.heap.size,0,none⟩,1,1⟩) (news:=[26]) rfl (xQR cI rfl) (by rw[List.length_append,List.length_singleton];omega)
  exact⟨q',w5,e5,q',rfl,r5.low ar.size,ar.trans p5⟩
theorem yQX{w:World}{t:Tbl}{f r:SV}(h:zXi w t f r)(hl:Lim.ok t.fields):Calls prog 86 #[zKQ t f r] w λe w'=>∃q:SV,e=.returned (.tuple #[.slice q.a q.len q.cap,.int .i64 (zQh t)])/\zQi w w' q (zQI t)/\Pu w w':=by
 refine xX0 _ _ _ w _ (alB λw1 ar aA=>⟨_,cl aA 0,_,cl aA 1,_,cl aA 2,(zZq (h.pu ar) hl).mono ?_⟩)
 rintro e w2 ⟨rfl,aq⟩
 have b2:=aq.blk aA
 refine⟨_,rfl,Br.of (λd=>⟨⟨none,0,0⟩,rfl,by unfold zQI;rw[if_neg (zQw d)];exact zQi.nil w w2,ar.trans aq⟩) (λd=>?_)⟩
 have hv:=zQq d
 refine⟨_,cl b2 0,_,cl b2 1,_,cl b2 2,(yQH (h.pu (ar.trans aq)) (zJf.of hv)).mono ?_⟩
 rintro e w3 ⟨q,rfl,hq,au⟩
 exact⟨q,rfl,q,by rw[hv],by unfold zQI;rw[if_pos hv];exact hq.low (ar.trans aq).size,(ar.trans aq).trans au⟩
end Go.Proofs.YtaeecpjhfmcliaaGreatDoor
/- Table: bytes that are handed in; parts of a row's bytes. No condition. -/
namespace Go.Proofs.YtaeecpjhfmcliaaGreatDoor
open Go.Sh Go.RowKit Tryz
theorem addr2(a:Addr)(i j:Nat):(a.add i).add j=a.add (i+j):=by
 unfold Addr.add
 by_cases hi:i=0
 ·subst hi;simp
 ·by_cases hj:j=0
  ·subst hj;simp[hi]
  ·simp[hi,hj,Nat.add_assoc]
structure ByV(w:World)(s:SV)(d:List UInt8):Prop where
 len:s.len=d.length
 cap:s.len<=s.cap
 lim:s.len<=140737488355328
 get:∀(j:Nat) (b:UInt8),d[j]?=some b->∃a,s.a=some a/\w.cell? (a.add (j * 1))=some (u8V b)
theorem ByV.pu{w w':World}{s:SV}{d:List UInt8}(h:ByV w s d)(hp:Pu w w'):ByV w' s d:=⟨h.len,h.cap,h.lim,λj b hj=>by
 obtain⟨a,h1,h2⟩:=h.get j b hj
 exact⟨a,h1,hp.cell h2⟩⟩
theorem ByV.of{w:World}{s:SV}{d:List UInt8}(h:zX3 w s d):ByV w s d:=⟨h.len,h.cap,h.lim,λj b hj=>by
 obtain⟨a,h1,_,h2⟩:=h.u8 hj
 exact⟨a,h1,h2⟩⟩
theorem zQi.by{w0 w:World}{s:SV}{d:List UInt8}(h:zQi w0 w s d)(hb:d.length<=140737488355328):ByV w s d:=⟨h.len,h.1.le_cap.1,by have:=h.len;omega,λj b hj=>by
 obtain⟨a,h1,h2⟩:=h.cell hj
 exact⟨a,h1,by rw[Nat.mul_one];exact h2⟩⟩
theorem yYf {d:List UInt8} {lo n j:Nat} {b:UInt8} (h:((d.drop lo).take n)[j]?=some b):d[lo+j]?=some b:=by
 rw[List.getElem?_take]at h
 split at h
 ·rw[List.getElem?_drop]at h;exact h
 ·cases h
theorem ByV.sub{w:World}{s:SV}{d:List UInt8}(h:ByV w s d){lo hi:Nat}(h1:lo<=hi)(h2:hi<=d.length):ByV w ⟨if s.cap=lo then s.a else s.a.map (λx=>x.add (lo * 1)),hi - lo,s.cap - lo⟩ ((d.drop lo).take (hi - lo)):=by
 have hl:=h.len
 have hc:=h.cap
 have hm:=h.lim
 refine⟨by rw[List.length_take,List.length_drop];show hi - lo=_;omega,by show hi - lo<=s.cap - lo;omega,by show hi - lo<=_;omega,λj b hj=>?_⟩
 have mF:=yYf hj
 obtain⟨a,ha,hcell⟩:=h.get _ _ mF
 have hlt:=(List.getElem?_eq_some_iff.1 mF).1
 have wP:=(List.getElem?_eq_some_iff.1 hj).1
 rw[List.length_take,List.length_drop]at wP
 refine⟨a.add (lo * 1),?_,?_⟩
 ·show(if s.cap=lo then s.a else s.a.map (λx=>x.add (lo * 1)))=_
  rw[if_neg (by omega),ha];rfl
 ·rw[addr2,show lo * 1+j * 1=(lo+j) * 1 by omega];exact hcell
theorem ByV.part3{w:World}{s:SV}{d:List UInt8}(h:ByV w s d){lo hi:Nat}(h1:lo<=hi)(h2:hi<=d.length):∃l:SV,(Instr.sliceAt 22 (.slice s.a s.len s.cap) (some (.int .i64 (lo:Int))) (some (.int .i64 (hi:Int))) (some (.int .i64 (hi:Int)))).run prog w=.ok (.slice l.a l.len l.cap) w/\ByV w l ((d.drop lo).take (hi - lo)):=by
 have hl:=h.len
 have hc:=h.cap
 have hm:=h.lim
 have hs:(sizeOf 5).run prog w=.ok 1 w:=Tryz.sizeOf5 w
 refine⟨⟨if hi=lo then s.a else s.a.map (λx=>x.add (lo * 1)),hi - lo,hi - lo⟩,?_,by rw[List.length_take,List.length_drop];show hi - lo=_;omega,Nat.le_refl _,by show hi - lo<=_;omega,λj b hj=>?_⟩
 ·simp[Instr.sliceAt,zQn u37,Instr.slice,hs,Instr.sliceBounds,Instr.sliceBound,asIntOf,show hi<=s.cap by omega,h1]
 ·have mF:=yYf hj
  obtain⟨a,ha,hcell⟩:=h.get _ _ mF
  have wP:=(List.getElem?_eq_some_iff.1 hj).1
  rw[List.length_take,List.length_drop]at wP
  refine⟨a.add (lo * 1),?_,?_⟩
  ·show(if hi=lo then s.a else s.a.map (λx=>x.add (lo * 1)))=_
   rw[if_neg (by omega),ha];rfl
  ·rw[addr2,show lo * 1+j * 1=(lo+j) * 1 by omega];exact hcell
theorem yZQ{w:World}{s:SV}{d:List UInt8}(h:ByV w s d):(convert 22 9 (.slice s.a s.len s.cap)).run prog w=.ok (.string (bs d)) w:=by
 have hl:=h.len
 rw[run_convert_bytes_string w 22 9 5 _ _ _ u37 u5 u9]
 cases ha:s.a with
 | none=>
  have hd:d=[]:=by
   cases d with
   | nil=>rfl
   | cons b d=>obtain⟨a,h1,_⟩:=h.get 0 b rfl;rw[ha]at h1;cases h1
  subst hd
  simp[Conv.bytesToString];rfl
 | some a=>
  have hld:(loadCells a s.len).run prog w=.ok ((d.map λb=>((b.toNat:Nat):Int)).map (Value.int .u8)).toArray w:=by
   have:=run_loadCells_list (P:=prog) w a ((d.map λb=>((b.toNat:Nat):Int)).map (Value.int .u8)) (λj v hj=>by
    simp only[List.getElem?_map,Option.map_map,Option.map_eq_some_iff]at hj
    obtain⟨b,hb,rfl⟩:=hj
    obtain⟨a',h1,h2⟩:=h.get j b hb
    rw[ha]at h1;cases h1
    rw[Nat.mul_one]at h2;exact h2)
   simpa[hl] using this
  rw[run_bytesToString w a s.len s.cap _ hld,foldl_push_bytes]
  congr 2
  apply zQU
  have e0:((⟨ByteArray.empty.data ++ (List.map (λn:Int=>UInt8.ofNat n.toNat) (d.map λb=>((b.toNat:Nat):Int))).toArray⟩:ByteArray)).data.toList=d.map ((λn:Int=>UInt8.ofNat n.toNat) ∘ λb=>((b.toNat:Nat):Int)):=by
   simp[ByteArray.empty,ByteArray.emptyWithCapacity];rfl
  refine e0.trans ?_
  show _=d
  conv=>rhs;rw[←List.map_id d]
  apply List.map_congr_left
  intro x _
  simp
def xXl(d:List UInt8):Nat:=d.foldr (λb a=>a * 256+b.toNat) 0
theorem zYP(b:UInt8)(d:List UInt8):xXl (b :: d)=xXl d * 256+b.toNat:=rfl
theorem xX1:∀d:List UInt8,xXl d<256 ^ d.length
 | []=>by simp[xXl]
 | b :: d=>by
  rw[zYP,List.length_cons,Nat.pow_succ]
  have:=xX1 d
  have:=b.toNat_lt
  omega
theorem xJg{m:Nat}(h:m<4294967296):xXl (zVL m 4)=m:=by
 unfold zVL
 simp only[List.range,List.range.loop,List.map_cons,List.map_nil,zYP]
 have e:∀x:Nat,(UInt8.ofNat (x % 256)).toNat=x % 256:=λx=>by simp
 simp only[e,xXl,List.foldr_nil]
 omega
theorem or_low{a b:Nat}(ha:a<16777216)(hb:b<256):IntKind.i64.wrap ((BitVec.ofInt 64 (IntKind.i64.wrap ((a:Int) * 2 ^ 8)) ||| BitVec.ofInt 64 (IntKind.i64.wrap (b:Int))).toNat:Nat)=((a * 256+b:Nat):Int):=by
 rw[zQa (n:=(a:Int) * 2 ^ 8) (by omega) (by omega),zQa (n:=(b:Int)) (by omega) (by omega)]
 have e1:((a:Int) * 2 ^ 8)=((a * 256:Nat):Int):=by omega
 have e2:(BitVec.ofInt 64 ((a * 256:Nat):Int) ||| BitVec.ofInt 64 (b:Int)).toNat=a * 256+b:=by
  rw[BitVec.toNat_or]
  have h1:(BitVec.ofInt 64 ((a * 256:Nat):Int)).toNat=a * 256:=by rw[BitVec.ofInt_natCast,BitVec.toNat_ofNat];omega
  have h2:(BitVec.ofInt 64 (b:Int)).toNat=b:=by rw[BitVec.ofInt_natCast,BitVec.toNat_ofNat];omega
  rw[h1,h2]
  have:=Nat.shiftLeft_add_eq_or_of_lt (i:=8) (b:=b) (by omega) a
  rw[Nat.shiftLeft_eq]at this
  exact this.symm
 rw[e1,e2,zQa (by omega) (by omega)]
theorem xZF{w:World}{s:SV}{d:List UInt8}(h:ByV w s d)(h4:d.length=4):Calls prog 162 #[.slice s.a s.len s.cap] w λe w'=>e=.returned (.int .i64 (xXl d:Nat))/\Pu w w':=by
 refine yWq _ w _ ?_
 have hl:=h.len
 rw[yYM,zQa (by omega) (by omega)]
 refine zQx 4 (λk t w'=>t.1=(xXl (d.drop (4 - k)):Nat)/\t.2=3 - (k:Int)/\Pu w w') ⟨by rw[List.drop_eq_nil_of_le (by omega)];rfl,by dsimp only;omega,Pu.refl _⟩ ?_
 rintro k J ⟨t1,t2⟩ w2 hk ⟨h1,h2,hp⟩ hJ
 obtain rfl:t1=(xXl (d.drop (4 - k)):Nat):=h1
 obtain rfl:t2=3 - (k:Int):=h2
 dsimp only
 refine Br.of (λq=>?_) (λq=>?_)
 ·have aH:k<4:=by have:=zQj q;omega
  obtain⟨b,hb⟩:=zQK (l:=d) (k:=3 - k) (by omega)
  obtain⟨a,ha,hc⟩:=(h.pu hp).get _ _ hb
  have hlt:=xX1 (d.drop (4 - k))
  rw[List.length_drop,h4]at hlt
  have hlt3:xXl (d.drop (4 - k))<16777216:=Nat.lt_of_lt_of_le hlt (by
   rcases(by omega:k=0∨k=1∨k=2∨k=3)with rfl|rfl|rfl|rfl <;> decide)
  have hbl:=b.toNat_lt
  refine⟨by omega,a,ha,by omega,by omega,_,by rw[show(3 - (k:Int)).toNat=3 - k by omega];exact hc,?_⟩
  rw[or_low hlt3 hbl,zQa (by omega) (by omega)]
  refine hJ _ _ aH ⟨?_,by dsimp only;omega,hp⟩
  dsimp only
  rw[show 4 - (k+1)=3 - k by omega,zXR hb,zYP,show 3 - k+1=4 - k by omega]
 ·have aH:k=4:=by have:=zQd q;omega
  subst aH
  exact⟨rfl,hp⟩
theorem bit_p:∀x:Nat,x<256->∀r:Nat,r<8->((IntKind.u8.wrap ((BitVec.ofInt 8 (((x:Nat):Int).fdiv (2 ^ (min r 8))) &&& BitVec.ofInt 8 1).toNat:Nat)) == 1)=x.testBit r:=by decide +kernel
def sum8(c0 c1 c2 c3 c4 c5 c6 c7:Bool):Nat:=(if c0 then 2 ^ 0 else 0)+(if c1 then 2 ^ 1 else 0)+(if c2 then 2 ^ 2 else 0)+(if c3 then 2 ^ 3 else 0)+(if c4 then 2 ^ 4 else 0)+(if c5 then 2 ^ 5 else 0)+(if c6 then 2 ^ 6 else 0)+(if c7 then 2 ^ 7 else 0)
theorem xZn:∀c0 c1 c2 c3 c4 c5 c6 c7:Bool,∀r:Nat,r<8->(UInt8.ofNat (sum8 c0 c1 c2 c3 c4 c5 c6 c7)).toNat.testBit r=[c0,c1,c2,c3,c4,c5,c6,c7].getD r false:=by decide +kernel
theorem yWW(bits:List Bool)(q:Nat){r:Nat}(hr:r<8):(UInt8.ofNat (zZm bits q)).toNat.testBit r=decide (bits[8 * q+r]?=some true):=by
 have e:zZm bits q=sum8 (decide (bits[8 * q+0]?=some true)) (decide (bits[8 * q+1]?=some true)) (decide (bits[8 * q+2]?=some true)) (decide (bits[8 * q+3]?=some true)) (decide (bits[8 * q+4]?=some true)) (decide (bits[8 * q+5]?=some true)) (decide (bits[8 * q+6]?=some true)) (decide (bits[8 * q+7]?=some true)):=by
  unfold zZm sum8 zKg
  simp only[decide_eq_true_eq]
 rw[e,xZn _ _ _ _ _ _ _ _ r hr]
 rcases(by omega:r=0∨r=1∨r=2∨r=3∨r=4∨r=5∨r=6∨r=7)with rfl|rfl|rfl|rfl|rfl|rfl|rfl|rfl <;> rfl
def zXN(l:List Fld)(k:Nat):Nat:=((l.take k).filter (·.null)).length
theorem yJN(l:List Fld)(k:Nat):zXN l k<=(l.filter (·.null)).length:=zZy l k
theorem zWt:∀{l:List Fld} {vs:List Val},vs.length=l.length->(zXs l vs).length=(l.filter (·.null)).length
 | [],_,_=>by simp[zXs]
 | f :: l,[],h=>by simp at h
 | f :: l,v :: vs,h=>by
  have ih:=zWt (l:=l) (vs:=vs) (by simpa using h)
  unfold zXs
  rw[List.filter_cons]
  by_cases hn:f.null=true
  ·rw[if_pos hn,if_pos hn];simp only[List.length_cons];omega
  ·rw[if_neg hn,if_neg hn];exact ih
theorem zYD:∀(l:List Fld) (vs:List Val) (k:Nat),zXs l vs=zXs (l.take k) (vs.take k) ++ zXs (l.drop k) (vs.drop k)
 | [],_,_=>by simp[zXs]
 | f :: l,[],k=>by
  have:zXs (f :: l) []=[]:=rfl
  rw[this]
  cases k with
  | zero=>simp[zXs]
  | succ k=>cases h:List.drop (k+1) (f :: l) <;> simp[zXs]
 | f :: l,v :: vs,0=>by simp[zXs]
 | f :: l,v :: vs,k+1=>by
  have ih:=zYD l vs k
  simp only[List.take_succ_cons,List.drop_succ_cons]
  have e1:zXs (f :: l) (v :: vs)=if f.null then decide (v.kind=0) :: zXs l vs else zXs l vs:=rfl
  have e2:zXs (f :: l.take k) (v :: vs.take k)=if f.null then decide (v.kind=0) :: zXs (l.take k) (vs.take k)else zXs (l.take k) (vs.take k):=rfl
  rw[e1,e2]
  split
  ·rw[ih];rfl
  ·exact ih
theorem xZQ {l:List Fld} {vs:List Val} (hl:vs.length=l.length) {k:Nat} {f:Fld} {v:Val} (hf:l[k]?=some f) (hv:vs[k]?=some v) (hn:f.null=true):(zXs l vs)[zXN l k]?=some (decide (v.kind=0)):=by
 have hk:=(List.getElem?_eq_some_iff.1 hf).1
 have h1:(zXs (l.take k) (vs.take k)).length=zXN l k:=zWt (by rw[List.length_take,List.length_take];omega)
 rw[zYD l vs k,List.getElem?_append_right (by omega),h1,Nat.sub_self,zXR hf,zXR hv]
 unfold zXs;rw[if_pos hn];rfl
theorem yXR(sh:Fld->Val->List UInt8)(l:List Fld)(vs:List Val)(h:vs.length=l.length)(k:Nat):zXL sh l vs=zXL sh (l.take k) (vs.take k) ++ zXL sh (l.drop k) (vs.drop k):=by
 unfold zXL
 rw[←List.flatMap_append,←List.zip_append (by rw[List.length_take,List.length_take];omega),List.take_append_drop,List.take_append_drop]
theorem xZW {l:List Fld} {r:Rec} {d:List UInt8} (hd:zJI zQv l r=d) {b:UInt8} (hb:d[0]?=some b):b=yZ9 r.gone:=by
 rw[←hd]at hb
 unfold zJI at hb
 simpa using hb.symm
def yQi(l:List Fld)(k:Nat):Nat:=1+zXo l+((l.take k).map (λx:Fld=>x.width)).sum.toNat
theorem xZs {l:List Fld} {p:Int} {r:Rec} {d:List UInt8} (hall:l.all zQo=true) (hR:zX7 l p r.v) (hd:zJI zQv l r=d) {k:Nat} {f:Fld} {v:Val} (hf:l[k]?=some f) (hv:r.v[k]?=some v):(d.drop (yQi l k)).take f.width.toNat=zQv f v:=by
 have hk:=(List.getElem?_eq_some_iff.1 hf).1
 have h1:=zXM hall hR k (by omega)
 have hw:=(hR.2 k f v hf hv).len
 rw[←hd]
 unfold zJI yQi
 have hlen:([yZ9 r.gone] ++ flN (zXo l) (zXs l r.v) ++ zXL zQv (l.take k) (r.v.take k)).length=1+zXo l+((l.take k).map (λx:Fld=>x.width)).sum.toNat:=by
  simp only[List.length_append,zVd,List.length_singleton];omega
 rw[yXR zQv l r.v hR.1 k,←List.append_assoc,List.drop_append,List.drop_eq_nil_of_le (by omega),hlen,Nat.sub_self,List.drop_zero,List.nil_append,zXR hf,zXR hv]
 unfold zXL
 rw[List.zip_cons_cons,List.flatMap_cons]
 dsimp only
 rw[zYA,List.take_append_of_le_length (by omega),List.take_of_length_le (by omega)]
theorem yKh {l:List Fld} {p:Int} {r:Rec} {d:List UInt8} (hR:zX7 l p r.v) (hd:zJI zQv l r=d) {k:Nat} {f:Fld} {v:Val} (hf:l[k]?=some f) (hv:r.v[k]?=some v) (hn:f.null=true) {b:UInt8} (hb:d[1+zXN l k / 8]?=some b):b.toNat.testBit (zXN l k % 8)=decide (v.kind=0):=by
 have hc:=xZQ hR.1 hf hv hn
 have hlt:=(List.getElem?_eq_some_iff.1 hc).1
 rw[zWt hR.1]at hlt
 have hq:zXN l k / 8<zXo l:=by unfold zXo;omega
 have e:b=UInt8.ofNat (zZm (zXs l r.v) (zXN l k / 8)):=by
  rw[←hd]at hb
  unfold zJI at hb
  rw[List.append_assoc,List.getElem?_append_right (by simp),List.getElem?_append_left (by simp[zVd];exact hq)]at hb
  simp only[List.length_singleton,Nat.add_sub_cancel_left]at hb
  rw[xWG hq]at hb
  exact(Option.some.inj hb).symm
 rw[e,yWW _ _ (Nat.mod_lt _ (by decide)),show 8 * (zXN l k / 8)+zXN l k % 8=zXN l k by omega,hc]
 simp
theorem zVe {l:List Fld} {k:Nat} {f:Fld} (hf:l[k]?=some f):zXN l (k+1)=if f.null then zXN l k+1 else zXN l k:=zWi hf
theorem yYu {l:List Fld} (hall:l.all zQo=true) {k:Nat} {f:Fld} (hf:l[k]?=some f):yQi l (k+1)=yQi l k+f.width.toNat:=by
 have h1:=zW3 hf
 have h2:=zJp ((WOk.of hall).take k)
 have h3:=WOk.of hall f (List.mem_of_getElem? hf)
 unfold yQi;rw[h1];omega
theorem xYD {l:List Fld} (hall:l.all zQo=true) {k:Nat} {f:Fld} (hf:l[k]?=some f):((yQi l k+f.width.toNat:Nat):Int)<=zXG l:=by
 have hk:=(List.getElem?_eq_some_iff.1 hf).1
 have h1:=zW3 hf
 have h2:=zJp ((WOk.of hall).take k)
 have h3:=WOk.of hall f (List.mem_of_getElem? hf)
 have h4:((l.take (k+1)).map (·.width)).sum<=(l.map (·.width)).sum:=by
  have e:l.map (·.width)=(l.take (k+1)).map (·.width) ++ (l.drop (k+1)).map (·.width):=by rw[←List.map_append,List.take_append_drop]
  have h5:=zJp (l:=l.drop (k+1)) λg hg=>WOk.of hall g (List.mem_of_mem_drop hg)
  rw[e,List.sum_append];omega
 unfold yQi zXG;omega
end Go.Proofs.YtaeecpjhfmcliaaGreatDoor
