import Derived.Test.YtjbfehippchniaaGreatDoorShSeventeen
import Derived.Test.YtjbfehippchniaaGreatDoorShEleven
import Derived.Lib.TrimByte
/- Bytes, lists met from a place on, days and dates, in plain words. For every program. -/
set_option maxRecDepth 100000
set_option linter.unusedVariables false
set_option linter.unusedSimpArgs false
namespace Go.Sh
open Go.RowKit
theorem drop_at {α:Type} {l:List α} {k:Nat} {x:α} (h:l[k]?=some x):l.drop k=x :: l.drop (k+1):=by
  obtain⟨h1,h2⟩:=List.getElem?_eq_some_iff.1 h
  rw[List.drop_eq_getElem_cons h1,h2]
theorem take_at {α:Type} {l:List α} {k:Nat} {x:α} (h:l[k]?=some x):l.take (k+1)=l.take k ++ [x]:=by
  rw[List.take_add_one,h];rfl
theorem at_k{α:Type}{l:List α}{k:Nat}(h:k<l.length):∃x,l[k]?=some x:=⟨_,List.getElem?_eq_getElem h⟩
theorem add0(a:Addr):a.add 0=a:=by simp[Addr.add]
theorem toList_beq(s t:ByteArray):(s.toList == t.toList)=decide (s=t):=by rw[←beq_toListBytes,beq_bytes]
theorem bytes_ext{s t:ByteArray}(h:s.data.toList=t.data.toList):s=t:=by
  obtain⟨⟨a⟩⟩:=s;obtain⟨⟨b⟩⟩:=t;simp at h;rw[h]
theorem size_list(s:ByteArray):s.data.toList.length=s.size:=by simp
abbrev bs(l:List UInt8):ByteArray:=⟨l.toArray⟩
theorem bs_list(l:List UInt8):(bs l).data.toList=l:=by simp[bs]
theorem list_bs(s:ByteArray):bs s.data.toList=s:=by obtain⟨⟨a⟩⟩:=s;rfl
theorem bs_size(l:List UInt8):(bs l).size=l.length:=by simp[bs,ByteArray.size]
def In64(n:Int):Prop:=-9223372036854775808 ≤ n ∧ n ≤ 9223372036854775807
instance:Enc Bool where
  sz:=1
  rd _ vs b:=vs=[.bool b]
  len h:=by rw[h];rfl
  pu _ h:=h
def capU(b:UInt8):UInt8:=if 97 ≤ b.toNat ∧ b.toNat ≤ 122 then b - 32 else b
def digB(b:UInt8):Bool:=decide (48 ≤ b.toNat) && decide (b.toNat ≤ 57)
theorem toList_nil(s:ByteArray):(s.toList == (⟨#[]⟩:ByteArray).toList)=decide (s.size=0):=by
  rw[←beq_toListBytes,beq_bytes]
  by_cases h:s.size=0
  · have:s=⟨#[]⟩:=by
      obtain⟨⟨l⟩⟩:=s
      cases l with
      | nil=>rfl
      | cons a l=>simp[ByteArray.size]at h
    simp[this]
    rfl
  · have:s ≠ ⟨#[]⟩:=λe=>h (by rw[e];rfl)
    simp[this,h]
theorem alB {w:World} {c:Array Value} {e:TypeId} {K:Nat → World → Prop} (h:∀w1,Pu w w1 → w1.heap[w.heap.size]?=some (.cells c e) → K w.heap.size w1):alE (.cells c e) w K:=
  h _ (Pu.alloc w _) (alloc_new w _)
theorem cl {w:World} {r:Nat} {c:Array Value} {e:TypeId} {f:Nat × Nat} (h:w.heap[r]?=some (.cells c e f)) (o:Nat):w.cell? ((⟨r,0,none⟩:Addr).add o)=c[o]?:=by rw[add_def,cell_blk h,Nat.zero_add]
theorem cl0 {w:World} {r:Nat} {c:Array Value} {e:TypeId} {f:Nat × Nat} (h:w.heap[r]?=some (.cells c e f)):w.cell? (⟨r,0,none⟩:Addr)=c[0]?:=cell_blk h 0
theorem btrue {a b:Int} (h:(a == b)=true):a=b:=by simpa using h
theorem bfalse {a b:Int} (h:(a == b)=false):a ≠ b:=by simpa using h
theorem bntrue {a b:Int} (h:(a != b)=true):a ≠ b:=by simpa using h
theorem bnfalse {a b:Int} (h:(a != b)=false):a=b:=by simpa using h
theorem dropWhile_nil{α:Type}(p:α → Bool):∀l:List α,l.dropWhile p=[] ↔ l.all p=true
  | []=>by simp
  | a :: l=>by
    by_cases h:p a=true
    · rw[List.dropWhile_cons,if_pos h,dropWhile_nil p l];simp[h]
    · simp[List.dropWhile,h]
theorem dropWhile_all{α:Type}(p:α → Bool):∀l:List α,(l.dropWhile p).all p=true ↔ l.all p=true
  | []=>by simp
  | a :: l=>by
    by_cases h:p a=true
    · simp only[List.dropWhile_cons,h,if_pos,List.all_cons,Bool.true_and]
      exact dropWhile_all p l
    · simp[List.dropWhile,h]
theorem at_byte{s:ByteArray}{k:Nat}(h:k<s.size):∃b,s[k]?=some b ∧ s.data.toList[k]?=some b:=by
  refine⟨s[k],by simp[h],?_⟩
  have:k<s.data.toList.length:=by simpa using h
  rw[List.getElem?_eq_getElem this]
  rfl
theorem byte_list {s:ByteArray} {k:Nat} {b:UInt8} (h:s.data.toList[k]?=some b):s[k]?=some b:=by
  have hk:k<s.size:=by have:=(List.getElem?_eq_some_iff.1 h).1;simpa using this
  obtain⟨c,h1,h2⟩:=at_byte hk
  rw[h2]at h
  rw[h1];exact h
theorem all_take {α:Type} (p:α → Bool) {l:List α} {k:Nat} {x:α} (h:l[k]?=some x):(l.take (k+1)).all p=((l.take k).all p && p x):=by
  rw[take_at h,List.all_append];simp
theorem dec_eq{p q:Prop}[Decidable p][Decidable q](h:p ↔ q):decide p=decide q:=by simp[h]
theorem bs_append(a b:List UInt8):bs a ++ bs b=bs (a ++ b):=bytes_ext (by simp[bs])
theorem extract_list(s:ByteArray)(i j:Nat):(s.extract i j).data.toList=(s.data.toList.take j).drop i:=by
  rw[ByteArray.data_extract,Array.toList_extract,List.extract_eq_take_drop,List.drop_take]
def leapN(y:Nat):Bool:=(decide (y % 4=0) && decide (y % 100 ≠ 0)) || decide (y % 400=0)
def mdays(y m:Nat):Nat:=if m=2 then(if leapN y then 29 else 28)else if m=4∨m=6∨m=9∨m=11 then 30 else 31
/-- The days of the first so many months. -/
def mfirst(y:Nat):Nat → Nat
  | 0=>0
  | m+1=>mfirst y m+mdays y (m+1)
def yfirst(y:Nat):Nat:=365 * (y - 1)+(y - 1) / 4 - (y - 1) / 100+(y - 1) / 400
def IsDate(y m d:Nat):Prop:=1 ≤ y ∧ y ≤ 9999 ∧ 1 ≤ m ∧ m ≤ 12 ∧ 1 ≤ d ∧ d ≤ mdays y m
instance (y m d:Nat):Decidable (IsDate y m d):=by unfold IsDate;exact inferInstance
def dayOf(y m d:Nat):Nat:=yfirst y+mfirst y (m - 1)+d
theorem yfirst_le{y:Nat}(h:1 ≤ y):365 * (y - 1) ≤ yfirst y ∧ yfirst y ≤ 366 * (y - 1):=by
  unfold yfirst;omega
theorem mfirst_le(y m:Nat):mfirst y m ≤ 31 * m:=by
  induction m with
  | zero=>simp[mfirst]
  | succ m ih=>simp only[mfirst,mdays];split <;> (try split) <;> omega
theorem beq_dec(a b:Int):(a == b)=decide (a=b):=by simp[BEq.beq]
theorem tmod_nat(n k:Nat):((n:Int)).tmod (k:Int)=((n % k:Nat):Int):=by rw[Int.tmod_eq_emod_of_nonneg (by omega)];norm_cast
theorem tdiv_nat(n k:Nat):((n:Int)).tdiv (k:Int)=((n / k:Nat):Int):=by rw[Int.tdiv_eq_ediv_of_nonneg (by omega)];norm_cast
def digN:Nat → List UInt8 → Nat
  | a,[]=>a
  | a,b :: l=>if digB b then digN (min (10 * a+(b.toNat - 48)) 1000000000000000) l else a
def signN:List UInt8 → Int
  | []=>0
  | b :: r=>if b.toNat=45 then -(digN 0 r:Int)else if b.toNat=43 then digN 0 r else digN 0 (b :: r)
theorem signN_cons(b:UInt8)(r:List UInt8):signN (b :: r)=if b.toNat=45 then -(digN 0 r:Int)else if b.toNat=43 then digN 0 r else digN 0 (b :: r):=rfl
def valS(l:List UInt8):Int:=signN (l.dropWhile (· == 32))
theorem digB_in{b:UInt8}(h:digB b=true):48 ≤ b.toNat ∧ b.toNat ≤ 57:=by
  unfold digB at h;simpa using h
theorem digB_out {b:UInt8} (h:¬(48 ≤ b.toNat ∧ b.toNat ≤ 57)):digB b=false:=by
  unfold digB;simp;omega
theorem dig_expr{b:UInt8}(h:48 ≤ b.toNat ∧ b.toNat ≤ 57):IntKind.i64.wrap (IntKind.u8.wrap (((b.toNat:Nat):Int) - 48))=((b.toNat - 48:Nat):Int):=by
  have e:IntKind.u8.wrap (((b.toNat:Nat):Int) - 48)=((b.toNat - 48:Nat):Int):=by rw[IntKind.wrap_u8];omega
  rw[e,wrap_in (by omega) (by omega)]
theorem extract1(b:UInt8)(r:List UInt8):(bs (b :: r)).extract ((1:Int).toNat) (bs (b :: r)).size=bs r:=by
  apply bytes_ext
  rw[extract_list,bs_list,bs_list,bs_size]
  show(List.take (b :: r).length (b :: r)).drop 1=r
  rw[List.take_length];rfl
def dateS(y m d:Nat):Int × Bool:=(((if IsDate y m d then dayOf y m d else 0:Nat):Int),decide (IsDate y m d))
def unstampS(l:List UInt8):Int × Bool:=if l=List.replicate 8 32 then(0,true)else if l.length ≠ 8 then(0,false)else if l.all digB then dateS (digN 0 (l.take 4)) (digN 0 ((l.drop 4).take 2)) (digN 0 (l.drop 6))else(0,false)
theorem valS_digits{l:List UInt8}(h:l.all digB=true):valS l=(digN 0 l:Nat):=by
  cases l with
  | nil=>rfl
  | cons b r=>
    have hb:=digB_in (List.all_eq_true.1 h b (by simp))
    have e:(b == 32)=false:=by
      simp only[beq_eq_false_iff_ne,ne_eq]
      intro h;subst h;revert hb;decide
    unfold valS
    rw[List.dropWhile_cons,e]
    simp only[Bool.false_eq_true,if_false]
    rw[signN_cons,if_neg (by omega),if_neg (by omega)]
def dset:List UInt8:=[48,49,50,51,52,53,54,55,56,57]
theorem dset_eq(b:UInt8):dset.contains b=digB b:=by
  have h:∀n:Nat,n<256 → dset.contains (UInt8.ofNat n)=digB (UInt8.ofNat n):=by decide +kernel
  have:=h b.toNat b.toNat_lt
  rwa [UInt8.ofNat_toNat]at this
theorem blanks8(s:ByteArray):(s.toList == (⟨#[32,32,32,32,32,32,32,32]⟩:ByteArray).toList)=decide (s.data.toList=List.replicate 8 32):=by
  rw[toList_beq]
  exact dec_eq ⟨λh=>by rw[h];rfl,λh=>bytes_ext (by rw[h];rfl)⟩
theorem all_take_of{l:List UInt8}(h:l.all digB=true)(n:Nat):(l.take n).all digB=true:=List.all_eq_true.2 λb hb=>List.all_eq_true.1 h b (List.mem_of_mem_take hb)
theorem all_drop_of{l:List UInt8}(h:l.all digB=true)(n:Nat):(l.drop n).all digB=true:=List.all_eq_true.2 λb hb=>List.all_eq_true.1 h b (List.mem_of_mem_drop hb)
theorem ext3{s:ByteArray}(h8:s.size=8):(s.extract 0 ((4:Int).toNat)).data.toList=s.data.toList.take 4 ∧ (s.extract ((4:Int).toNat) ((6:Int).toNat)).data.toList=(s.data.toList.drop 4).take 2 ∧ (s.extract ((6:Int).toNat) s.size).data.toList=s.data.toList.drop 6:=by
  refine⟨by rw[extract_list];rfl,?_,?_⟩
  · rw[extract_list]
    show(List.take 6 s.data.toList).drop 4=_
    rw[List.drop_take]
  · rw[extract_list,h8,List.take_of_length_le (by rw[size_list];omega)];rfl
theorem tw_lt{α:Type}{f:α → Bool}:∀{l:List α} {k:Nat},k<(l.takeWhile f).length → ∃x,l[k]?=some x ∧ f x=true
  | [],k,h=>by simp at h
  | a :: l,k,h=>by
    by_cases ha:f a=true
    · rw[List.takeWhile_cons,if_pos ha,List.length_cons]at h
      cases k with
      | zero=>exact⟨a,rfl,ha⟩
      | succ k=>exact tw_lt (l:=l) (k:=k) (by omega)
    · rw[List.takeWhile_cons,if_neg ha]at h;simp at h
theorem tw_end{α:Type}{f:α → Bool}:∀{l:List α} {x:α},l[(l.takeWhile f).length]?=some x → f x=false
  | [],x,h=>by simp at h
  | a :: l,x,h=>by
    by_cases ha:f a=true
    · rw[List.takeWhile_cons,if_pos ha,List.length_cons,List.getElem?_cons_succ]at h
      exact tw_end h
    · rw[List.takeWhile_cons,if_neg ha]at h
      simp at h;subst h;simpa using ha
theorem tw_le{α:Type}(f:α → Bool)(l:List α):(l.takeWhile f).length ≤ l.length:=(List.takeWhile_sublist f).length_le
theorem tw_drop{α:Type}(f:α → Bool):∀l:List α,l.drop (l.takeWhile f).length=l.dropWhile f
  | []=>rfl
  | a :: l=>by
    by_cases ha:f a=true
    · rw[List.takeWhile_cons,if_pos ha,List.dropWhile_cons,if_pos ha,List.length_cons,List.drop_succ_cons];exact tw_drop f l
    · rw[List.takeWhile_cons,if_neg ha,List.dropWhile_cons,if_neg ha];rfl
theorem tw_take{α:Type}(f:α → Bool):∀l:List α,l.take (l.takeWhile f).length=l.takeWhile f
  | []=>rfl
  | a :: l=>by
    by_cases ha:f a=true
    · rw[List.takeWhile_cons,if_pos ha,List.length_cons,List.take_succ_cons,tw_take f l]
    · rw[List.takeWhile_cons,if_neg ha];rfl
theorem get_drop{α:Type}(l:List α)(p k:Nat):(l.drop p)[k]?=l[p+k]?:=List.getElem?_drop
def arrF(n:Nat)(f:Nat → Value):Array Value:=(Array.range n).map f
theorem arrF_size(n:Nat)(f:Nat → Value):(arrF n f).size=n:=by simp[arrF]
theorem arrF_get{n:Nat}{f:Nat → Value}{i:Nat}(h:i<n):(arrF n f)[i]?=some (f i):=by simp[arrF,h]
theorem arrF_set(n:Nat)(f:Nat → Value)(i:Nat)(v:Value):(arrF n f).setIfInBounds i v=arrF n λj=>if j=i then v else f j:=by
  apply Array.ext_getElem?
  intro j
  rw[Array.getElem?_setIfInBounds]
  by_cases hj:j<n
  · rw[arrF_get hj,arrF_size]
    by_cases e:i=j
    · subst e;rw[if_pos rfl,if_pos hj,arrF_get hj];simp
    · rw[if_neg e,arrF_get hj];simp[Ne.symm e]
  · rw[arrF_size]
    have h1:(arrF n f)[j]?=none:=Array.getElem?_eq_none (by rw[arrF_size];omega)
    have h2:(arrF n λj=>if j=i then v else f j)[j]?=none:=Array.getElem?_eq_none (by rw[arrF_size];omega)
    by_cases e:i=j
    · rw[if_pos e,if_neg (by omega),h2]
    · rw[if_neg e,h1,h2]
theorem arrF_congr{n:Nat}{f g:Nat → Value}(h:∀i,i<n → f i=g i):arrF n f=arrF n g:=by
  apply Array.ext_getElem?
  intro j
  by_cases hj:j<n
  · rw[arrF_get hj,arrF_get hj,h j hj]
  · rw[Array.getElem?_eq_none (by rw[arrF_size];omega),Array.getElem?_eq_none (by rw[arrF_size];omega)]
end Go.Sh
