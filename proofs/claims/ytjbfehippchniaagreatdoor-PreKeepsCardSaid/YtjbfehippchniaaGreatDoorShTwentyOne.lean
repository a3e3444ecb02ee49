import Derived.Test.YtjbfehippchniaaGreatDoorShNineteen
/- Rows of structs: reading an element's cells, storing an element. For every program. -/
set_option linter.unusedVariables false
set_option linter.unusedSimpArgs false
namespace Go.Sh
open Go.RowKit
variable {P : Program} {α : Type} {cells : α → List Value} {n : Nat}
theorem flatMap_len (hn:∀x,(cells x).length=n):∀(l:List α),(l.flatMap cells).length=l.length * n
  | []=>by simp
  | x :: l=>by rw[List.flatMap_cons,List.length_append,flatMap_len hn l,hn,List.length_cons,Nat.succ_mul];omega
theorem flatMap_at (hn:∀x,(cells x).length=n):∀{l:List α} {i:Nat} {x:α},l[i]?=some x → ∀o,o<n → (l.flatMap cells)[i * n+o]?=(cells x)[o]?
  | [],_,_,h,_,_=>by simp at h
  | y :: l,0,x,h,o,ho=>by
    simp at h;subst h
    rw[List.flatMap_cons,Nat.zero_mul,Nat.zero_add,List.getElem?_append_left (by rw[hn];exact ho)]
  | y :: l,i+1,x,h,o,ho=>by
    have h:l[i]?=some x:=by simpa using h
    rw[List.flatMap_cons,List.getElem?_append_right (by rw[hn,Nat.succ_mul];omega),hn,show(i+1) * n+o - n=i * n+o by rw[Nat.succ_mul];omega]
    exact flatMap_at hn h o ho
def setL:List Value → Nat → List Value → List Value
  | vs,_,[]=>vs
  | vs,j,u :: us=>setL (vs.set j u) (j+1) us
theorem setL_eq:∀(us vs:List Value) (j:Nat),j+us.length ≤ vs.length → setL vs j us=vs.take j ++ us ++ vs.drop (j+us.length)
  | [],vs,j,_=>by simp[setL]
  | u :: us,vs,j,h=>by
    simp only[List.length_cons]at h
    rw[setL,setL_eq us (vs.set j u) (j+1) (by rw[List.length_set];omega),List.take_add_one,List.getElem?_set_self (by omega),List.take_set_of_le (Nat.le_refl j),List.drop_set_of_lt (by omega)]
    simp only[List.length_cons]
    rw[show j+1+us.length=j+(us.length+1)by omega]
    simp
theorem flatMap_set (hn:∀x,(cells x).length=n) {l:List α} {i:Nat} (hi:i<l.length) (y:α):setL (l.flatMap cells) (i * n) (cells y)=(l.set i y).flatMap cells:=by
  have hl:=flatMap_len hn l
  have hle:(i+1) * n ≤ l.length * n:=Nat.mul_le_mul_right _ hi
  rw[Nat.succ_mul]at hle
  rw[setL_eq _ _ _ (by rw[hn,hl];omega),hn]
  have e:l=l.take i ++ l[i] :: l.drop (i+1):=by rw[List.getElem_cons_drop,List.take_append_drop]
  have h1:(l.flatMap cells).take (i * n)=(l.take i).flatMap cells:=by
    have:((l.take i).flatMap cells).length=i * n:=by rw[flatMap_len hn,List.length_take,Nat.min_eq_left (by omega)]
    conv=>lhs;rw[e,List.flatMap_append,←this,List.take_left]
  have h2:(l.flatMap cells).drop (i * n+n)=(l.drop (i+1)).flatMap cells:=by
    have e2:l=(l.take i ++ [l[i]]) ++ l.drop (i+1):=by rw[List.append_assoc];exact e
    have:((l.take i ++ [l[i]]).flatMap cells).length=i * n+n:=by rw[flatMap_len hn,List.length_append,List.length_take,Nat.min_eq_left (by omega),List.length_singleton,Nat.succ_mul]
    conv=>lhs;rw[e2,List.flatMap_append,←this,List.drop_left]
  rw[h1,h2,List.set_eq_take_append_cons_drop,if_pos hi,List.flatMap_append,List.flatMap_cons,List.append_assoc]
variable {w : World} {e : TypeId} {s : SV} {vs : List Value} {sz : Nat}
theorem RowAt.stL(b0:Nat):∀(us:List Value) (k:Nat) {w:World} {vs:List Value} {K:World → Prop},RowAt w e sz s vs → b0+k+us.length ≤ vs.length → (us ≠ []∨s.a ≠ none) →
    (∀w',RowAt w' e sz s (setL vs (b0+k) us) → Fr (· ∈ blkOf s) w w' → w'.heap.size=w.heap.size → K w') → ∃a,s.a=some a ∧ Sh.stL us (a.add b0) k w K
  | [],k,w,vs,K,h,hl,hne,hK=>by
    have hne:=hne.resolve_left (λh=>h rfl)
    cases ha:s.a with
    | none=>exact absurd ha hne
    | some a=>exact⟨a,rfl,hK w h (Fr.refl _ _) rfl⟩
  | u :: us,k,w,vs,K,h,hl,hne,hK=>by
    simp only[List.length_cons]at hl
    have hsp:∃g,s.a=some ⟨g,0,none⟩:=by
      obtain⟨h1,rfl|⟨g,cur,h3,_⟩⟩:=h
      · simp at h1;simp[h1]at hl
      · exact⟨g,h3⟩
    obtain⟨g,hg⟩:=hsp
    obtain⟨a,ha,hst⟩:=RowAt.st1 (K:=λw1=>Sh.stL us ((⟨g,0,none⟩:Addr).add b0) (k+1) w1 K) h (j:=b0+k) (by omega) u λw1 h1 hf1 hs1=>by
      obtain⟨a2,ha2,h2⟩:=RowAt.stL b0 us (k+1) (K:=K) h1 (by rw[List.length_set];omega) (.inr (by rw[hg];simp)) λw2 h2 hf2 hs2=>hK w2 h2 (hf1.trans hf2 λi hi _=>hi) (by omega)
      rw[hg]at ha2;cases ha2
      exact h2
    rw[hg]at ha;cases ha
    refine⟨_,hg,?_⟩
    show Sh.st1 (((⟨g,0,none⟩:Addr).add b0).add k) u w _
    rw[show((⟨g,0,none⟩:Addr).add b0).add k=(⟨g,0,none⟩:Addr).add (b0+k)by rw[add_def,add_def,add_def];congr 1;omega]
    exact hst
/-- A field of an element is stored. -/
theorem RowAt.stField {l:List α} (h:RowAt w e n s (l.flatMap cells)) (hn:∀x,(cells x).length=n) {i o:Nat} (hi:i<l.length) (ho:o<n) (y:α) (v:Value) (hy:∀x,l[i]?=some x → (cells x).set o v=cells y) {K:World → Prop}
    (hK:∀w',RowAt w' e n s ((l.set i y).flatMap cells) → Fr (· ∈ blkOf s) w w' → w'.heap.size=w.heap.size → K w'):∃a,s.a=some a ∧ Sh.st1 ((a.add (i * n)).add o) v w K:=by
  have hle:(i+1) * n ≤ l.length * n:=Nat.mul_le_mul_right _ hi
  rw[Nat.succ_mul]at hle
  have hl:=flatMap_len hn l
  obtain⟨x,hx⟩:∃x,l[i]?=some x:=⟨_,List.getElem?_eq_getElem hi⟩
  have key:(l.flatMap cells).set (i * n+o) v=(l.set i y).flatMap cells:=by
    rw[←flatMap_set hn hi y,setL_eq _ _ _ (by rw[hn,hl];omega),hn,←hy x hx]
    have hA:((l.flatMap cells).take (i * n)).length=i * n:=by rw[List.length_take,Nat.min_eq_left (by omega)]
    have hB:((cells x).set o v).length=n:=by rw[List.length_set,hn]
    apply List.ext_getElem?
    intro j
    by_cases hj:j<i * n
    · rw[List.getElem?_set_ne (by omega),List.append_assoc,List.getElem?_append_left (by omega),List.getElem?_take_of_lt hj]
    · by_cases hj2:j<i * n+n
      · rw[List.append_assoc,List.getElem?_append_right (by omega),List.getElem?_append_left (by omega),hA]
        by_cases hjo:j=i * n+o
        · subst hjo
          rw[List.getElem?_set_self (by omega),show i * n+o - i * n=o by omega,List.getElem?_set_self (by rw[hn];omega)]
        · rw[List.getElem?_set_ne (by omega),List.getElem?_set_ne (by omega)]
          have:=flatMap_at hn hx (j - i * n) (by omega)
          rw[show i * n+(j - i * n)=j by omega]at this
          exact this
      · rw[List.getElem?_set_ne (by omega),List.append_assoc,List.getElem?_append_right (by omega),List.getElem?_append_right (by omega),List.getElem?_drop,hA,hB]
        congr 1
        omega
  obtain⟨a,ha,hst⟩:=RowAt.st1 (K:=K) h (j:=i * n+o) (by omega) v λw' h1 hf hs=>hK w' (by rw[key]at h1;exact h1) hf hs
  have hsp:∃g,s.a=some ⟨g,0,none⟩:=by
    obtain⟨_,rfl|⟨g,cur,h3,_⟩⟩:=h
    · cases ha
    · exact⟨g,h3⟩
  obtain⟨g,hg⟩:=hsp
  rw[hg]at ha;cases ha
  refine⟨_,hg,?_⟩
  rw[add_def]at hst
  rw[add_def,add_def,Nat.add_assoc]
  exact hst
/-- A cell of an element. -/
theorem RowAt.elem {l:List α} (h:RowAt w e n s (l.flatMap cells)) (hn:∀x,(cells x).length=n) {i:Nat} {x:α} (hx:l[i]?=some x) {o:Nat} {v:Value} (hv:(cells x)[o]?=some v):∃a,s.a=some a ∧ i<s.len ∧ w.cell? ((a.add (i * n)).add o)=some v:=by
  have ho:o<n:=by rw[←hn x];exact(List.getElem?_eq_some_iff.1 hv).1
  obtain⟨a,ha,hc,_⟩:=h.cell (j:=i * n+o) (v:=v) (by rw[flatMap_at hn hx o ho,hv])
  have hl:=flatMap_len hn l
  have hl2:=h.1
  have hi:=(List.getElem?_eq_some_iff.1 hx).1
  have hlen:s.len=l.length:=Nat.eq_of_mul_eq_mul_right (by omega) (hl2.symm.trans hl)
  refine⟨a,ha,by omega,?_⟩
  have hsp:∃g,s.a=some ⟨g,0,none⟩:=by
    obtain⟨_,rfl|⟨g,cur,h3,_⟩⟩:=h
    · cases ha
    · exact⟨g,h3⟩
  obtain⟨g,hg⟩:=hsp
  rw[hg]at ha;cases ha
  rw[add_def,add_def]
  rw[add_def]at hc
  rw[Nat.add_assoc];exact hc
theorem RowAt.len {l:List α} (h:RowAt w e n s (l.flatMap cells)) (hn:∀x,(cells x).length=n) (hn0:0<n):s.len=l.length:=by
  have hl:=flatMap_len hn l
  exact Nat.eq_of_mul_eq_mul_right hn0 (h.1.symm.trans hl)
end Go.Sh
