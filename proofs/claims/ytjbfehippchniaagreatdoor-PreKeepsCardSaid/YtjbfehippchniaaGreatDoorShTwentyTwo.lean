import Derived.Test.YtjbfehippchniaaGreatDoorShTwentyOne
/- Appending a part of a row. For every program. -/
set_option linter.unusedVariables false
set_option linter.unusedSimpArgs false
namespace Go.Sh
open Go.RowKit
variable {P : Program} {α : Type} {cells : α → List Value} {n : Nat}
theorem row_append_any {w:World} {e:TypeId} {sz:Nat} {s:SV} {vs:List Value} {t ty:TypeId} {z:Value} {b:Nat} (ht:P.underlying t=some (.slice e)) (hi:(P.info? e).map (λi=>(i.zero,i.size,i.bytes))=some (some z,sz,b)) (hz:z.cells.size=sz) (hsz:0<sz) (h:RowAt w e sz s vs)
    {A:Option Addr} {m c:Nat} {news:List Value} (hl:news.length=m * sz) (hn:∀j u,news[j]?=some u → ∃a,A=some a ∧ w.cell? (a.add j)=some u) (h1:∀u ∈ news,u.oneCell'=true) (hb:(s.len+m) * (b+1) ≤ 140737488355328) :
    ∃(s':SV) (w':World),(Builtin.append_ #[t,t] ty #[.slice s.a s.len s.cap,.slice A m c]).run P w=.ok (.slice s'.a s'.len s'.cap) w' ∧ RowAt w' e sz s' (vs ++ news) ∧ Fr (· ∈ blkOf s) w w' ∧ (∀k ∈ blkOf s',k ∈ blkOf s∨w.heap.size ≤ k) ∧ s'.len=s.len+m:=by
  obtain⟨i,h2,h3,h4,h5⟩:=info_parts hi
  subst h5
  cases A with
  | none=>
    have h0:news=[]:=by
      cases news with
      | nil=>rfl
      | cons u r=>obtain⟨a,ha,_⟩:=hn 0 u rfl;cases ha
    subst h0
    have hm:m=0:=by
      rcases Nat.eq_zero_or_pos m with h|h
      · exact h
      · have:=Nat.mul_pos h hsz;simp at hl;omega
    subst hm
    exact⟨s,w,row_append_nil ht h2 h c,by simpa using h,Fr.refl _ _,λk hk=>.inl hk,rfl⟩
  | some a=>
    exact row_append ht h2 h3 h4 hz hsz h (m:=m) (c:=c) (news:=news) hl (λj u hu=>by
      obtain⟨a',ha,hc⟩:=hn j u hu
      cases ha
      exact hc) h1 hb
theorem flatMap_part (hn:∀x,(cells x).length=n) (l:List α) (lo m:Nat) (h:lo+m ≤ l.length):((l.drop lo).take m).flatMap cells=((l.flatMap cells).drop (lo * n)).take (m * n):=by
  have e:l=l.take lo ++ ((l.drop lo).take m ++ (l.drop lo).drop m):=by rw[List.take_append_drop,List.take_append_drop]
  have h1:((l.take lo).flatMap cells).length=lo * n:=by rw[flatMap_len hn,List.length_take,Nat.min_eq_left (by omega)]
  have h2:(((l.drop lo).take m).flatMap cells).length=m * n:=by rw[flatMap_len hn,List.length_take,List.length_drop,Nat.min_eq_left (by omega)]
  conv=>rhs;rw[e,List.flatMap_append,List.flatMap_append,←h1,List.drop_left,←h2,List.take_left]
/-- The cells of a part of a row. -/
theorem RowAt.part {w:World} {e:TypeId} {s:SV} {l:List α} (h:RowAt w e n s (l.flatMap cells)) (hn:∀x,(cells x).length=n) (hn0:0<n) {lo m:Nat} (hlo:lo+m ≤ l.length) :
    (((l.drop lo).take m).flatMap cells).length=m * n ∧ ∀j u,(((l.drop lo).take m).flatMap cells)[j]?=some u → ∃a,(if s.cap=lo then s.a else s.a.map (λx=>x.add (lo * n)))=some a ∧ w.cell? (a.add j)=some u:=by
  have h2:(((l.drop lo).take m).flatMap cells).length=m * n:=by rw[flatMap_len hn,List.length_take,List.length_drop,Nat.min_eq_left (by omega)]
  refine⟨h2,λj u hu=>?_⟩
  have hj:j<m * n:=by rw[←h2];exact(List.getElem?_eq_some_iff.1 hu).1
  have hm:0<m:=by
    rcases Nat.eq_zero_or_pos m with h0|h0
    · subst h0;simp at hj
    · exact h0
  have hlen:=h.len hn hn0
  have hcap:=h.le_cap.1
  rw[flatMap_part hn l lo m hlo,List.getElem?_take_of_lt hj,List.getElem?_drop]at hu
  obtain⟨g,hg,hc,_⟩:=h.base (λh0=>by rw[h0]at hu;simp at hu)
  refine⟨⟨g,lo * n,none⟩,?_,?_⟩
  · rw[if_neg (by omega),hg]
    simp[add_def]
  · rw[add_def];exact hc _ _ hu
end Go.Sh
