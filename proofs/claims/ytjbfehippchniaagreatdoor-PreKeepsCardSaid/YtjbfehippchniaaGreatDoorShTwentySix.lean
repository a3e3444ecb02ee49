import Derived.Test.YtjbfehippchniaaGreatDoorShTwentyFive
import Derived.Shelf.Strings.CaseAny
import Derived.Lib.MapLaws
/- Capitals of bytes, against strings.ToUpper at every string. For every program. -/
set_option maxRecDepth 100000
set_option linter.unusedVariables false
set_option linter.unusedSimpArgs false
namespace Go.Sh
open Go.Lib
theorem capU_upper(b:UInt8):upperB b=capU b:=by
  have h:∀n:Nat,n<256 → upperB (UInt8.ofNat n)=capU (UInt8.ofNat n):=by decide +kernel
  have:=h b.toNat b.toNat_lt
  rwa [UInt8.ofNat_toNat]at this
theorem capU_high{b:UInt8}(h:128 ≤ b.toNat):capU b=b:=by unfold capU;rw[if_neg (by omega)]
theorem upper_error:toUpperU 65533=65533:=by decide +kernel
theorem toNat_u8(n:Nat)(h:n<256):n.toUInt8.toNat=n:=by simp[Nat.toUInt8];omega
theorem enc_low{r:Int}(h:∀b ∈ encodeRune r,b.toNat<128):(encodeRune r).length=1:=by
  have hb:=encodeRuneZ_byte r
  have hh:∀x ∈ encodeRuneZ r,x<128:=λx hx=>by
    have h1:=h x.toNat.toUInt8 (by unfold encodeRune;exact List.mem_map_of_mem hx)
    have h2:=hb x hx
    rw[toNat_u8 _ (by omega)]at h1
    omega
  unfold encodeRune
  rw[List.length_map]
  unfold encodeRuneZ at hh ⊢
  split
  · rfl
  · rename_i h0
    rw[if_neg h0]at hh
    split
    · rename_i h1;rw[if_pos h1]at hh;have:=hh _ (List.mem_cons_self ..);omega
    · rename_i h1;rw[if_neg h1]at hh
      split
      · rename_i h2;rw[if_pos h2]at hh;have:=hh _ (List.mem_cons_self ..);omega
      · rename_i h2;rw[if_neg h2]at hh
        split
        · rename_i h3;rw[if_pos h3]at hh;have:=hh _ (List.mem_cons_self ..);omega
        · rename_i h3;rw[if_neg h3]at hh;have:=hh _ (List.mem_cons_self ..);omega
theorem enc_one {r:Int} (h:(encodeRune r).length=1):∀b ∈ encodeRune r,b.toNat<128:=by
  unfold encodeRune at h ⊢
  rw[List.length_map]at h
  intro b hb
  obtain⟨x,hx,rfl⟩:=List.mem_map.1 hb
  have h2:=encodeRuneZ_byte r x hx
  rw[toNat_u8 _ (by omega)]
  unfold encodeRuneZ at h hx
  split at h
  · rename_i h0;rw[if_pos h0]at hx;simp at hx;omega
  · split at h
    · simp at h
    · split at h
      · simp at h
      · split at h <;> simp at h
theorem upD_len:∀(n:Nat) (l:List UInt8),l.length ≤ n → (∀b ∈ toUpperD l,b.toNat<128) → (toUpperD l).length ≤ l.length ∧ ((∃b ∈ l,128 ≤ b.toNat) → (toUpperD l).length<l.length)
  | 0,l,hn,h=>by
    obtain rfl:l=[]:=List.eq_nil_of_length_eq_zero (by omega)
    exact⟨Nat.le_refl _,λ⟨b,hb,_⟩=>by simp at hb⟩
  | n+1,l,hn,h=>by
    by_cases hne:l=[]
    · subst hne;exact⟨Nat.le_refl _,λ⟨b,hb,_⟩=>by simp at hb⟩
    have hst:=mapD_step toUpperU l hne
    have hw1:=decodeL_width l
    have hw2:=decodeL_le l hne
    unfold toUpperD at h ⊢
    rw[hst]at h ⊢
    obtain⟨E,hE⟩:∃E,E=(if 0 ≤ toUpperU (decodeL l).1 then encodeRune (toUpperU (decodeL l).1)else []):=⟨_,rfl⟩
    rw[←hE]at h ⊢
    have hE1:E.length ≤ 1:=by
      by_cases h0:0 ≤ toUpperU (decodeL l).1
      · rw[if_pos h0]at hE
        rw[hE]
        exact Nat.le_of_eq (enc_low λb hb=>h b (List.mem_append.2 (.inl (by rw[hE];exact hb))))
      · rw[if_neg h0]at hE;rw[hE];simp
    obtain⟨i1,i2⟩:=upD_len n (l.drop (decodeL l).2) (by rw[List.length_drop];omega) λb hb=>h b (List.mem_append.2 (.inr hb))
    unfold toUpperD at i1 i2
    rw[List.length_drop]at i1 i2
    rw[List.length_append]
    refine⟨by omega,λ⟨b,hb,hb2⟩=>?_⟩
    by_cases hw:(decodeL l).2=1
    · by_cases hmem:b ∈ l.drop (decodeL l).2
      · have:=i2 ⟨b,hmem,hb2⟩;omega
      · exfalso
        obtain⟨a,r,rfl⟩:∃a r,l=a :: r:=by cases l with
          | nil=>exact absurd rfl hne
          | cons a r=>exact⟨a,r,rfl⟩
        rw[hw]at hmem
        have hba:b=a:=by
          rcases List.mem_cons.1 hb with rfl|h9
          · rfl
          · exact absurd (by simpa using h9) hmem
        subst hba
        by_cases hv:(decodeL (b :: r)).1=65533
        · rw[hv]at hE
          have e:toUpperU ((65533:Nat):Int)=65533:=upper_error
          rw[e,if_pos (by omega)]at hE
          have:=h 239 (List.mem_append.2 (.inl (by rw[hE];decide)))
          revert this;decide
        · have hd:=encode_decode (b :: r) hne (λh9=>hv h9.1)
          rw[hw]at hd
          have h1:(encodeRune ((decodeL (b :: r)).1:Int)).length=1:=by rw[hd];rfl
          have:=enc_one h1 b (by rw[hd];simp)
          omega
    · omega
/-- Whether a text in capitals is a text of low bytes of the same length: by bytes. -/
theorem upD_eq{l w:List UInt8}(hw:∀b ∈ w,b.toNat<128)(hl:l.length=w.length):toUpperD l=w ↔ l.map capU=w:=by
  by_cases hh:∀b ∈ l,b.toNat<128
  · rw[toUpperD_ascii l hh]
    unfold toUpperA
    have:l.map upperB=l.map capU:=List.map_congr_left λb _=>capU_upper b
    rw[this]
  · have hx:∃b ∈ l,128 ≤ b.toNat:=by
      apply Classical.byContradiction
      intro h
      exact hh λb hb=>by
        apply Classical.byContradiction
        intro h9
        exact h ⟨b,hb,by omega⟩
    constructor
    · intro h
      have:=(upD_len l.length l (Nat.le_refl _) (by rw[h];exact hw)).2 hx
      rw[h]at this;omega
    · intro h
      obtain⟨b,hb,hb2⟩:=hx
      have:=hw b (by rw[←h];exact List.mem_map.2 ⟨b,hb,capU_high hb2⟩)
      omega
theorem upD_low{l:List UInt8}(h:∀b ∈ l,b.toNat<128):toUpperD l=l.map capU:=by
  rw[toUpperD_ascii l h]
  exact List.map_congr_left λb _=>capU_upper b
end Go.Sh
