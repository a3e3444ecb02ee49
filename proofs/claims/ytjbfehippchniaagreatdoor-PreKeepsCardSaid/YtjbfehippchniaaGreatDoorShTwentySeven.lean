import Derived.Test.YtjbfehippchniaaGreatDoorShTwentyFive
import Derived.Test.YtjbfehippchniaaGreatDoorShFourteen
import Derived.Laws.BytesArg
/- Rows of bytes that a conversion of a text has made: read, set, and turned to a text again. For every program. -/
set_option maxRecDepth 100000
set_option linter.unusedVariables false
set_option linter.unusedSimpArgs false
namespace Go.Sh
open Go.RowKit
variable {P : Program}
def u8W(b:UInt8):Value:=.int .u8 ((b.toNat:Nat):Int)
/-- A row of bytes in a block of its own, which may be marked behind its last cell. -/
def MRow(e:TypeId)(w0 w:World)(s:SV)(l:List UInt8):Prop:=∃(g:Nat) (cur:Array Value) (fz:Nat × Nat),s.a=some ⟨g,0,none⟩ ∧ w.heap[g]?=some (.cells cur e fz) ∧ cur.size ≤ fz.1 ∧ s.len=l.length ∧ s.len ≤ s.cap ∧ cur.size=s.cap ∧ cur.toList.take s.len=l.map u8W ∧ w0.heap.size ≤ g
theorem MRow.pu{e:TypeId}{w0 w w':World}{s:SV}{l:List UInt8}(h:MRow e w0 w s l)(hp:Pu w w'):MRow e w0 w' s l:=by
  obtain⟨g,cur,fz,h1,h2,h3⟩:=h
  exact⟨g,cur,fz,h1,hp.blk h2,h3⟩
theorem MRow.len{e:TypeId}{w0 w:World}{s:SV}{l:List UInt8}(h:MRow e w0 w s l):s.len=l.length:=by
  obtain⟨g,cur,fz,h1,h2,h3,h4,_⟩:=h
  exact h4
theorem MRow.cell {e:TypeId} {w0 w:World} {s:SV} {l:List UInt8} (h:MRow e w0 w s l) {j:Nat} {b:UInt8} (hj:l[j]?=some b):∃a,s.a=some a ∧ w.cell? (a.add (j * 1))=some (.int .u8 ((b.toNat:Nat):Int)):=by
  obtain⟨g,cur,fz,h1,h2,h3,h4,h5,h7,h8,_⟩:=h
  refine⟨_,h1,?_⟩
  rw[add_def,cell_blk h2,Nat.zero_add,Nat.mul_one]
  have e:(cur.toList.take s.len)[j]?=some (u8W b):=by rw[h8,List.getElem?_map,hj];rfl
  rw[List.getElem?_take]at e
  split at e
  · simpa[u8W] using e
  · cases e
/-- A byte of it is set. -/
theorem MRow.st1 {e:TypeId} {w0 w:World} {s:SV} {l:List UInt8} (h:MRow e w0 w s l) (hp:Pu w0 w) {j:Nat} (hj:j<l.length) (b:UInt8) {K:World → Prop} (hK:∀w',MRow e w0 w' s (l.set j b) → Pu w0 w' → K w') :
    ∃a,s.a=some a ∧ Sh.st1 (a.add (j * 1)) (.int .u8 ((b.toNat:Nat):Int)) w K:=by
  obtain⟨g,cur,fz,h1,h2,h3,h4,h5,h7,h8,h9⟩:=h
  refine⟨_,h1,?_⟩
  rw[add_def,Nat.zero_add,Nat.mul_one]
  have hjc:j<cur.size:=by omega
  refine⟨by rw[cell_blk h2];simp[hjc],?_,hK _ ⟨g,cur.setIfInBounds j (u8W b),fz,h1,setCell_blk h2 j _,by rw[Array.size_setIfInBounds];exact h3,by simp[h4],h5,by rw[Array.size_setIfInBounds];exact h7,?_,h9⟩ ?_⟩
  · obtain⟨lo,hi'⟩:=fz
    simp only[World.frozen?,h2,Bool.and_eq_false_iff,decide_eq_false_iff_not]
    left;simp only at h3;omega
  · rw[Array.toList_setIfInBounds,List.take_set,h8,List.map_set]
  · exact Pu.andNew hp (Fr.setCell w ⟨g,j,none⟩ _) (λi hi=>by rw[show i=g from hi];exact h9)
theorem conv_mark {src dst e:TypeId} (u1:P.underlying src=some .string) (u2:P.underlying dst=some (.slice e)) (u3:P.underlying e=some (.int .u8)) (s:ByteArray) (hs:s.size ≤ 140737488355328) (w:World) :
    ∃l:SV,∃w':World,(convert src dst (.string s)).run P w=.ok (.slice l.a l.len l.cap) w' ∧ Pu w w' ∧ MRow e w w' l s.data.toList:=by
  obtain⟨c,hc,hcr⟩:∃c,s.size ≤ c ∧ (choose (.appendCap s.size 0 e)).run P w=.ok c w.drew:=by
    refine⟨(Question.appendCap s.size 0 e).cut (w.tape w.drawn (.appendCap s.size 0 e)),by simp[Question.cut],?_⟩
    rw[run_choose];simp[Question.forced]
  obtain⟨arr,harr⟩:∃arr:Array Value,arr=(s.data.map λb=>Value.int .u8 b.toNat) ++ Array.replicate (c - s.size) (.int .u8 0):=⟨_,rfl⟩
  have hsz:arr.size=c:=by rw[harr];simp;show s.size+_=_;omega
  have hst:s.data.toList.length=s.size:=size_list s
  refine⟨⟨some ⟨w.heap.size,0,none⟩,s.size,c⟩,(w.drew.alloc (.cells arr e)).freeze ⟨w.heap.size,c,none⟩ 1,?_,?_,w.heap.size,arr,(c,c+1),rfl,?_,by rw[hsz];exact Nat.le_refl _,hst.symm,hc,hsz,?_,Nat.le_refl _⟩
  · unfold convert
    simp only[Sem.run_bind,run_under u1,run_under u2,Result.andThen_ok,run_under u3]
    unfold Conv.stringToBytes
    simp only[Sem.run_bind,hcr,Result.andThen_ok,←harr,newRow,run_newObj,Sem.run_pure]
    have hsh:World.shape? (w.drew.alloc (.cells arr e)) w.heap.size=some (e,c):=by
      unfold World.shape?
      rw[show(w.drew.alloc (.cells arr e)).heap[w.heap.size]?=_ from alloc_new w.drew _]
      simp[hsz]
    unfold markStringish
    simp only[Sem.run_bind,run_shape,World.alloc_eq,Result.andThen_ok]
    rw[show w.drew.heap.size=w.heap.size from rfl,hsh]
    simp
  · refine⟨by unfold World.freeze;simp;rfl,by unfold World.freeze;simp,by unfold World.freeze;simp;rfl,?_,λk hk=>?_⟩
    · unfold World.freeze;simp
    · unfold World.freeze
      simp only[Nat.one_ne_zero,if_false,Array.getElem?_modify]
      rw[if_neg (by omega)]
      exact Below.heap_alloc w.drew _ k hk
  · unfold World.freeze
    simp only[Nat.one_ne_zero,if_false,Array.getElem?_modify,if_true]
    rw[show(w.drew.alloc (.cells arr e)).heap[w.heap.size]?=some (.cells arr e)from alloc_new w.drew _]
    rfl
  · rw[harr,Array.toList_append,List.take_append_of_le_length (by simp),List.take_of_length_le (by simp)]
    simp[u8W]
theorem conv_text {src dst e:TypeId} (u1:P.underlying src=some .string) (u2:P.underlying dst=some (.slice e)) (u3:P.underlying e=some (.int .u8)) {w0 w:World} {s:SV} {d:List UInt8} (h:MRow e w0 w s d) :
    (convert dst src (.slice s.a s.len s.cap)).run P w=.ok (.string (bs d)) w:=by
  have hl:=h.len
  rw[run_convert_bytes_string w dst src e _ _ _ u2 u3 u1]
  obtain⟨g,_,_,hg,_⟩:=id h
  rw[hg]
  have hld:(loadCells ⟨g,0,none⟩ s.len).run P w=.ok ((d.map λb=>((b.toNat:Nat):Int)).map (Value.int .u8)).toArray w:=by
    have:=run_loadCells_list (P:=P) w ⟨g,0,none⟩ ((d.map λb=>((b.toNat:Nat):Int)).map (Value.int .u8)) (λj v hj=>by
      simp only[List.getElem?_map,Option.map_map,Option.map_eq_some_iff]at hj
      obtain⟨b,hb,rfl⟩:=hj
      obtain⟨a',h1,h2⟩:=h.cell hb
      rw[hg]at h1;cases h1
      rw[Nat.mul_one]at h2;exact h2)
    simpa[hl] using this
  rw[run_bytesToString w _ s.len s.cap _ hld,foldl_push_bytes]
  congr 2
  apply bytes_ext
  have e0:((⟨ByteArray.empty.data ++ (List.map (λn:Int=>UInt8.ofNat n.toNat) (d.map λb=>((b.toNat:Nat):Int))).toArray⟩:ByteArray)).data.toList=d.map ((λn:Int=>UInt8.ofNat n.toNat) ∘ λb=>((b.toNat:Nat):Int)):=by
    simp[ByteArray.empty,ByteArray.emptyWithCapacity];rfl
  refine e0.trans ?_
  show _=d
  conv=>rhs;rw[←List.map_id d]
  apply List.map_congr_left
  intro x _
  simp
end Go.Sh
