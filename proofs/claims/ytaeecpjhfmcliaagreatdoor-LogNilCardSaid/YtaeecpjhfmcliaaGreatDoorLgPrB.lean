import Derived.Test.YtaeecpjhfmcliaaGreatDoorProg
import Derived.Test.YtaeecpjhfmcliaaGreatDoorShTwentyEight
/- Shallow texts of functions, printed by program, each checked by the kernel against the loaded code. No condition. -/
set_option maxRecDepth 100000
set_option linter.unusedVariables false
namespace Go.Proofs.YtaeecpjhfmcliaaGreatDoor
open Go.Sh Tryz
def F56_1(R:Rt)(p1 p2:Option Addr)(ds:Ds)(w:World):Prop:=
 zQf p1 λa1=>
 ∃ji,w.cell? (a1.add 0)=some (.int .i64 ji)/\
 ∃cL:SV,w.cell? (a1.add 1)=some (cL.v)/\
 ∃cM:SV,w.cell? (a1.add 2)=some (cM.v)/\
 zQf p2 λa2=>
 stA prog 35 a2 #[.int .i64 ji,cL.v,cM.v] w λw3=>
 zQd prog ds w3 λw4=>
 zQf p2 λa5=>
 ∃ag,w4.cell? (a5.add 0)=some (.int .i64 ag)/\
 ∃ab:SV,w4.cell? (a5.add 1)=some (ab.v)/\
 ∃ae:SV,w4.cell? (a5.add 2)=some (ae.v)/\
 R (.returned (.agg #[.int .i64 ag,ab.v,ae.v])) w4
def F56_2 (R:Rt) (J1:(Int)->World->Prop) (p1 p2:Option Addr) (bL:SV) (iP n16:Int) (ds:Ds) (w:World):Prop:=
 Br (decide (n16<iP)) (
 ∃a6,bL.a=some a6/\0<=n16/\n16<(bL.len:Int)/\
 ∃oh,w.cell? ((a6.add (n16.toNat * 2)).add 0)=some (.bool oh)/\
 ∃gC:SV,w.cell? ((a6.add (n16.toNat * 2)).add 1)=some (gC.v)/\
 alE (.cells #[.bool false,.slice none 0 0] 67) w λr4 w7=>
 stA prog 67 (⟨r4,0,none⟩:Addr) #[.bool oh,gC.v] w7 λw8=>
 dwE w8 λw9=>
 ∃S1:World->Prop,S1 w9/\
 zQf p1 λej=>
 ∃cj:SV,(∀w',S1 w'->w'.cell? (ej.add 2)=some (cj.v))/\
 ∃ct:SV,(∀w',S1 w'->w'.cell? ((⟨r4,0,none⟩:Addr).add 1)=some (ct.v))/\
 Calls prog 78 #[ct.v] w9 λe aQ=>
 ∃dy:SV,e=.returned (dy.v)/\
 S1 aQ/\
 ∃js,cj.a=some js/\0<=n16/\n16<(cj.len:Int)/\
 st1 ((js.add (n16.toNat * 2)).add 1) (dy.v) aQ λaZ=>
 J1 (IntKind.i64.wrap (n16+1)) aZ) (
 F56_1 R p1 p2 ds w)
def F56_3(R:Rt)(p1 p2:Option Addr)(bL:SV)(iP n16:Int)(ds:Ds)(w:World):Prop:=
 zQW (λ(J1:(Int)->World->Prop) (s:Int) (w:World)=>F56_2 R J1 p1 p2 bL iP s ds w) n16 w
def F56_5(R:Rt)(aF:Int)(az ar:SV)(ds:Ds)(w:World):Prop:=
 alE (.cells #[.int .i64 aF,az.v,ar.v] 35) w λr1 bI=>
 alE (.cells #[.int .i64 0,.slice none 0 0,.slice none 0 0] 35) bI λr2 bv=>
 ∃l6:SV,bv.cell? ((⟨r1,0,none⟩:Addr).add 1)=some (l6.v)/\
 Calls prog 97 #[l6.v] bv λe bK=>
 ∃l7:SV,e=.returned (l7.v)/\
 st1 ((⟨r1,0,none⟩:Addr).add 1) (l7.v) bK λbA=>
 ∃eO:SV,bA.cell? ((⟨r1,0,none⟩:Addr).add 2)=some (eO.v)/\
 Calls prog 98 #[eO.v] bA λe bY=>
 ∃co:SV,e=.returned (co.v)/\
 st1 ((⟨r1,0,none⟩:Addr).add 2) (co.v) bY λce=>
 ∃bL:SV,ce.cell? ((⟨r1,0,none⟩:Addr).add 2)=some (bL.v)/\
 F56_3 R (some (⟨r1,0,none⟩:Addr)) (some (⟨r2,0,none⟩:Addr)) bL (bL.len:Int) 0 ds ce
theorem F56_p:Pl prog f56 [aS 0 [.int .i64,.slice,.slice]] F56_5:=λR=>
 pc 4 (rest [pS 1,pS 2,lS 14,iS 15,iS 16] (F56_3 R) (bk 0 (rest [pS 1,pS 2] (F56_1 R) lf) (lp [iS 16] [pS 1,pS 2,lS 14,iS 15,iS 16] (F56_2 R) zZU λJ1=>lf)))
theorem yVn (aF:Int) (az ar:SV) (w:World) (R:Rt) (h:F56_5 R aF az ar [] w):Calls prog 56 #[.agg #[.int .i64 aF,az.v,ar.v]] w R:=
 plC F56_p func56 h
def F97_1(R:Rt)(l0:SV)(ds:Ds)(w:World):Prop:=
 ∃b4:Bool,∃w1,(eqS .eql 32 (.tmp 3) (.const (.slice none 0 0)) (l0.v) (.slice none 0 0)).run prog w=.ok (.bool b4) w1/\
 Br b4 (
 zQd prog ds w1 λw2=>
 R (.returned (.slice none 0 0)) w2) (
 alE (.cells #[] 129) w1 λr5 w3=>
 ∃l7:SV,∃w4,(Builtin.append_ #[32,32] 32 #[.slice (some ⟨r5,0,none⟩) 0 0,l0.v]).run prog w3=.ok (l7.v) w4/\
 zQd prog ds w4 λw5=>
 R (.returned (l7.v)) w5)
theorem F97_p:Pl prog f97 [lS 0] F97_1:=λR=>
 lf
theorem yVy (l0:SV) (w:World) (R:Rt) (h:F97_1 R l0 [] w):Calls prog 97 #[l0.v] w R:=
 plC F97_p func97 h
def F98_1(R:Rt)(l0:SV)(ds:Ds)(w:World):Prop:=
 ∃b4:Bool,∃w1,(eqS .eql 33 (.tmp 3) (.const (.slice none 0 0)) (l0.v) (.slice none 0 0)).run prog w=.ok (.bool b4) w1/\
 Br b4 (
 zQd prog ds w1 λw2=>
 R (.returned (.slice none 0 0)) w2) (
 alE (.cells #[] 67) w1 λr5 w3=>
 ∃l7:SV,∃w4,(Builtin.append_ #[33,33] 33 #[.slice (some ⟨r5,0,none⟩) 0 0,l0.v]).run prog w3=.ok (l7.v) w4/\
 zQd prog ds w4 λw5=>
 R (.returned (l7.v)) w5)
theorem F98_p:Pl prog f98 [lS 0] F98_1:=λR=>
 lf
theorem yV0 (l0:SV) (w:World) (R:Rt) (h:F98_1 R l0 [] w):Calls prog 98 #[l0.v] w R:=
 plC F98_p func98 h
def F78_1(R:Rt)(l0:SV)(ds:Ds)(w:World):Prop:=
 ∃b4:Bool,∃w1,(eqS .eql 38 (.tmp 3) (.const (.slice none 0 0)) (l0.v) (.slice none 0 0)).run prog w=.ok (.bool b4) w1/\
 Br b4 (
 zQd prog ds w1 λw2=>
 R (.returned (.slice none 0 0)) w2) (
 alE (.cells #[] 73) w1 λr5 w3=>
 ∃l7:SV,∃w4,(Builtin.append_ #[38,38] 38 #[.slice (some ⟨r5,0,none⟩) 0 0,l0.v]).run prog w3=.ok (l7.v) w4/\
 zQd prog ds w4 λw5=>
 R (.returned (l7.v)) w5)
theorem F78_p:Pl prog f78 [lS 0] F78_1:=λR=>
 lf
theorem yVr (l0:SV) (w:World) (R:Rt) (h:F78_1 R l0 [] w):Calls prog 78 #[l0.v] w R:=
 plC F78_p func78 h
end Go.Proofs.YtaeecpjhfmcliaaGreatDoor
/- Shallow texts of functions, printed by program, each checked by the kernel against the loaded code. No condition. -/
namespace Go.Proofs.YtaeecpjhfmcliaaGreatDoor
open Go.Sh Tryz
def F76_1(R:Rt)(aF aG:Int)(ar l1:SV)(n2:Int)(ds:Ds)(w:World):Prop:=
 alE (.cells #[.int .i64 aF,.int .i64 aG,ar.v] 90) w λr3 w1=>
 Calls prog 109 #[l1.v] w1 λe w2=>
 ∃eO:SV,e=.returned (eO.v)/\
 Br (decide (n2<=0)) (
 zQd prog ds w2 λw3=>
 R (.returned (eO.v)) w3) (
 dwE w2 λw4=>
 ∃S1:World->Prop,S1 w4/\
 ∃n16,(∀w',S1 w'->w'.cell? (⟨r3,0,none⟩:Addr)=some (.int .i64 n16))/\
 ∃a5,eO.a=some a5/\0<=n16/\n16<(eO.len:Int)/\
 ∃cX:SV,(∀w',S1 w'->w'.cell? (a5.add (n16.toNat * 1))=some (cX.v))/\
 ∃n20,(∀w',S1 w'->w'.cell? ((⟨r3,0,none⟩:Addr).add 1)=some (.int .i64 n20))/\
 ∃iF,(∀w',S1 w'->w'.cell? (⟨r3,0,none⟩:Addr)=some (.int .i64 iF))/\
 ∃a6,eO.a=some a6/\0<=iF/\iF<(eO.len:Int)/\
 ∃ct:SV,(∀w',S1 w'->w'.cell? (a6.add (iF.toNat * 1))=some (ct.v))/\
 ∃n27:Int,∃w7,(Builtin.min_ #[3,3] 3 #[.int .i64 n20,.int .i64 (ct.len:Int)]).run prog w4=.ok (.int .i64 n27) w7/\
 S1 w7/\
 0<=n27/\n27.toNat<=cX.cap/\0<=n27.toNat/\
 Calls prog 110 #[.slice (if cX.cap=0 then cX.a else cX.a.map (λx=>x.add (0 * 1))) (n27.toNat - 0) (cX.cap - 0)] w7 λe w8=>
 ∃eE:SV,e=.returned (eE.v)/\
 ∃fq:SV,w8.cell? ((⟨r3,0,none⟩:Addr).add 2)=some (fq.v)/\
 Br (decide ((fq.len:Int) > 0)) (
 ∃dV:SV,w8.cell? ((⟨r3,0,none⟩:Addr).add 2)=some (dV.v)/\
 ∃jA:SV,w8.cell? ((⟨r3,0,none⟩:Addr).add 2)=some (jA.v)/\
 ∃n41:Int,∃w9,(Builtin.min_ #[3,3] 3 #[.int .i64 n2,.int .i64 (jA.len:Int)]).run prog w8=.ok (.int .i64 n41) w9/\
 0<=n41/\n41.toNat<=dV.cap/\0<=n41.toNat/\
 ∃iH:SV,∃aM,(Builtin.append_ #[22,22] 22 #[eE.v,.slice (if dV.cap=0 then dV.a else dV.a.map (λx=>x.add (0 * 1))) (n41.toNat - 0) (dV.cap - 0)]).run prog w9=.ok (iH.v) aM/\
 ∃fV,aM.cell? (⟨r3,0,none⟩:Addr)=some (.int .i64 fV)/\
 ∃cT,eO.a=some cT/\0<=fV/\fV<(eO.len:Int)/\
 st1 (cT.add (fV.toNat * 1)) (iH.v) aM λaR=>
 zQd prog ds aR λaZ=>
 R (.returned (eO.v)) aZ) (
 ∃fV,w8.cell? (⟨r3,0,none⟩:Addr)=some (.int .i64 fV)/\
 ∃fG,eO.a=some fG/\0<=fV/\fV<(eO.len:Int)/\
 st1 (fG.add (fV.toNat * 1)) (eE.v) w8 λbv=>
 zQd prog ds bv λbK=>
 R (.returned (eO.v)) bK))
theorem F76_p:Pl prog f76 [aS 0 [.int .i64,.int .i64,.slice],lS 1,iS 2] F76_1:=λR=>
 lf
theorem yKP (aF aG:Int) (ar l1:SV) (n2:Int) (w:World) (R:Rt) (h:F76_1 R aF aG ar l1 n2 [] w):Calls prog 76 #[.agg #[.int .i64 aF,.int .i64 aG,ar.v],l1.v,.int .i64 n2] w R:=
 plC F76_p func76 h
def F90_1(R:Rt)(aF aG:Int)(ar:SV)(ds:Ds)(w:World):Prop:=
 alE (.cells #[.int .i64 aF,.int .i64 aG,ar.v] 90) w λr1 w1=>
 ∃l4:SV,w1.cell? ((⟨r1,0,none⟩:Addr).add 2)=some (l4.v)/\
 zQd prog ds w1 λw2=>
 R (.returned (.int .i64 (IntKind.i64.wrap ((l4.len:Int)+1)))) w2
theorem F90_p:Pl prog f90 [aS 0 [.int .i64,.int .i64,.slice]] F90_1:=λR=>
 lf
theorem yW2 (aF aG:Int) (ar:SV) (w:World) (R:Rt) (h:F90_1 R aF aG ar [] w):Calls prog 90 #[.agg #[.int .i64 aF,.int .i64 aG,ar.v]] w R:=
 plC F90_p func90 h
def xXn(R:Rt)(l0:SV)(ds:Ds)(w:World):Prop:=
 ∃b4:Bool,∃w1,(eqS .eql 82 (.tmp 3) (.const (.slice none 0 0)) (l0.v) (.slice none 0 0)).run prog w=.ok (.bool b4) w1/\
 Br b4 (
 zQd prog ds w1 λw2=>
 R (.returned (.slice none 0 0)) w2) (
 alE (.cells #[] 22) w1 λr5 w3=>
 ∃l7:SV,∃w4,(Builtin.append_ #[82,82] 82 #[.slice (some ⟨r5,0,none⟩) 0 0,l0.v]).run prog w3=.ok (l7.v) w4/\
 zQd prog ds w4 λw5=>
 R (.returned (l7.v)) w5)
theorem F109_p:Pl prog f109 [lS 0] xXn:=λR=>
 lf
theorem yJq (l0:SV) (w:World) (R:Rt) (h:xXn R l0 [] w):Calls prog 109 #[l0.v] w R:=
 plC F109_p func109 h
def xQY(R:Rt)(l0:SV)(ds:Ds)(w:World):Prop:=
 ∃b4:Bool,∃w1,(eqS .eql 22 (.tmp 3) (.const (.slice none 0 0)) (l0.v) (.slice none 0 0)).run prog w=.ok (.bool b4) w1/\
 Br b4 (
 zQd prog ds w1 λw2=>
 R (.returned (.slice none 0 0)) w2) (
 alE (.cells #[] 5) w1 λr5 w3=>
 ∃l7:SV,∃w4,(Builtin.append_ #[22,22] 22 #[.slice (some ⟨r5,0,none⟩) 0 0,l0.v]).run prog w3=.ok (l7.v) w4/\
 zQd prog ds w4 λw5=>
 R (.returned (l7.v)) w5)
theorem F110_p:Pl prog f110 [lS 0] xQY:=λR=>
 lf
theorem yJf (l0:SV) (w:World) (R:Rt) (h:xQY R l0 [] w):Calls prog 110 #[l0.v] w R:=
 plC F110_p func110 h
end Go.Proofs.YtaeecpjhfmcliaaGreatDoor
/- Shallow texts of functions, printed by program, each checked by the kernel against the loaded code. No condition. -/
namespace Go.Proofs.YtaeecpjhfmcliaaGreatDoor
open Go.Sh Tryz
def xQ5(R:Rt)(n3:Int)(ds:Ds)(w:World):Prop:=
 zQd prog ds w λw1=>
 R (.returned (.int .i64 (IntKind.i64.wrap n3))) w1
def xQh (R:Rt) (J1:(Int × Int)->World->Prop) (n3:Int) (l6:SV) (n7 n8:Int) (ds:Ds) (w:World):Prop:=
 Br (decide (n8<n7)) (
 ∃a2,l6.a=some a2/\0<=n8/\n8<(l6.len:Int)/\
 ∃cq,w.cell? (a2.add (n8.toNat * 1))=some (.int .u8 cq)/\
 J1 ((IntKind.u32.wrap ((BitVec.ofInt 32 (IntKind.u32.wrap (n3 * 16777619)) ^^^ BitVec.ofInt 32 (IntKind.u32.wrap cq)).toNat:Nat)),(IntKind.i64.wrap (n8+1))) w) (
 xQ5 R n3 ds w)
def xXJ(R:Rt)(n3:Int)(l6:SV)(n7 n8:Int)(ds:Ds)(w:World):Prop:=
 zQW (λ(J1:(Int × Int)->World->Prop) (s:Int × Int) (w:World)=>xQh R J1 s.1 l6 n7 s.2 ds w) (n3,n8) w
def xXK(R:Rt)(l0:SV)(ds:Ds)(w:World):Prop:=
 xXJ R 7 l0 (l0.len:Int) 0 ds w
theorem F127_p:Pl prog f127 [lS 0] xXK:=λR=>
 pc 3 (rest [kS .u32 3,lS 6,iS 7,iS 8] (xXJ R) (bk 0 (rest [kS .u32 3] (xQ5 R) lf) (lp [kS .u32 3,iS 8] [kS .u32 3,lS 6,iS 7,iS 8] (xQh R) zZU λJ1=>lf)))
theorem yKt (l0:SV) (w:World) (R:Rt) (h:xXK R l0 [] w):Calls prog 127 #[l0.v] w R:=
 plC F127_p func127 h
def xXQ(R:Rt)(l5:SV)(ds:Ds)(w:World):Prop:=
 zQd prog ds w λw1=>
 R (.returned (l5.v)) w1
def xQX (R:Rt) (J1:(Int)->World->Prop) (n0:Int) (l5:SV) (fh cq:Int) (ds:Ds) (w:World):Prop:=
 Br (decide (cq<fh)) (
 0<=(IntKind.i64.wrap ((8:Int) * cq))/\
 ∃a2,l5.a=some a2/\0<=cq/\cq<(l5.len:Int)/\
 st1 (a2.add (cq.toNat * 1)) (.int .u8 (IntKind.u8.wrap (n0.fdiv (2 ^ (min (IntKind.i64.wrap ((8:Int) * cq)).toNat 64))))) w λw3=>
 J1 (IntKind.i64.wrap (cq+1)) w3) (
 xXQ R l5 ds w)
def xXN(R:Rt)(n0:Int)(l5:SV)(fh cq:Int)(ds:Ds)(w:World):Prop:=
 zQW (λ(J1:(Int)->World->Prop) (s:Int) (w:World)=>xQX R J1 n0 l5 fh s ds w) cq w
def xZ4(R:Rt)(n0 n1:Int)(ds:Ds)(w:World):Prop:=
 ∃l8:SV,∃w4,(Instr.makeSlice 22 (.int .i64 n1) (.int .i64 n1)).run prog w=.ok (l8.v) w4/\
 xXN R n0 l8 (l8.len:Int) 0 ds w4
theorem F143_p:Pl prog f143 [iS 0,iS 1] xZ4:=λR=>
 pc 3 (rest [iS 0,lS 5,iS 10,iS 11] (xXN R) (bk 0 (rest [lS 5] (xXQ R) lf) (lp [iS 11] [iS 0,lS 5,iS 10,iS 11] (xQX R) zZU λJ1=>lf)))
theorem yKo (n0 n1:Int) (w:World) (R:Rt) (h:xZ4 R n0 n1 [] w):Calls prog 143 #[.int .i64 n0,.int .i64 n1] w R:=
 plC F143_p func143 h
def xX1(R:Rt)(n0:Int)(l1:SV)(ds:Ds)(w:World):Prop:=
 ∃l9:SV,∃w1,(Instr.makeSlice 22 (.int .i64 (IntKind.i64.wrap ((5:Int)+(l1.len:Int)))) (.int .i64 (IntKind.i64.wrap ((5:Int)+(l1.len:Int))))).run prog w=.ok (l9.v) w1/\
 ∃a2,l9.a=some a2/\0<=(0:Int)/\(0:Int)<(l9.len:Int)/\
 st1 (a2.add ((0:Int).toNat * 1)) (.int .u8 n0) w1 λw3=>
 dwE w3 λw4=>
 0<=(5:Int)/\(5:Int).toNat<=l9.cap/\0<=(1:Int)/\(1:Int).toNat<=(5:Int).toNat/\
 Calls prog 143 #[.int .i64 (l1.len:Int),.int .i64 4] w4 λe w5=>
 ∃dU:SV,e=.returned (dU.v)/\
 ∃iI:Int,∃w6,(Builtin.copy_ #[22,22] 3 #[.slice (if l9.cap=(1:Int).toNat then l9.a else l9.a.map (λx=>x.add ((1:Int).toNat * 1))) ((5:Int).toNat - (1:Int).toNat) (l9.cap - (1:Int).toNat),dU.v]).run prog w5=.ok (.int .i64 iI) w6/\
 l9.len<=l9.cap/\0<=(5:Int)/\(5:Int).toNat<=l9.len/\
 ∃n22:Int,∃w7,(Builtin.copy_ #[22,22] 3 #[.slice (if l9.cap=(5:Int).toNat then l9.a else l9.a.map (λx=>x.add ((5:Int).toNat * 1))) (l9.len - (5:Int).toNat) (l9.cap - (5:Int).toNat),l1.v]).run prog w6=.ok (.int .i64 n22) w7/\
 Calls prog 127 #[l9.v] w7 λe w8=>
 ∃n25:Int,e=.returned (.int .i64 n25)/\
 Calls prog 143 #[.int .i64 n25,.int .i64 4] w8 λe w9=>
 ∃dy:SV,e=.returned (dy.v)/\
 ∃bZ:SV,∃aM,(Builtin.append_ #[22,22] 22 #[l9.v,dy.v]).run prog w9=.ok (bZ.v) aM/\
 zQd prog ds aM λaQ=>
 R (.returned (bZ.v)) aQ
theorem F111_p:Pl prog f111 [kS .u8 0,lS 1] xX1:=λR=>
 lf
theorem yKk (n0:Int) (l1:SV) (w:World) (R:Rt) (h:xX1 R n0 l1 [] w):Calls prog 111 #[.int .u8 n0,l1.v] w R:=
 plC F111_p func111 h
end Go.Proofs.YtaeecpjhfmcliaaGreatDoor
/- Shallow texts of functions, printed by program, each checked by the kernel against the loaded code. No condition. -/
namespace Go.Proofs.YtaeecpjhfmcliaaGreatDoor
open Go.Sh Tryz
end Go.Proofs.YtaeecpjhfmcliaaGreatDoor
/- Shallow texts of functions, printed by program, each checked by the kernel against the loaded code. No condition. -/
namespace Go.Proofs.YtaeecpjhfmcliaaGreatDoor
open Go.Sh Tryz
def F49_1(R:Rt)(l0:SV)(aT bm:Int)(br:SV)(ds:Ds)(w:World):Prop:=
 alE (.cells #[.int .i64 aT,.int .i64 bm,br.v] 90) w λr3 w1=>
 dwE w1 λw2=>
 ∃S1:World->Prop,S1 w2/\
 ∃je,(∀w',S1 w'->w'.cell? ((⟨r3,0,none⟩:Addr).add 0)=some (.int .i64 je))/\
 ∃ss,(∀w',S1 w'->w'.cell? ((⟨r3,0,none⟩:Addr).add 1)=some (.int .i64 ss))/\
 ∃cD:SV,(∀w',S1 w'->w'.cell? ((⟨r3,0,none⟩:Addr).add 2)=some (cD.v))/\
 ∃c8,(∀w',S1 w'->w'.cell? ((⟨r3,0,none⟩:Addr).add 0)=some (.int .i64 c8))/\
 ∃bX,(∀w',S1 w'->w'.cell? ((⟨r3,0,none⟩:Addr).add 1)=some (.int .i64 bX))/\
 ∃bu:SV,(∀w',S1 w'->w'.cell? ((⟨r3,0,none⟩:Addr).add 2)=some (bu.v))/\
 Calls prog 90 #[.agg #[.int .i64 c8,.int .i64 bX,bu.v]] w2 λe w3=>
 ∃n8:Int,e=.returned (.int .i64 n8)/\
 S1 w3/\
 Calls prog 76 #[.agg #[.int .i64 je,.int .i64 ss,cD.v],l0.v,.int .i64 n8] w3 λe w4=>
 ∃l9:SV,e=.returned (l9.v)/\
 zQd prog ds w4 λw5=>
 R (.returned (l9.v)) w5
theorem F49_p:Pl prog f49 [lS 0,aS 1 [.int .i64,.int .i64,.slice]] F49_1:=λR=>
 lf
theorem yWA (l0:SV) (aT bm:Int) (br:SV) (w:World) (R:Rt) (h:F49_1 R l0 aT bm br [] w):Calls prog 49 #[l0.v,.agg #[.int .i64 aT,.int .i64 bm,br.v]] w R:=
 plC F49_p func49 h
end Go.Proofs.YtaeecpjhfmcliaaGreatDoor
/- Shallow texts of functions, printed by program, each checked by the kernel against the loaded code. No condition. -/
namespace Go.Proofs.YtaeecpjhfmcliaaGreatDoor
open Go.Sh Tryz
def xXd(R:Rt)(l5:SV)(ds:Ds)(w:World):Prop:=
 zQd prog ds w λw1=>
 R (.returned (l5.v)) w1
def xQa (R:Rt) (J1:(SV × Int)->World->Prop) (p2:Option Addr) (l5 bL:SV) (iP n16:Int) (ds:Ds) (w:World):Prop:=
 Br (decide (n16<iP)) (
 ∃a2,bL.a=some a2/\0<=n16/\n16<(bL.len:Int)/\
 ∃jz,w.cell? (a2.add (n16.toNat * 1))=some (.int .i64 jz)/\
 zQf p2 λa3=>
 ∃cj:SV,w.cell? (a3.add 2)=some (cj.v)/\
 Br (decide (jz > (cj.len:Int))) (
 J1 (l5,(IntKind.i64.wrap (n16+1))) w) (
 zQf p2 λa4=>
 ∃du,w.cell? (a4.add 0)=some (.int .i64 du)/\
 ∃bg:SV,w.cell? (a4.add 1)=some (bg.v)/\
 ∃bE:SV,w.cell? (a4.add 2)=some (bE.v)/\
 Calls prog 144 #[.agg #[.int .i64 du,bg.v,bE.v],.int .i64 jz] w λe w5=>
 ∃gD:SV,∃su:Int,e=.returned (.tuple #[gD.v,.int .i64 su])/\
 Calls prog 143 #[.int .i64 jz,.int .i64 2] w5 λe w6=>
 ∃d7:SV,e=.returned (d7.v)/\
 ∃jd:SV,∃w7,(Builtin.append_ #[22,22] 22 #[l5.v,d7.v]).run prog w6=.ok (jd.v) w7/\
 ∃dV:SV,∃w8,(Builtin.append_ #[22,22] 22 #[jd.v,gD.v]).run prog w7=.ok (dV.v) w8/\
 J1 (dV,(IntKind.i64.wrap (n16+1))) w8)) (
 xXd R l5 ds w)
def xXT(R:Rt)(p2:Option Addr)(l5 bL:SV)(iP n16:Int)(ds:Ds)(w:World):Prop:=
 zQW (λ(J1:(SV × Int)->World->Prop) (s:SV × Int) (w:World)=>xQa R J1 p2 s.1 bL iP s.2 ds w) (l5,n16) w
def xQ0(R:Rt)(aF:Int)(az ar l1:SV)(ds:Ds)(w:World):Prop:=
 alE (.cells #[.int .i64 aF,az.v,ar.v] 35) w λr2 w9=>
 ∃co:SV,w9.cell? ((⟨r2,0,none⟩:Addr).add 2)=some (co.v)/\
 Calls prog 143 #[.int .i64 (co.len:Int),.int .i64 2] w9 λe aM=>
 ∃eo:SV,e=.returned (eo.v)/\
 xXT R (some (⟨r2,0,none⟩:Addr)) eo l1 (l1.len:Int) 0 ds aM
theorem F112_p:Pl prog f112 [aS 0 [.int .i64,.slice,.slice],lS 1] xQ0:=λR=>
 pc 3 (rest [pS 2,lS 5,lS 14,iS 15,iS 16] (xXT R) (bk 0 (rest [lS 5] (xXd R) lf) (lp [lS 5,iS 16] [pS 2,lS 5,lS 14,iS 15,iS 16] (xQa R) zZU λJ1=>lf)))
theorem yKg (aF:Int) (az ar l1:SV) (w:World) (R:Rt) (h:xQ0 R aF az ar l1 [] w):Calls prog 112 #[.agg #[.int .i64 aF,az.v,ar.v],l1.v] w R:=
 plC F112_p func112 h
end Go.Proofs.YtaeecpjhfmcliaaGreatDoor
/- Shallow texts of functions, printed by program, each checked by the kernel against the loaded code. No condition. -/
namespace Go.Proofs.YtaeecpjhfmcliaaGreatDoor
open Go.Sh Tryz
end Go.Proofs.YtaeecpjhfmcliaaGreatDoor
/- Shallow texts of functions, printed by program, each checked by the kernel against the loaded code. No condition. -/
namespace Go.Proofs.YtaeecpjhfmcliaaGreatDoor
open Go.Sh Tryz
def F95_1(R:Rt)(p0:Option Addr)(ds:Ds)(w:World):Prop:=
 zQf p0 λa1=>
 Calls prog 137 #[.pointer (some a1)] w λe w2=>
 e=.returned (.tuple #[])/\
 zQd prog ds w2 λw3=>
 R (.returned (.tuple #[])) w3
theorem F95_p:Pl prog f95 [pS 0] F95_1:=λR=>
 lf
theorem yVp (p0:Option Addr) (w:World) (R:Rt) (h:F95_1 R p0 [] w):Calls prog 95 #[.pointer p0] w R:=
 plC F95_p func95 h
def F96_1(R:Rt)(p0:Option Addr)(ds:Ds)(w:World):Prop:=
 zQf p0 λa1=>
 Calls prog 138 #[.pointer (some a1)] w λe w2=>
 e=.returned (.tuple #[])/\
 zQd prog ds w2 λw3=>
 R (.returned (.tuple #[])) w3
theorem F96_p:Pl prog f96 [pS 0] F96_1:=λR=>
 lf
theorem yKl (p0:Option Addr) (w:World) (R:Rt) (u:FrameMode) (h:F96_1 R p0 [] w):CallsD prog 96 #[.pointer p0] u w λe u' w'=>u'=u/\R e w':=
 plD F96_p func96 u h
def xQo(R:Rt)(p0:Option Addr)(ds:Ds)(w:World):Prop:=
 ∃w1,(callFunc 169 #[]).run prog w=.ok (.value (.tuple #[])) w1/\
 zQf p0 λa2=>
 ∃b6:Bool,∃w3,(callFunc 170 #[.pointer (some a2),.int .i32 0,.int .i32 1]).run prog w1=.ok (.value (.bool b6)) w3/\
 Br b6 (
 ∃w4,(callFunc 171 #[]).run prog w3=.ok (.value (.tuple #[])) w4/\
 ∃v9:Value,∃w5,(convert 197 201 (.pointer p0)).run prog w4=.ok (v9) w5/\
 ∃w6,(callFunc 172 #[v9]).run prog w5=.ok (.value (.tuple #[])) w6/\
 zQd prog ds w6 λw7=>
 R (.returned (.tuple #[])) w7) (
 Calls prog 173 #[.pointer p0] w3 λe w8=>
 e=.returned (.tuple #[])/\
 zQd prog ds w8 λw9=>
 R (.returned (.tuple #[])) w9)
theorem F137_p:Pl prog f137 [pS 0] xQo:=λR=>
 lf
theorem yJD (p0:Option Addr) (w:World) (R:Rt) (h:xQo R p0 [] w):Calls prog 137 #[.pointer p0] w R:=
 plC F137_p func137 h
def xXb(R:Rt)(p0:Option Addr)(ds:Ds)(w:World):Prop:=
 zQf p0 λa1=>
 ∃n6,w.cell? a1=some (.int .i32 n6)/\
 ∃v8:Value,∃w2,(convert 197 201 (.pointer p0)).run prog w=.ok (v8) w2/\
 ∃w3,(callFunc 174 #[v8]).run prog w2=.ok (.value (.tuple #[])) w3/\
 ∃w4,(callFunc 169 #[]).run prog w3=.ok (.value (.tuple #[])) w4/\
 zQf p0 λa5=>
 ∃n14:Int,∃w6,(callFunc 175 #[.pointer (some a5),.int .i32 (-1)]).run prog w4=.ok (.value (.int .i32 n14)) w6/\
 Br (n14 != 0) (
 Calls prog 176 #[.pointer p0,.int .i32 n14] w6 λe w7=>
 e=.returned (.tuple #[])/\
 ∃w8,(callFunc 171 #[]).run prog w7=.ok (.value (.tuple #[])) w8/\
 zQd prog ds w8 λw9=>
 R (.returned (.tuple #[])) w9) (
 ∃aM,(callFunc 171 #[]).run prog w6=.ok (.value (.tuple #[])) aM/\
 zQd prog ds aM λaQ=>
 R (.returned (.tuple #[])) aQ)
theorem F138_p:Pl prog f138 [pS 0] xXb:=λR=>
 lf
theorem yJW (p0:Option Addr) (w:World) (R:Rt) (h:xXb R p0 [] w):Calls prog 138 #[.pointer p0] w R:=
 plC F138_p func138 h
def F94_1(R:Rt)(ds:Ds)(w:World):Prop:=
 zQd prog ds w λw1=>
 R (.returned (.tuple #[])) w1
theorem F94_p:Pl prog f94 [] F94_1:=λR=>
 lf
theorem yJM  (w:World) (R:Rt) (u:FrameMode) (h:F94_1 R [] w):CallsD prog 94 #[] u w λe u' w'=>u'=u/\R e w':=
 plD F94_p func94 u h
def F55_1(R:Rt)(p0:Option Addr)(ds:Ds)(w:World):Prop:=
 ∃b5:Bool,∃w1,(eqS .eql 24 (.tmp 4) (.const (.pointer none)) (.pointer p0) (.pointer none)).run prog w=.ok (.bool b5) w1/\
 Br b5 (
 zQd prog ds w1 λw2=>
 R (.returned (.tuple #[.func (.func 94) #[] #[],.int .i64 9])) w2) (
 zQf p0 λa3=>
 Calls prog 95 #[.pointer (some a3)] w1 λe w4=>
 e=.returned (.tuple #[])/\
 zQf p0 λa5=>
 zQd prog ds w4 λw6=>
 R (.returned (.tuple #[.func (.func 96) #[.pointer (some a5)] #[],.int .i64 0])) w6)
theorem F55_p:Pl prog f55 [pS 0] F55_1:=λR=>
 lf
theorem zYS (p0:Option Addr) (w:World) (R:Rt) (h:F55_1 R p0 [] w):Calls prog 55 #[.pointer p0] w R:=
 plC F55_p func55 h
end Go.Proofs.YtaeecpjhfmcliaaGreatDoor
/- Shallow texts of functions, printed by program, each checked by the kernel against the loaded code. No condition. -/
namespace Go.Proofs.YtaeecpjhfmcliaaGreatDoor
open Go.Sh Tryz
def F50_1(R:Rt)(aF:Int)(az ar l1:SV)(ds:Ds)(w:World):Prop:=
 alE (.cells #[.int .i64 aF,az.v,ar.v] 35) w λr2 w1=>
 dwE w1 λw2=>
 ∃S1:World->Prop,S1 w2/\
 ∃je,(∀w',S1 w'->w'.cell? ((⟨r2,0,none⟩:Addr).add 0)=some (.int .i64 je))/\
 ∃eL:SV,(∀w',S1 w'->w'.cell? ((⟨r2,0,none⟩:Addr).add 1)=some (eL.v))/\
 ∃cD:SV,(∀w',S1 w'->w'.cell? ((⟨r2,0,none⟩:Addr).add 2)=some (cD.v))/\
 ∃c8,(∀w',S1 w'->w'.cell? ((⟨r2,0,none⟩:Addr).add 0)=some (.int .i64 c8))/\
 ∃bN:SV,(∀w',S1 w'->w'.cell? ((⟨r2,0,none⟩:Addr).add 1)=some (bN.v))/\
 ∃bu:SV,(∀w',S1 w'->w'.cell? ((⟨r2,0,none⟩:Addr).add 2)=some (bu.v))/\
 Calls prog 56 #[.agg #[.int .i64 je,eL.v,cD.v]] w2 λe w3=>
 ∃kY:Int,∃eI:SV,∃eJ:SV,e=.returned (.agg #[.int .i64 kY,eI.v,eJ.v])/\
 S1 w3/\
 Calls prog 56 #[.agg #[.int .i64 c8,bN.v,bu.v]] w3 λe w4=>
 ∃kZ:Int,∃kq:SV,∃kr:SV,e=.returned (.agg #[.int .i64 kZ,kq.v,kr.v])/\
 alE (.cells #[.int .i64 kZ,kq.v,kr.v] 35) w4 λr9 w5=>
 alE (.cells #[.int .i32 0,.int .u32 0,.int .i64 kY,eI.v,eJ.v,.slice none 0 0,.slice (some ⟨r9,0,none⟩) 1 1,l1.v,l1.v,.slice none 0 0,.slice none 0 0] 108) w5 λmN w6=>
 zQd prog ds w6 λw7=>
 R (.returned (.pointer (some (⟨mN,0,none⟩:Addr)))) w7
theorem F50_p:Pl prog f50 [aS 0 [.int .i64,.slice,.slice],lS 1] F50_1:=λR=>
 lf
theorem yV6 (aF:Int) (az ar l1:SV) (w:World) (R:Rt) (h:F50_1 R aF az ar l1 [] w):Calls prog 50 #[.agg #[.int .i64 aF,az.v,ar.v],l1.v] w R:=
 plC F50_p func50 h
end Go.Proofs.YtaeecpjhfmcliaaGreatDoor
/- Shallow texts of functions, printed by program, each checked by the kernel against the loaded code. No condition. -/
namespace Go.Proofs.YtaeecpjhfmcliaaGreatDoor
open Go.Sh Tryz
def F43_1(R:Rt)(aF:Int)(az ar:SV)(ds:Ds)(w:World):Prop:=
 alE (.cells #[.int .i64 aF,az.v,ar.v] 35) w λr1 w1=>
 ∃c8,w1.cell? ((⟨r1,0,none⟩:Addr).add 0)=some (.int .i64 c8)/\
 ∃bN:SV,w1.cell? ((⟨r1,0,none⟩:Addr).add 1)=some (bN.v)/\
 ∃bu:SV,w1.cell? ((⟨r1,0,none⟩:Addr).add 2)=some (bu.v)/\
 Calls prog 86 #[.agg #[.int .i64 c8,bN.v,bu.v]] w1 λe w2=>
 ∃ku:SV,∃gi:Int,e=.returned (.tuple #[ku.v,.int .i64 gi])/\
 Br (gi != 0) (
 zQd prog ds w2 λw3=>
 R (.returned (.tuple #[.pointer none,.int .i64 gi])) w3) (
 ∃e7,w2.cell? ((⟨r1,0,none⟩:Addr).add 0)=some (.int .i64 e7)/\
 ∃bB:SV,w2.cell? ((⟨r1,0,none⟩:Addr).add 1)=some (bB.v)/\
 ∃cE:SV,w2.cell? ((⟨r1,0,none⟩:Addr).add 2)=some (cE.v)/\
 alE (.cells #[ku.v,.slice none 0 0] 22) w2 λzO w4=>
 Calls prog 50 #[.agg #[.int .i64 e7,bB.v,cE.v],.slice (some ⟨zO,0,none⟩) 2 2] w4 λe w5=>
 ∃tL:Option Addr,e=.returned (.pointer tL)/\
 zQd prog ds w5 λw6=>
 R (.returned (.tuple #[.pointer tL,.int .i64 0])) w6)
theorem F43_p:Pl prog f43 [aS 0 [.int .i64,.slice,.slice]] F43_1:=λR=>
 lf
theorem yVi (aF:Int) (az ar:SV) (w:World) (R:Rt) (h:F43_1 R aF az ar [] w):Calls prog 43 #[.agg #[.int .i64 aF,az.v,ar.v]] w R:=
 plC F43_p func43 h
end Go.Proofs.YtaeecpjhfmcliaaGreatDoor
/- Shallow texts of functions, printed by program, each checked by the kernel against the loaded code. No condition. -/
namespace Go.Proofs.YtaeecpjhfmcliaaGreatDoor
open Go.Sh Tryz
def F14_1(R:Rt)(p0:Option Addr)(ds:Ds)(w:World):Prop:=
 alE (.cells #[.int .i64 0,.slice none 0 0,.slice none 0 0] 35) w λr2 w1=>
 Calls prog 55 #[.pointer p0] w1 λe w2=>
 ∃dz:Value,∃bX:Int,e=.returned (.tuple #[dz,.int .i64 bX])/\
 fnE dz λfx firstx capx=>
 Br (bX != 0) (
 stA prog 35 (⟨r2,0,none⟩:Addr) #[.int .i64 0,.slice none 0 0,.slice none 0 0] w2 λw3=>
 zQd prog ({ target:=.fn (.func fx) capx,args:=(firstx.toList ++ ([]:List Value)).toArray } :: ds) w3 λw4=>
 ∃ag,w4.cell? ((⟨r2,0,none⟩:Addr).add 0)=some (.int .i64 ag)/\
 ∃ab:SV,w4.cell? ((⟨r2,0,none⟩:Addr).add 1)=some (ab.v)/\
 ∃ae:SV,w4.cell? ((⟨r2,0,none⟩:Addr).add 2)=some (ae.v)/\
 R (.returned (.agg #[.int .i64 ag,ab.v,ae.v])) w4) (
 zQf p0 λa5=>
 ∃ol,w2.cell? ((a5.add 2).add 0)=some (.int .i64 ol)/\
 ∃gE:SV,w2.cell? ((a5.add 2).add 1)=some (gE.v)/\
 ∃gF:SV,w2.cell? ((a5.add 2).add 2)=some (gF.v)/\
 Calls prog 56 #[.agg #[.int .i64 ol,gE.v,gF.v]] w2 λe w6=>
 ∃jj:Int,∃bC:SV,∃cN:SV,e=.returned (.agg #[.int .i64 jj,bC.v,cN.v])/\
 stA prog 35 (⟨r2,0,none⟩:Addr) #[.int .i64 jj,bC.v,cN.v] w6 λw7=>
 zQd prog ({ target:=.fn (.func fx) capx,args:=(firstx.toList ++ ([]:List Value)).toArray } :: ds) w7 λw8=>
 ∃ag,w8.cell? ((⟨r2,0,none⟩:Addr).add 0)=some (.int .i64 ag)/\
 ∃ab:SV,w8.cell? ((⟨r2,0,none⟩:Addr).add 1)=some (ab.v)/\
 ∃ae:SV,w8.cell? ((⟨r2,0,none⟩:Addr).add 2)=some (ae.v)/\
 R (.returned (.agg #[.int .i64 ag,ab.v,ae.v])) w8)
theorem F14_p:Pl prog f14 [pS 0] F14_1:=λR=>
 lf
theorem yQ0 (p0:Option Addr) (w:World) (R:Rt) (h:F14_1 R p0 [] w):Calls prog 14 #[.pointer p0] w R:=
 plC F14_p func14 h
def F27_1(R:Rt)(p0:Option Addr)(n1:Int)(ds:Ds)(w:World):Prop:=
 alE (.cells #[.int .i64 0,.slice none 0 0,.slice none 0 0] 35) w λr4 w1=>
 Calls prog 55 #[.pointer p0] w1 λe w2=>
 ∃om:Value,∃eQ:Int,e=.returned (.tuple #[om,.int .i64 eQ])/\
 fnE om λfx firstx capx=>
 Br (eQ != 0) (
 stA prog 35 (⟨r4,0,none⟩:Addr) #[.int .i64 0,.slice none 0 0,.slice none 0 0] w2 λw3=>
 zQd prog ({ target:=.fn (.func fx) capx,args:=(firstx.toList ++ ([]:List Value)).toArray } :: ds) w3 λw4=>
 ∃ag,w4.cell? ((⟨r4,0,none⟩:Addr).add 0)=some (.int .i64 ag)/\
 ∃ab:SV,w4.cell? ((⟨r4,0,none⟩:Addr).add 1)=some (ab.v)/\
 ∃ae:SV,w4.cell? ((⟨r4,0,none⟩:Addr).add 2)=some (ae.v)/\
 R (.returned (.tuple #[.agg #[.int .i64 ag,ab.v,ae.v],.int .i64 eQ])) w4) (
 Br (decide (n1<0)) (
 stA prog 35 (⟨r4,0,none⟩:Addr) #[.int .i64 0,.slice none 0 0,.slice none 0 0] w2 λw5=>
 zQd prog ({ target:=.fn (.func fx) capx,args:=(firstx.toList ++ ([]:List Value)).toArray } :: ds) w5 λw6=>
 ∃ag,w6.cell? ((⟨r4,0,none⟩:Addr).add 0)=some (.int .i64 ag)/\
 ∃ab:SV,w6.cell? ((⟨r4,0,none⟩:Addr).add 1)=some (ab.v)/\
 ∃ae:SV,w6.cell? ((⟨r4,0,none⟩:Addr).add 2)=some (ae.v)/\
 R (.returned (.tuple #[.agg #[.int .i64 ag,ab.v,ae.v],.int .i64 1])) w6) (
 zQf p0 λa7=>
 ∃ct:SV,w2.cell? (a7.add 6)=some (ct.v)/\
 Br (decide (n1 >= (ct.len:Int))) (
 stA prog 35 (⟨r4,0,none⟩:Addr) #[.int .i64 0,.slice none 0 0,.slice none 0 0] w2 λw8=>
 zQd prog ({ target:=.fn (.func fx) capx,args:=(firstx.toList ++ ([]:List Value)).toArray } :: ds) w8 λw9=>
 ∃ag,w9.cell? ((⟨r4,0,none⟩:Addr).add 0)=some (.int .i64 ag)/\
 ∃ab:SV,w9.cell? ((⟨r4,0,none⟩:Addr).add 1)=some (ab.v)/\
 ∃ae:SV,w9.cell? ((⟨r4,0,none⟩:Addr).add 2)=some (ae.v)/\
 R (.returned (.tuple #[.agg #[.int .i64 ag,ab.v,ae.v],.int .i64 1])) w9) (
 zQf p0 λej=>
 ∃d7:SV,w2.cell? (ej.add 6)=some (d7.v)/\
 ∃cT,d7.a=some cT/\0<=n1/\n1<(d7.len:Int)/\
 ∃oo,w2.cell? ((cT.add (n1.toNat * 3)).add 0)=some (.int .i64 oo)/\
 ∃gG:SV,w2.cell? ((cT.add (n1.toNat * 3)).add 1)=some (gG.v)/\
 ∃gH:SV,w2.cell? ((cT.add (n1.toNat * 3)).add 2)=some (gH.v)/\
 Calls prog 56 #[.agg #[.int .i64 oo,gG.v,gH.v]] w2 λe aR=>
 ∃iO:Int,∃gI:SV,∃gJ:SV,e=.returned (.agg #[.int .i64 iO,gI.v,gJ.v])/\
 stA prog 35 (⟨r4,0,none⟩:Addr) #[.int .i64 iO,gI.v,gJ.v] aR λaZ=>
 zQd prog ({ target:=.fn (.func fx) capx,args:=(firstx.toList ++ ([]:List Value)).toArray } :: ds) aZ λbI=>
 ∃ag,bI.cell? ((⟨r4,0,none⟩:Addr).add 0)=some (.int .i64 ag)/\
 ∃ab:SV,bI.cell? ((⟨r4,0,none⟩:Addr).add 1)=some (ab.v)/\
 ∃ae:SV,bI.cell? ((⟨r4,0,none⟩:Addr).add 2)=some (ae.v)/\
 R (.returned (.tuple #[.agg #[.int .i64 ag,ab.v,ae.v],.int .i64 0])) bI)))
theorem F27_p:Pl prog f27 [pS 0,iS 1] F27_1:=λR=>
 lf
theorem zYR (p0:Option Addr) (n1:Int) (w:World) (R:Rt) (h:F27_1 R p0 n1 [] w):Calls prog 27 #[.pointer p0,.int .i64 n1] w R:=
 plC F27_p func27 h
def F22_1(R:Rt)(p0:Option Addr)(ds:Ds)(w:World):Prop:=
 Calls prog 55 #[.pointer p0] w λe w1=>
 ∃dz:Value,∃bX:Int,e=.returned (.tuple #[dz,.int .i64 bX])/\
 fnE dz λfx firstx capx=>
 Br (bX != 0) (
 zQd prog ({ target:=.fn (.func fx) capx,args:=(firstx.toList ++ ([]:List Value)).toArray } :: ds) w1 λw2=>
 R (.returned (.int .i64 0)) w2) (
 zQf p0 λa3=>
 ∃gj:SV,w1.cell? (a3.add 6)=some (gj.v)/\
 zQd prog ({ target:=.fn (.func fx) capx,args:=(firstx.toList ++ ([]:List Value)).toArray } :: ds) w1 λw4=>
 R (.returned (.int .i64 (IntKind.i64.wrap ((gj.len:Int) - 1)))) w4)
theorem F22_p:Pl prog f22 [pS 0] F22_1:=λR=>
 lf
theorem yQZ (p0:Option Addr) (w:World) (R:Rt) (h:F22_1 R p0 [] w):Calls prog 22 #[.pointer p0] w R:=
 plC F22_p func22 h
def F30_1(R:Rt)(p0:Option Addr)(ds:Ds)(w:World):Prop:=
 Calls prog 55 #[.pointer p0] w λe w1=>
 ∃dz:Value,∃bX:Int,e=.returned (.tuple #[dz,.int .i64 bX])/\
 fnE dz λfx firstx capx=>
 Br (bX != 0) (
 zQd prog ({ target:=.fn (.func fx) capx,args:=(firstx.toList ++ ([]:List Value)).toArray } :: ds) w1 λw2=>
 R (.returned (.int .i64 0)) w2) (
 zQf p0 λa3=>
 ∃gj:SV,w1.cell? (a3.add 9)=some (gj.v)/\
 zQd prog ({ target:=.fn (.func fx) capx,args:=(firstx.toList ++ ([]:List Value)).toArray } :: ds) w1 λw4=>
 R (.returned (.int .i64 (gj.len:Int))) w4)
theorem F30_p:Pl prog f30 [pS 0] F30_1:=λR=>
 lf
theorem yWp (p0:Option Addr) (w:World) (R:Rt) (h:F30_1 R p0 [] w):Calls prog 30 #[.pointer p0] w R:=
 plC F30_p func30 h
def F29_1(R:Rt)(p0:Option Addr)(ds:Ds)(w:World):Prop:=
 Calls prog 55 #[.pointer p0] w λe w1=>
 ∃dz:Value,∃bX:Int,e=.returned (.tuple #[dz,.int .i64 bX])/\
 fnE dz λfx firstx capx=>
 Br (bX != 0) (
 zQd prog ({ target:=.fn (.func fx) capx,args:=(firstx.toList ++ ([]:List Value)).toArray } :: ds) w1 λw2=>
 R (.returned (.slice none 0 0)) w2) (
 zQf p0 λa3=>
 ∃gj:SV,w1.cell? (a3.add 10)=some (gj.v)/\
 Calls prog 74 #[gj.v] w1 λe w4=>
 ∃dU:SV,e=.returned (dU.v)/\
 zQd prog ({ target:=.fn (.func fx) capx,args:=(firstx.toList ++ ([]:List Value)).toArray } :: ds) w4 λw5=>
 R (.returned (dU.v)) w5)
theorem F29_p:Pl prog f29 [pS 0] F29_1:=λR=>
 lf
theorem yWR (p0:Option Addr) (w:World) (R:Rt) (h:F29_1 R p0 [] w):Calls prog 29 #[.pointer p0] w R:=
 plC F29_p func29 h
def F33_1(R:Rt)(p0:Option Addr)(n1 n2:Int)(co:SV)(ds:Ds)(w:World):Prop:=
 zQf p0 λa1=>
 ∃eY:SV,w.cell? (a1.add 9)=some (eY.v)/\
 Br (decide (n1<(eY.len:Int))) (
 zQf p0 λa2=>
 ∃jG:SV,w.cell? (a2.add 9)=some (jG.v)/\
 ∃a3,jG.a=some a3/\0<=n1/\n1<(jG.len:Int)/\
 ∃aU,w.cell? ((a3.add (n1.toNat * 3)).add 0)=some (.int .i64 aU)/\
 ∃aV,w.cell? ((a3.add (n1.toNat * 3)).add 1)=some (.int .i64 aV)/\
 ∃gK:SV,w.cell? ((a3.add (n1.toNat * 3)).add 2)=some (gK.v)/\
 Calls prog 76 #[.agg #[.int .i64 aU,.int .i64 aV,gK.v],co.v,.int .i64 n2] w λe w4=>
 ∃qj:SV,e=.returned (qj.v)/\
 Calls prog 51 #[qj.v] w4 λe w5=>
 ∃cO:SV,∃bH:SV,e=.returned (.agg #[cO.v,bH.v])/\
 alE (.cells #[.slice none 0 0,.slice none 0 0] 63) w5 λaB w6=>
 stA prog 63 (⟨aB,0,none⟩:Addr) #[cO.v,bH.v] w6 λw7=>
 dwE w7 λw8=>
 0<=(0:Int)/\(0:Int)<(2:Int)/\
 ∃iy:SV,w8.cell? ((⟨aB,0,none⟩:Addr).add ((0:Int).toNat * 1))=some (iy.v)/\
 0<=(1:Int)/\(1:Int)<(2:Int)/\
 ∃kv:SV,w8.cell? ((⟨aB,0,none⟩:Addr).add ((1:Int).toNat * 1))=some (kv.v)/\
 zQd prog ds w8 λw9=>
 R (.returned (.tuple #[iy.v,kv.v,.int .i64 0])) w9) (
 Calls prog 51 #[co.v] w λe aM=>
 ∃cO:SV,∃bH:SV,e=.returned (.agg #[cO.v,bH.v])/\
 alE (.cells #[.slice none 0 0,.slice none 0 0] 63) aM λaB aQ=>
 stA prog 63 (⟨aB,0,none⟩:Addr) #[cO.v,bH.v] aQ λaR=>
 dwE aR λaZ=>
 0<=(0:Int)/\(0:Int)<(2:Int)/\
 ∃iy:SV,aZ.cell? ((⟨aB,0,none⟩:Addr).add ((0:Int).toNat * 1))=some (iy.v)/\
 0<=(1:Int)/\(1:Int)<(2:Int)/\
 ∃kv:SV,aZ.cell? ((⟨aB,0,none⟩:Addr).add ((1:Int).toNat * 1))=some (kv.v)/\
 zQd prog ds aZ λbI=>
 R (.returned (.tuple #[iy.v,kv.v,.int .i64 0])) bI)
def F33_2 (R:Rt) (J1:(SV × Int)->World->Prop) (p0:Option Addr) (n1 n2:Int) (co iV:SV) (lN fj:Int) (ds:Ds) (w:World):Prop:=
 Br (decide (fj<lN)) (
 ∃gq,iV.a=some gq/\0<=fj/\fj<(iV.len:Int)/\
 ∃oq,w.cell? ((gq.add (fj.toNat * 3)).add 0)=some (.int .i64 oq)/\
 ∃ou,w.cell? ((gq.add (fj.toNat * 3)).add 1)=some (.int .i64 ou)/\
 ∃gL:SV,w.cell? ((gq.add (fj.toNat * 3)).add 2)=some (gL.v)/\
 alE (.cells #[.int .i64 0,.int .i64 0,.slice none 0 0] 90) w λmN bK=>
 stA prog 90 (⟨mN,0,none⟩:Addr) #[.int .i64 oq,.int .i64 ou,gL.v] bK λbA=>
 ∃dQ,bA.cell? ((⟨mN,0,none⟩:Addr).add 0)=some (.int .i64 dQ)/\
 ∃gM,bA.cell? ((⟨mN,0,none⟩:Addr).add 1)=some (.int .i64 gM)/\
 ∃gN:SV,bA.cell? ((⟨mN,0,none⟩:Addr).add 2)=some (gN.v)/\
 Calls prog 49 #[co.v,.agg #[.int .i64 dQ,.int .i64 gM,gN.v]] bA λe bY=>
 ∃tM:SV,e=.returned (tM.v)/\
 J1 (tM,(IntKind.i64.wrap (fj+1))) bY) (
 F33_1 R p0 n1 n2 co ds w)
def F33_3(R:Rt)(p0:Option Addr)(n1 n2:Int)(co iV:SV)(lN fj:Int)(ds:Ds)(w:World):Prop:=
 zQW (λ(J1:(SV × Int)->World->Prop) (s:SV × Int) (w:World)=>F33_2 R J1 p0 n1 n2 s.1 iV lN s.2 ds w) (co,fj) w
def F33_5(R:Rt)(p0:Option Addr)(n1 n2:Int)(ds:Ds)(w:World):Prop:=
 Calls prog 55 #[.pointer p0] w λe ce=>
 ∃ov:Value,∃fQ:Int,e=.returned (.tuple #[ov,.int .i64 fQ])/\
 fnE ov λfx firstx capx=>
 Br (fQ != 0) (
 zQd prog ({ target:=.fn (.func fx) capx,args:=(firstx.toList ++ ([]:List Value)).toArray } :: ds) ce λcf=>
 R (.returned (.tuple #[.slice none 0 0,.slice none 0 0,.int .i64 fQ])) cf) (
 Br (decide (n1<0)) (
 zQd prog ({ target:=.fn (.func fx) capx,args:=(firstx.toList ++ ([]:List Value)).toArray } :: ds) ce λbt=>
 R (.returned (.tuple #[.slice none 0 0,.slice none 0 0,.int .i64 1])) bt) (
 zQf p0 λkP=>
 ∃fq:SV,ce.cell? (kP.add 9)=some (fq.v)/\
 Br (decide (n1 > (fq.len:Int))) (
 zQd prog ({ target:=.fn (.func fx) capx,args:=(firstx.toList ++ ([]:List Value)).toArray } :: ds) ce λcy=>
 R (.returned (.tuple #[.slice none 0 0,.slice none 0 0,.int .i64 1])) cy) (
 Br (decide (n2<0)) (
 zQd prog ({ target:=.fn (.func fx) capx,args:=(firstx.toList ++ ([]:List Value)).toArray } :: ds) ce λcS=>
 R (.returned (.tuple #[.slice none 0 0,.slice none 0 0,.int .i64 1])) cS) (
 zQf p0 λkQ=>
 ∃lj:SV,ce.cell? (kQ.add 7)=some (lj.v)/\
 zQf p0 λwv=>
 ∃ow:SV,ce.cell? (wv.add 9)=some (ow.v)/\
 0<=n1/\n1.toNat<=ow.cap/\0<=n1.toNat/\
 F33_3 R p0 n1 n2 lj ⟨(if ow.cap=0 then ow.a else ow.a.map (λx=>x.add (0 * 3))),(n1.toNat - 0),(ow.cap - 0)⟩ (((n1.toNat - 0):Nat):Int) 0 ({ target:=.fn (.func fx) capx,args:=(firstx.toList ++ ([]:List Value)).toArray } :: ds) ce))))
theorem F33_p:Pl prog f33 [pS 0,iS 1,iS 2] F33_5:=λR=>
 pc 9 (rest [pS 0,iS 1,iS 2,lS 11,lS 48,iS 49,iS 50] (F33_3 R) (bk 0 (rest [pS 0,iS 1,iS 2,lS 11] (F33_1 R) lf) (lp [lS 11,iS 50] [pS 0,iS 1,iS 2,lS 11,lS 48,iS 49,iS 50] (F33_2 R) zZU λJ1=>lf)))
theorem yVj (p0:Option Addr) (n1 n2:Int) (w:World) (R:Rt) (h:F33_5 R p0 n1 n2 [] w):Calls prog 33 #[.pointer p0,.int .i64 n1,.int .i64 n2] w R:=
 plC F33_p func33 h
def F25_1(R:Rt)(p0:Option Addr)(ds:Ds)(w:World):Prop:=
 Calls prog 55 #[.pointer p0] w λe w1=>
 ∃jk:Value,∃cb:Int,e=.returned (.tuple #[jk,.int .i64 cb])/\
 fnE jk λfx firstx capx=>
 Br (cb != 0) (
 zQd prog ({ target:=.fn (.func fx) capx,args:=(firstx.toList ++ ([]:List Value)).toArray } :: ds) w1 λw2=>
 R (.returned (.slice none 0 0)) w2) (
 dwE w1 λw3=>
 zQf p0 λa4=>
 ∃cu:SV,w3.cell? (a4.add 6)=some (cu.v)/\
 zQf p0 λa5=>
 ∃eF:SV,w3.cell? (a5.add 6)=some (eF.v)/\
 ∃a6,cu.a=some a6/\0<=(IntKind.i64.wrap ((eF.len:Int) - 1))/\(IntKind.i64.wrap ((eF.len:Int) - 1))<(cu.len:Int)/\
 ∃ox,w3.cell? ((a6.add ((IntKind.i64.wrap ((eF.len:Int) - 1)).toNat * 3)).add 0)=some (.int .i64 ox)/\
 ∃dA:SV,w3.cell? ((a6.add ((IntKind.i64.wrap ((eF.len:Int) - 1)).toNat * 3)).add 1)=some (dA.v)/\
 ∃gO:SV,w3.cell? ((a6.add ((IntKind.i64.wrap ((eF.len:Int) - 1)).toNat * 3)).add 2)=some (gO.v)/\
 zQf p0 λa7=>
 ∃de,w3.cell? ((a7.add 2).add 0)=some (.int .i64 de)/\
 ∃cP:SV,w3.cell? ((a7.add 2).add 1)=some (cP.v)/\
 ∃cQ:SV,w3.cell? ((a7.add 2).add 2)=some (cQ.v)/\
 Calls prog 72 #[.agg #[.int .i64 ox,dA.v,gO.v],.agg #[.int .i64 de,cP.v,cQ.v]] w3 λe w8=>
 ∃gP:SV,∃jZ:Int,e=.returned (.tuple #[gP.v,.int .i64 jZ])/\
 zQd prog ({ target:=.fn (.func fx) capx,args:=(firstx.toList ++ ([]:List Value)).toArray } :: ds) w8 λw9=>
 R (.returned (gP.v)) w9)
theorem F25_p:Pl prog f25 [pS 0] F25_1:=λR=>
 lf
theorem yKI (p0:Option Addr) (w:World) (R:Rt) (h:F25_1 R p0 [] w):Calls prog 25 #[.pointer p0] w R:=
 plC F25_p func25 h
end Go.Proofs.YtaeecpjhfmcliaaGreatDoor
/- Shallow texts of functions, printed by program, each checked by the kernel against the loaded code. No condition. -/
namespace Go.Proofs.YtaeecpjhfmcliaaGreatDoor
open Go.Sh Tryz
def F35_1(R:Rt)(p0:Option Addr)(ds:Ds)(w:World):Prop:=
 Calls prog 55 #[.pointer p0] w λe w1=>
 ∃dz:Value,∃bX:Int,e=.returned (.tuple #[dz,.int .i64 bX])/\
 fnE dz λfx firstx capx=>
 Br (bX != 0) (
 zQd prog ({ target:=.fn (.func fx) capx,args:=(firstx.toList ++ ([]:List Value)).toArray } :: ds) w1 λw2=>
 R (.returned (.int .i64 bX)) w2) (
 zQf p0 λa3=>
 ∃cu:SV,w1.cell? (a3.add 5)=some (cu.v)/\
 Br (decide ((cu.len:Int) >= 8)) (
 zQd prog ({ target:=.fn (.func fx) capx,args:=(firstx.toList ++ ([]:List Value)).toArray } :: ds) w1 λw4=>
 R (.returned (.int .i64 3)) w4) (
 dwE w1 λw5=>
 ∃S1:World->Prop,S1 w5/\
 zQf p0 λa6=>
 ∃dy:SV,(∀w',S1 w'->w'.cell? (a6.add 5)=some (dy.v))/\
 zQf p0 λa7=>
 ∃ji,(∀w',S1 w'->w'.cell? ((a7.add 2).add 0)=some (.int .i64 ji))/\
 ∃cL:SV,(∀w',S1 w'->w'.cell? ((a7.add 2).add 1)=some (cL.v))/\
 ∃cM:SV,(∀w',S1 w'->w'.cell? ((a7.add 2).add 2)=some (cM.v))/\
 Calls prog 56 #[.agg #[.int .i64 ji,cL.v,cM.v]] w5 λe w8=>
 ∃de:Int,∃cP:SV,∃cQ:SV,e=.returned (.agg #[.int .i64 de,cP.v,cQ.v])/\
 S1 w8/\
 alE (.cells #[.int .i64 de,cP.v,cQ.v] 35) w8 λzP w9=>
 S1 w9/\
 ∃d7:SV,∃aM,(Builtin.append_ #[106,106] 106 #[dy.v,.slice (some ⟨zP,0,none⟩) 1 1]).run prog w9=.ok (d7.v) aM/\
 zQf p0 λcT=>
 st1 (cT.add 5) (d7.v) aM λaR=>
 zQd prog ({ target:=.fn (.func fx) capx,args:=(firstx.toList ++ ([]:List Value)).toArray } :: ds) aR λaZ=>
 R (.returned (.int .i64 0)) aZ))
theorem F35_p:Pl prog f35 [pS 0] F35_1:=λR=>
 lf
theorem zYQ (p0:Option Addr) (w:World) (R:Rt) (h:F35_1 R p0 [] w):Calls prog 35 #[.pointer p0] w R:=
 plC F35_p func35 h
def F80_1(R:Rt)(p0:Option Addr)(ds:Ds)(w:World):Prop:=
 alE (.cells #[.int .i64 0,.slice none 0 0,.slice none 0 0] 35) w λr2 w1=>
 zQf p0 λa2=>
 ∃l9:SV,w1.cell? (a2.add 5)=some (l9.v)/\
 Br ((l9.len:Int) == 0) (
 stA prog 35 (⟨r2,0,none⟩:Addr) #[.int .i64 0,.slice none 0 0,.slice none 0 0] w1 λw3=>
 zQd prog ds w3 λw4=>
 ∃ag,w4.cell? ((⟨r2,0,none⟩:Addr).add 0)=some (.int .i64 ag)/\
 ∃ab:SV,w4.cell? ((⟨r2,0,none⟩:Addr).add 1)=some (ab.v)/\
 ∃ae:SV,w4.cell? ((⟨r2,0,none⟩:Addr).add 2)=some (ae.v)/\
 R (.returned (.tuple #[.agg #[.int .i64 ag,ab.v,ae.v],.int .i64 9])) w4) (
 zQf p0 λa5=>
 ∃dU:SV,w1.cell? (a5.add 5)=some (dU.v)/\
 ∃a6,dU.a=some a6/\0<=(IntKind.i64.wrap ((l9.len:Int) - 1))/\(IntKind.i64.wrap ((l9.len:Int) - 1))<(dU.len:Int)/\
 ∃oy,w1.cell? ((a6.add ((IntKind.i64.wrap ((l9.len:Int) - 1)).toNat * 3)).add 0)=some (.int .i64 oy)/\
 ∃gQ:SV,w1.cell? ((a6.add ((IntKind.i64.wrap ((l9.len:Int) - 1)).toNat * 3)).add 1)=some (gQ.v)/\
 ∃gR:SV,w1.cell? ((a6.add ((IntKind.i64.wrap ((l9.len:Int) - 1)).toNat * 3)).add 2)=some (gR.v)/\
 alE (.cells #[.int .i64 0,.slice none 0 0,.slice none 0 0] 35) w1 λr5 w7=>
 stA prog 35 (⟨r5,0,none⟩:Addr) #[.int .i64 oy,gQ.v,gR.v] w7 λw8=>
 zQf p0 λa9=>
 ∃dy:SV,w8.cell? (a9.add 5)=some (dy.v)/\
 0<=(IntKind.i64.wrap ((l9.len:Int) - 1))/\(IntKind.i64.wrap ((l9.len:Int) - 1)).toNat<=dy.cap/\0<=(IntKind.i64.wrap ((l9.len:Int) - 1)).toNat/\
 zQf p0 λej=>
 st1 (ej.add 5) (.slice (if dy.cap=0 then dy.a else dy.a.map (λx=>x.add (0 * 3))) ((IntKind.i64.wrap ((l9.len:Int) - 1)).toNat - 0) (dy.cap - 0)) w8 λaQ=>
 ∃i6,aQ.cell? ((⟨r5,0,none⟩:Addr).add 0)=some (.int .i64 i6)/\
 ∃gS:SV,aQ.cell? ((⟨r5,0,none⟩:Addr).add 1)=some (gS.v)/\
 ∃gT:SV,aQ.cell? ((⟨r5,0,none⟩:Addr).add 2)=some (gT.v)/\
 stA prog 35 (⟨r2,0,none⟩:Addr) #[.int .i64 i6,gS.v,gT.v] aQ λaR=>
 zQd prog ds aR λaZ=>
 ∃ag,aZ.cell? ((⟨r2,0,none⟩:Addr).add 0)=some (.int .i64 ag)/\
 ∃ab:SV,aZ.cell? ((⟨r2,0,none⟩:Addr).add 1)=some (ab.v)/\
 ∃ae:SV,aZ.cell? ((⟨r2,0,none⟩:Addr).add 2)=some (ae.v)/\
 R (.returned (.tuple #[.agg #[.int .i64 ag,ab.v,ae.v],.int .i64 0])) aZ)
theorem F80_p:Pl prog f80 [pS 0] F80_1:=λR=>
 lf
theorem yWa (p0:Option Addr) (w:World) (R:Rt) (h:F80_1 R p0 [] w):Calls prog 80 #[.pointer p0] w R:=
 plC F80_p func80 h
def F36_1(R:Rt)(p0:Option Addr)(ds:Ds)(w:World):Prop:=
 Calls prog 55 #[.pointer p0] w λe w1=>
 ∃jk:Value,∃cb:Int,e=.returned (.tuple #[jk,.int .i64 cb])/\
 fnE jk λfx firstx capx=>
 Br (cb != 0) (
 zQd prog ({ target:=.fn (.func fx) capx,args:=(firstx.toList ++ ([]:List Value)).toArray } :: ds) w1 λw2=>
 R (.returned (.int .i64 cb)) w2) (
 Calls prog 80 #[.pointer p0] w1 λe w3=>
 ∃j1:Int,∃dC:SV,∃dD:SV,∃lk:Int,e=.returned (.tuple #[.agg #[.int .i64 j1,dC.v,dD.v],.int .i64 lk])/\
 alE (.cells #[.int .i64 0,.slice none 0 0,.slice none 0 0] 35) w3 λr5 w4=>
 stA prog 35 (⟨r5,0,none⟩:Addr) #[.int .i64 j1,dC.v,dD.v] w4 λw5=>
 Br (lk != 0) (
 zQd prog ({ target:=.fn (.func fx) capx,args:=(firstx.toList ++ ([]:List Value)).toArray } :: ds) w5 λw6=>
 R (.returned (.int .i64 lk)) w6) (
 Calls prog 79 #[.pointer p0] w5 λe w7=>
 e=.returned (.tuple #[])/\
 zQd prog ({ target:=.fn (.func fx) capx,args:=(firstx.toList ++ ([]:List Value)).toArray } :: ds) w7 λw8=>
 R (.returned (.int .i64 0)) w8))
theorem F36_p:Pl prog f36 [pS 0] F36_1:=λR=>
 lf
theorem yQN (p0:Option Addr) (w:World) (R:Rt) (h:F36_1 R p0 [] w):Calls prog 36 #[.pointer p0] w R:=
 plC F36_p func36 h
def F37_1(R:Rt)(p0:Option Addr)(ds:Ds)(w:World):Prop:=
 Calls prog 55 #[.pointer p0] w λe w1=>
 ∃sv:Value,∃gi:Int,e=.returned (.tuple #[sv,.int .i64 gi])/\
 fnE sv λfx firstx capx=>
 Br (gi != 0) (
 zQd prog ({ target:=.fn (.func fx) capx,args:=(firstx.toList ++ ([]:List Value)).toArray } :: ds) w1 λw2=>
 R (.returned (.int .i64 gi)) w2) (
 Calls prog 80 #[.pointer p0] w1 λe w3=>
 ∃j2:Int,∃dE:SV,∃dF:SV,∃fQ:Int,e=.returned (.tuple #[.agg #[.int .i64 j2,dE.v,dF.v],.int .i64 fQ])/\
 alE (.cells #[.int .i64 0,.slice none 0 0,.slice none 0 0] 35) w3 λr5 w4=>
 stA prog 35 (⟨r5,0,none⟩:Addr) #[.int .i64 j2,dE.v,dF.v] w4 λw5=>
 Br (fQ != 0) (
 zQd prog ({ target:=.fn (.func fx) capx,args:=(firstx.toList ++ ([]:List Value)).toArray } :: ds) w5 λw6=>
 R (.returned (.int .i64 fQ)) w6) (
 ∃ja,w5.cell? ((⟨r5,0,none⟩:Addr).add 0)=some (.int .i64 ja)/\
 ∃cR:SV,w5.cell? ((⟨r5,0,none⟩:Addr).add 1)=some (cR.v)/\
 ∃gU:SV,w5.cell? ((⟨r5,0,none⟩:Addr).add 2)=some (gU.v)/\
 zQf p0 λa7=>
 stA prog 35 (a7.add 2) #[.int .i64 ja,cR.v,gU.v] w5 λw8=>
 zQd prog ({ target:=.fn (.func fx) capx,args:=(firstx.toList ++ ([]:List Value)).toArray } :: ds) w8 λw9=>
 R (.returned (.int .i64 0)) w9))
theorem F37_p:Pl prog f37 [pS 0] F37_1:=λR=>
 lf
theorem yQR (p0:Option Addr) (w:World) (R:Rt) (h:F37_1 R p0 [] w):Calls prog 37 #[.pointer p0] w R:=
 plC F37_p func37 h
def F20_1(R:Rt)(p0:Option Addr)(ds:Ds)(w:World):Prop:=
 Calls prog 55 #[.pointer p0] w λe w1=>
 ∃dz:Value,∃bX:Int,e=.returned (.tuple #[dz,.int .i64 bX])/\
 fnE dz λfx firstx capx=>
 Br (bX != 0) (
 zQd prog ({ target:=.fn (.func fx) capx,args:=(firstx.toList ++ ([]:List Value)).toArray } :: ds) w1 λw2=>
 R (.returned (.int .i64 0)) w2) (
 zQf p0 λa3=>
 ∃gj:SV,w1.cell? (a3.add 5)=some (gj.v)/\
 zQd prog ({ target:=.fn (.func fx) capx,args:=(firstx.toList ++ ([]:List Value)).toArray } :: ds) w1 λw4=>
 R (.returned (.int .i64 (gj.len:Int))) w4)
theorem F20_p:Pl prog f20 [pS 0] F20_1:=λR=>
 lf
theorem yWi (p0:Option Addr) (w:World) (R:Rt) (h:F20_1 R p0 [] w):Calls prog 20 #[.pointer p0] w R:=
 plC F20_p func20 h
def F84_1(R:Rt)(p0:Option Addr)(aT bm:Int)(br:SV)(ds:Ds)(w:World):Prop:=
 alE (.cells #[.int .i64 aT,.int .i64 bm,br.v] 90) w λr3 w1=>
 dwE w1 λw2=>
 ∃S1:World->Prop,S1 w2/\
 zQf p0 λa3=>
 ∃l8:SV,(∀w',S1 w'->w'.cell? (a3.add 9)=some (l8.v))/\
 ∃eH,(∀w',S1 w'->w'.cell? ((⟨r3,0,none⟩:Addr).add 0)=some (.int .i64 eH))/\
 ∃cb,(∀w',S1 w'->w'.cell? ((⟨r3,0,none⟩:Addr).add 1)=some (.int .i64 cb))/\
 ∃kw:SV,(∀w',S1 w'->w'.cell? ((⟨r3,0,none⟩:Addr).add 2)=some (kw.v))/\
 alE (.cells #[.int .i64 eH,.int .i64 cb,kw.v] 90) w2 λbW w4=>
 S1 w4/\
 ∃co:SV,∃w5,(Builtin.append_ #[87,87] 87 #[l8.v,.slice (some ⟨bW,0,none⟩) 1 1]).run prog w4=.ok (co.v) w5/\
 zQf p0 λa6=>
 st1 (a6.add 9) (co.v) w5 λw7=>
 dwE w7 λw8=>
 zQf p0 λa9=>
 ∃cX:SV,w8.cell? (a9.add 8)=some (cX.v)/\
 ∃cm,w8.cell? ((⟨r3,0,none⟩:Addr).add 0)=some (.int .i64 cm)/\
 ∃bR,w8.cell? ((⟨r3,0,none⟩:Addr).add 1)=some (.int .i64 bR)/\
 ∃bD:SV,w8.cell? ((⟨r3,0,none⟩:Addr).add 2)=some (bD.v)/\
 Calls prog 49 #[cX.v,.agg #[.int .i64 cm,.int .i64 bR,bD.v]] w8 λe aM=>
 ∃d8:SV,e=.returned (d8.v)/\
 zQf p0 λcT=>
 st1 (cT.add 8) (d8.v) aM λaR=>
 zQd prog ds aR λaZ=>
 R (.returned (.tuple #[])) aZ
theorem F84_p:Pl prog f84 [pS 0,aS 1 [.int .i64,.int .i64,.slice]] F84_1:=λR=>
 lf
theorem yKO (p0:Option Addr) (aT bm:Int) (br:SV) (w:World) (R:Rt) (h:F84_1 R p0 aT bm br [] w):Calls prog 84 #[.pointer p0,.agg #[.int .i64 aT,.int .i64 bm,br.v]] w R:=
 plC F84_p func84 h
def F79_1(R:Rt)(p0:Option Addr)(ds:Ds)(w:World):Prop:=
 dwE w λw1=>
 ∃S1:World->Prop,S1 w1/\
 zQf p0 λa2=>
 ∃l8:SV,(∀w',S1 w'->w'.cell? (a2.add 6)=some (l8.v))/\
 zQf p0 λa3=>
 ∃f7:SV,(∀w',S1 w'->w'.cell? (a3.add 6)=some (f7.v))/\
 ∃a4,l8.a=some a4/\0<=(IntKind.i64.wrap ((f7.len:Int) - 1))/\(IntKind.i64.wrap ((f7.len:Int) - 1))<(l8.len:Int)/\
 ∃oz,(∀w',S1 w'->w'.cell? ((a4.add ((IntKind.i64.wrap ((f7.len:Int) - 1)).toNat * 3)).add 0)=some (.int .i64 oz))/\
 ∃gV:SV,(∀w',S1 w'->w'.cell? ((a4.add ((IntKind.i64.wrap ((f7.len:Int) - 1)).toNat * 3)).add 1)=some (gV.v))/\
 ∃gW:SV,(∀w',S1 w'->w'.cell? ((a4.add ((IntKind.i64.wrap ((f7.len:Int) - 1)).toNat * 3)).add 2)=some (gW.v))/\
 alE (.cells #[.int .i64 0,.slice none 0 0,.slice none 0 0] 35) w1 λr2 w5=>
 S1 w5/\
 stA prog 35 (⟨r2,0,none⟩:Addr) #[.int .i64 oz,gV.v,gW.v] w5 λw6=>
 dwE w6 λw7=>
 ∃jj,w7.cell? ((⟨r2,0,none⟩:Addr).add 0)=some (.int .i64 jj)/\
 ∃bC:SV,w7.cell? ((⟨r2,0,none⟩:Addr).add 1)=some (bC.v)/\
 ∃cN:SV,w7.cell? ((⟨r2,0,none⟩:Addr).add 2)=some (cN.v)/\
 zQf p0 λa8=>
 ∃fe,w7.cell? ((a8.add 2).add 0)=some (.int .i64 fe)/\
 ∃bF:SV,w7.cell? ((a8.add 2).add 1)=some (bF.v)/\
 ∃bG:SV,w7.cell? ((a8.add 2).add 2)=some (bG.v)/\
 Calls prog 72 #[.agg #[.int .i64 jj,bC.v,cN.v],.agg #[.int .i64 fe,bF.v,bG.v]] w7 λe w9=>
 ∃fR:SV,∃dP:Int,e=.returned (.tuple #[fR.v,.int .i64 dP])/\
 zQf p0 λej=>
 ∃eE:SV,w9.cell? (ej.add 5)=some (eE.v)/\
 Br (decide ((eE.len:Int) > 0)) (
 zQd prog ds w9 λaQ=>
 R (.returned (.tuple #[])) aQ) (
 Br ((fR.len:Int) == 0) (
 zQd prog ds w9 λaR=>
 R (.returned (.tuple #[])) aR) (
 dwE w9 λaZ=>
 ∃S3:World->Prop,S3 aZ/\
 zQf p0 λfG=>
 ∃iJ:SV,(∀w',S3 w'->w'.cell? (fG.add 8)=some (iJ.v))/\
 ∃gq,iJ.a=some gq/\0<=(1:Int)/\(1:Int)<(iJ.len:Int)/\
 ∃iH:SV,(∀w',S3 w'->w'.cell? (gq.add ((1:Int).toNat * 1))=some (iH.v))/\
 zQf p0 λgp=>
 ∃oA,(∀w',S3 w'->w'.cell? ((gp.add 2).add 0)=some (.int .i64 oA))/\
 ∃gX:SV,(∀w',S3 w'->w'.cell? ((gp.add 2).add 1)=some (gX.v))/\
 ∃gY:SV,(∀w',S3 w'->w'.cell? ((gp.add 2).add 2)=some (gY.v))/\
 Calls prog 112 #[.agg #[.int .i64 oA,gX.v,gY.v],fR.v] aZ λe bA=>
 ∃qk:SV,e=.returned (qk.v)/\
 S3 bA/\
 Calls prog 111 #[.int .u8 99,qk.v] bA λe bY=>
 ∃kX:SV,e=.returned (kX.v)/\
 S3 bY/\
 Calls prog 84 #[.pointer p0,.agg #[.int .i64 1,.int .i64 (iH.len:Int),kX.v]] bY λe ce=>
 e=.returned (.tuple #[])/\
 dwE ce λcf=>
 ∃S4:World->Prop,S4 cf/\
 zQf p0 λa21=>
 ∃jJ:SV,(∀w',S4 w'->w'.cell? (a21.add 6)=some (jJ.v))/\
 zQf p0 λkP=>
 ∃cn,(∀w',S4 w'->w'.cell? ((kP.add 2).add 0)=some (.int .i64 cn))/\
 ∃gZ:SV,(∀w',S4 w'->w'.cell? ((kP.add 2).add 1)=some (gZ.v))/\
 ∃hC:SV,(∀w',S4 w'->w'.cell? ((kP.add 2).add 2)=some (hC.v))/\
 Calls prog 56 #[.agg #[.int .i64 cn,gZ.v,hC.v]] cf λe cy=>
 ∃oB:Int,∃hH:SV,∃hM:SV,e=.returned (.agg #[.int .i64 oB,hH.v,hM.v])/\
 S4 cy/\
 alE (.cells #[.int .i64 oB,hH.v,hM.v] 35) cy λr64 cS=>
 S4 cS/\
 ∃e9:SV,∃eG,(Builtin.append_ #[106,106] 106 #[jJ.v,.slice (some ⟨r64,0,none⟩) 1 1]).run prog cS=.ok (e9.v) eG/\
 zQf p0 λwv=>
 st1 (wv.add 6) (e9.v) eG λfW=>
 dwE fW λdN=>
 ∃S5:World->Prop,S5 dN/\
 zQf p0 λuo=>
 ∃iw:SV,(∀w',S5 w'->w'.cell? (uo.add 10)=some (iw.v))/\
 zQf p0 λpb=>
 ∃jy:SV,(∀w',S5 w'->w'.cell? (pb.add 9)=some (jy.v))/\
 alE (.cells #[.int .i64 (jy.len:Int)] 3) dN λwy eD=>
 S5 eD/\
 ∃kx:SV,∃ft,(Builtin.append_ #[52,52] 52 #[iw.v,.slice (some ⟨wy,0,none⟩) 1 1]).run prog eD=.ok (kx.v) ft/\
 zQf p0 λzQ=>
 st1 (zQ.add 10) (kx.v) ft λdO=>
 zQd prog ds dO λjx=>
 R (.returned (.tuple #[])) jx))
theorem F79_p:Pl prog f79 [pS 0] F79_1:=λR=>
 lf
theorem yWD (p0:Option Addr) (w:World) (R:Rt) (h:F79_1 R p0 [] w):Calls prog 79 #[.pointer p0] w R:=
 plC F79_p func79 h
def F81_1(R:Rt)(p0:Option Addr)(n1:Int)(ds:Ds)(w:World):Prop:=
 Br (decide (n1 >= 1)) (
 zQf p0 λa1=>
 ∃eo:SV,w.cell? ((a1.add 2).add 2)=some (eo.v)/\
 zQd prog ds w λw2=>
 R (.returned (.bool (decide (n1<=(eo.len:Int))))) w2) (
 zQd prog ds w λw3=>
 R (.returned (.bool false)) w3)
theorem F81_p:Pl prog f81 [pS 0,iS 1] F81_1:=λR=>
 lf
theorem yWj (p0:Option Addr) (n1:Int) (w:World) (R:Rt) (h:F81_1 R p0 n1 [] w):Calls prog 81 #[.pointer p0,.int .i64 n1] w R:=
 plC F81_p func81 h
end Go.Proofs.YtaeecpjhfmcliaaGreatDoor
/- Shallow texts of functions, printed by program, each checked by the kernel against the loaded code. No condition. -/
namespace Go.Proofs.YtaeecpjhfmcliaaGreatDoor
open Go.Sh Tryz
def F34_1(R:Rt)(p0:Option Addr)(ee:Bool)(aW:SV)(ds:Ds)(w:World):Prop:=
 alE (.cells #[.bool ee,aW.v] 67) w λr3 w1=>
 Calls prog 55 #[.pointer p0] w1 λe w2=>
 ∃jl:Value,∃bV:Int,e=.returned (.tuple #[jl,.int .i64 bV])/\
 fnE jl λfx firstx capx=>
 Br (bV != 0) (
 zQd prog ({ target:=.fn (.func fx) capx,args:=(firstx.toList ++ ([]:List Value)).toArray } :: ds) w2 λw3=>
 R (.returned (.tuple #[.int .i64 0,.int .i64 bV])) w3) (
 zQf p0 λa4=>
 ∃cj:SV,w2.cell? ((a4.add 2).add 2)=some (cj.v)/\
 Br (decide ((cj.len:Int) >= 300)) (
 zQd prog ({ target:=.fn (.func fx) capx,args:=(firstx.toList ++ ([]:List Value)).toArray } :: ds) w2 λw5=>
 R (.returned (.tuple #[.int .i64 0,.int .i64 3])) w5) (
 ∃oC,w2.cell? ((⟨r3,0,none⟩:Addr).add 0)=some (.bool oC)/\
 ∃bg:SV,w2.cell? ((⟨r3,0,none⟩:Addr).add 1)=some (bg.v)/\
 Calls prog 77 #[.pointer p0,.agg #[.bool oC,bg.v]] w2 λe w6=>
 ∃n27:Int,e=.returned (.int .i64 n27)/\
 Br (n27 != 0) (
 zQd prog ({ target:=.fn (.func fx) capx,args:=(firstx.toList ++ ([]:List Value)).toArray } :: ds) w6 λw7=>
 R (.returned (.tuple #[.int .i64 0,.int .i64 n27])) w7) (
 dwE w6 λw8=>
 ∃S1:World->Prop,S1 w8/\
 zQf p0 λa9=>
 ∃dV:SV,(∀w',S1 w'->w'.cell? ((a9.add 2).add 2)=some (dV.v))/\
 ∃x6,(∀w',S1 w'->w'.cell? (⟨r3,0,none⟩:Addr)=some (.bool x6))/\
 ∃bp:SV,(∀w',S1 w'->w'.cell? ((⟨r3,0,none⟩:Addr).add 1)=some (bp.v))/\
 Calls prog 78 #[bp.v] w8 λe aM=>
 ∃iJ:SV,e=.returned (iJ.v)/\
 S1 aM/\
 alE (.cells #[.bool x6,iJ.v] 67) aM λzR aQ=>
 S1 aQ/\
 ∃ql:SV,∃aR,(Builtin.append_ #[33,33] 33 #[dV.v,.slice (some ⟨zR,0,none⟩) 1 1]).run prog aQ=.ok (ql.v) aR/\
 zQf p0 λjS=>
 st1 ((jS.add 2).add 2) (ql.v) aR λbI=>
 Calls prog 79 #[.pointer p0] bI λe bv=>
 e=.returned (.tuple #[])/\
 zQf p0 λgp=>
 ∃tN:SV,bv.cell? ((gp.add 2).add 2)=some (tN.v)/\
 zQd prog ({ target:=.fn (.func fx) capx,args:=(firstx.toList ++ ([]:List Value)).toArray } :: ds) bv λbA=>
 R (.returned (.tuple #[.int .i64 (tN.len:Int),.int .i64 0])) bA)))
theorem F34_p:Pl prog f34 [pS 0,aS 1 [.bool,.slice]] F34_1:=λR=>
 lf
theorem yKF (p0:Option Addr) (ee:Bool) (aW:SV) (w:World) (R:Rt) (h:F34_1 R p0 ee aW [] w):Calls prog 34 #[.pointer p0,.agg #[.bool ee,aW.v]] w R:=
 plC F34_p func34 h
def F38_1(R:Rt)(p0:Option Addr)(n1:Int)(me:Bool)(jm:SV)(ds:Ds)(w:World):Prop:=
 alE (.cells #[.bool me,jm.v] 67) w λr5 w1=>
 Calls prog 55 #[.pointer p0] w1 λe w2=>
 ∃oD:Value,∃eZ:Int,e=.returned (.tuple #[oD,.int .i64 eZ])/\
 fnE oD λfx firstx capx=>
 Br (eZ != 0) (
 zQd prog ({ target:=.fn (.func fx) capx,args:=(firstx.toList ++ ([]:List Value)).toArray } :: ds) w2 λw3=>
 R (.returned (.int .i64 eZ)) w3) (
 Calls prog 81 #[.pointer p0,.int .i64 n1] w2 λe w4=>
 ∃nN:Bool,e=.returned (.bool nN)/\
 Br (!nN) (
 zQd prog ({ target:=.fn (.func fx) capx,args:=(firstx.toList ++ ([]:List Value)).toArray } :: ds) w4 λw5=>
 R (.returned (.int .i64 4)) w5) (
 ∃oE,w4.cell? ((⟨r5,0,none⟩:Addr).add 0)=some (.bool oE)/\
 ∃cR:SV,w4.cell? ((⟨r5,0,none⟩:Addr).add 1)=some (cR.v)/\
 Calls prog 77 #[.pointer p0,.agg #[.bool oE,cR.v]] w4 λe w6=>
 ∃n25:Int,e=.returned (.int .i64 n25)/\
 Br (n25 != 0) (
 zQd prog ({ target:=.fn (.func fx) capx,args:=(firstx.toList ++ ([]:List Value)).toArray } :: ds) w6 λw7=>
 R (.returned (.int .i64 n25)) w7) (
 dwE w6 λw8=>
 ∃S1:World->Prop,S1 w8/\
 zQf p0 λa9=>
 ∃d7:SV,(∀w',S1 w'->w'.cell? ((a9.add 2).add 2)=some (d7.v))/\
 ∃nM,(∀w',S1 w'->w'.cell? (⟨r5,0,none⟩:Addr)=some (.bool nM))/\
 ∃jA:SV,(∀w',S1 w'->w'.cell? ((⟨r5,0,none⟩:Addr).add 1)=some (jA.v))/\
 Calls prog 78 #[jA.v] w8 λe aM=>
 ∃bp:SV,e=.returned (bp.v)/\
 S1 aM/\
 ∃cT,d7.a=some cT/\0<=(IntKind.i64.wrap (n1 - 1))/\(IntKind.i64.wrap (n1 - 1))<(d7.len:Int)/\
 stA prog 67 (cT.add ((IntKind.i64.wrap (n1 - 1)).toNat * 2)) #[.bool nM,bp.v] aM λaR=>
 Calls prog 79 #[.pointer p0] aR λe aZ=>
 e=.returned (.tuple #[])/\
 zQd prog ({ target:=.fn (.func fx) capx,args:=(firstx.toList ++ ([]:List Value)).toArray } :: ds) aZ λbI=>
 R (.returned (.int .i64 0)) bI)))
theorem F38_p:Pl prog f38 [pS 0,iS 1,aS 2 [.bool,.slice]] F38_1:=λR=>
 lf
theorem yVe (p0:Option Addr) (n1:Int) (me:Bool) (jm:SV) (w:World) (R:Rt) (h:F38_1 R p0 n1 me jm [] w):Calls prog 38 #[.pointer p0,.int .i64 n1,.agg #[.bool me,jm.v]] w R:=
 plC F38_p func38 h
def F39_1(R:Rt)(p0:Option Addr)(n1:Int)(b2:Bool)(ds:Ds)(w:World):Prop:=
 Calls prog 55 #[.pointer p0] w λe w1=>
 ∃jl:Value,∃bV:Int,e=.returned (.tuple #[jl,.int .i64 bV])/\
 fnE jl λfx firstx capx=>
 Br (bV != 0) (
 zQd prog ({ target:=.fn (.func fx) capx,args:=(firstx.toList ++ ([]:List Value)).toArray } :: ds) w1 λw2=>
 R (.returned (.int .i64 bV)) w2) (
 Calls prog 81 #[.pointer p0,.int .i64 n1] w1 λe w3=>
 ∃x7:Bool,e=.returned (.bool x7)/\
 Br (!x7) (
 zQd prog ({ target:=.fn (.func fx) capx,args:=(firstx.toList ++ ([]:List Value)).toArray } :: ds) w3 λw4=>
 R (.returned (.int .i64 4)) w4) (
 zQf p0 λa5=>
 ∃dy:SV,w3.cell? ((a5.add 2).add 2)=some (dy.v)/\
 ∃a6,dy.a=some a6/\0<=(IntKind.i64.wrap (n1 - 1))/\(IntKind.i64.wrap (n1 - 1))<(dy.len:Int)/\
 st1 (a6.add ((IntKind.i64.wrap (n1 - 1)).toNat * 2)) (.bool b2) w3 λw7=>
 Calls prog 79 #[.pointer p0] w7 λe w8=>
 e=.returned (.tuple #[])/\
 zQd prog ({ target:=.fn (.func fx) capx,args:=(firstx.toList ++ ([]:List Value)).toArray } :: ds) w8 λw9=>
 R (.returned (.int .i64 0)) w9))
theorem F39_p:Pl prog f39 [pS 0,iS 1,bS 2] F39_1:=λR=>
 lf
theorem yWm (p0:Option Addr) (n1:Int) (b2:Bool) (w:World) (R:Rt) (h:F39_1 R p0 n1 b2 [] w):Calls prog 39 #[.pointer p0,.int .i64 n1,.bool b2] w R:=
 plC F39_p func39 h
def F40_1(R:Rt)(p0:Option Addr)(n1:Int)(s2:ByteArray)(mf jF:Int)(mg:ByteArray)(ds:Ds)(w:World):Prop:=
 alE (.cells #[.int .i64 mf,.int .i64 jF,.string mg] 73) w λr7 w1=>
 Calls prog 55 #[.pointer p0] w1 λe w2=>
 ∃oF:Value,∃ed:Int,e=.returned (.tuple #[oF,.int .i64 ed])/\
 fnE oF λfx firstx capx=>
 Br (ed != 0) (
 zQd prog ({ target:=.fn (.func fx) capx,args:=(firstx.toList ++ ([]:List Value)).toArray } :: ds) w2 λw3=>
 R (.returned (.int .i64 ed)) w3) (
 zQf p0 λa4=>
 ∃bZ:SV,w2.cell? ((a4.add 2).add 1)=some (bZ.v)/\
 Calls prog 82 #[bZ.v,.string s2] w2 λe w5=>
 ∃dT:Int,∃oG:Bool,e=.returned (.tuple #[.int .i64 dT,.bool oG])/\
 Br (!oG) (
 zQd prog ({ target:=.fn (.func fx) capx,args:=(firstx.toList ++ ([]:List Value)).toArray } :: ds) w5 λw6=>
 R (.returned (.int .i64 4)) w6) (
 Calls prog 81 #[.pointer p0,.int .i64 n1] w5 λe w7=>
 ∃nM:Bool,e=.returned (.bool nM)/\
 Br (!nM) (
 zQd prog ({ target:=.fn (.func fx) capx,args:=(firstx.toList ++ ([]:List Value)).toArray } :: ds) w7 λw8=>
 R (.returned (.int .i64 4)) w8) (
 dwE w7 λw9=>
 zQf p0 λej=>
 ∃lG:SV,w9.cell? ((ej.add 2).add 1)=some (lG.v)/\
 ∃cT,lG.a=some cT/\0<=dT/\dT<(lG.len:Int)/\
 ∃oH,w9.cell? ((cT.add (dT.toNat * 4)).add 0)=some (.string oH)/\
 ∃oI,w9.cell? ((cT.add (dT.toNat * 4)).add 1)=some (.int .i64 oI)/\
 ∃oJ,w9.cell? ((cT.add (dT.toNat * 4)).add 2)=some (.int .i64 oJ)/\
 ∃oK,w9.cell? ((cT.add (dT.toNat * 4)).add 3)=some (.bool oK)/\
 zQf p0 λjs=>
 ∃i7,w9.cell? (js.add 2)=some (.int .i64 i7)/\
 ∃jn,w9.cell? ((⟨r7,0,none⟩:Addr).add 0)=some (.int .i64 jn)/\
 ∃jo,w9.cell? ((⟨r7,0,none⟩:Addr).add 1)=some (.int .i64 jo)/\
 ∃oL,w9.cell? ((⟨r7,0,none⟩:Addr).add 2)=some (.string oL)/\
 Calls prog 83 #[.agg #[.string oH,.int .i64 oI,.int .i64 oJ,.bool oK],.int .i64 i7,.agg #[.int .i64 jn,.int .i64 jo,.string oL]] w9 λe aZ=>
 ∃j3:Int,∃j4:Int,∃j5:ByteArray,∃gM:Int,e=.returned (.tuple #[.agg #[.int .i64 j3,.int .i64 j4,.string j5],.int .i64 gM])/\
 stA prog 73 (⟨r7,0,none⟩:Addr) #[.int .i64 j3,.int .i64 j4,.string j5] aZ λbI=>
 Br (gM != 0) (
 zQd prog ({ target:=.fn (.func fx) capx,args:=(firstx.toList ++ ([]:List Value)).toArray } :: ds) bI λbv=>
 R (.returned (.int .i64 gM)) bv) (
 dwE bI λbK=>
 zQf p0 λqb=>
 ∃e9:SV,bK.cell? ((qb.add 2).add 2)=some (e9.v)/\
 ∃iG,e9.a=some iG/\0<=(IntKind.i64.wrap (n1 - 1))/\(IntKind.i64.wrap (n1 - 1))<(e9.len:Int)/\
 ∃iv:SV,bK.cell? ((iG.add ((IntKind.i64.wrap (n1 - 1)).toNat * 2)).add 1)=some (iv.v)/\
 ∃oM,bK.cell? ((⟨r7,0,none⟩:Addr).add 0)=some (.int .i64 oM)/\
 ∃oN,bK.cell? ((⟨r7,0,none⟩:Addr).add 1)=some (.int .i64 oN)/\
 ∃oO,bK.cell? ((⟨r7,0,none⟩:Addr).add 2)=some (.string oO)/\
 ∃lC,iv.a=some lC/\0<=dT/\dT<(iv.len:Int)/\
 stA prog 73 (lC.add (dT.toNat * 3)) #[.int .i64 oM,.int .i64 oN,.string oO] bK λcf=>
 Calls prog 79 #[.pointer p0] cf λe bt=>
 e=.returned (.tuple #[])/\
 zQd prog ({ target:=.fn (.func fx) capx,args:=(firstx.toList ++ ([]:List Value)).toArray } :: ds) bt λeu=>
 R (.returned (.int .i64 0)) eu))))
theorem F40_p:Pl prog f40 [pS 0,iS 1,sS 2,aS 3 [.int .i64,.int .i64,.str]] F40_1:=λR=>
 lf
theorem yQn (p0:Option Addr) (n1:Int) (s2:ByteArray) (mf jF:Int) (mg:ByteArray) (w:World) (R:Rt) (h:F40_1 R p0 n1 s2 mf jF mg [] w):Calls prog 40 #[.pointer p0,.int .i64 n1,.string s2,.agg #[.int .i64 mf,.int .i64 jF,.string mg]] w R:=
 plC F40_p func40 h
def F41_1(R:Rt)(ds:Ds)(w:World):Prop:=
 zQd prog ds w λw1=>
 R (.returned (.int .i64 0)) w1
def F41_2 (R:Rt) (J1:(Int)->World->Prop) (p0:Option Addr) (lH:SV) (fj kG:Int) (ds:Ds) (w:World):Prop:=
 Br (decide (kG<fj)) (
 ∃a2,lH.a=some a2/\0<=kG/\kG<(lH.len:Int)/\
 ∃jn,w.cell? ((a2.add (kG.toNat * 3)).add 0)=some (.int .i64 jn)/\
 ∃jo,w.cell? ((a2.add (kG.toNat * 3)).add 1)=some (.int .i64 jo)/\
 ∃hZ:SV,w.cell? ((a2.add (kG.toNat * 3)).add 2)=some (hZ.v)/\
 alE (.cells #[.int .i64 0,.int .i64 0,.slice none 0 0] 90) w λr6 w3=>
 stA prog 90 (⟨r6,0,none⟩:Addr) #[.int .i64 jn,.int .i64 jo,hZ.v] w3 λw4=>
 ∃oP,w4.cell? ((⟨r6,0,none⟩:Addr).add 0)=some (.int .i64 oP)/\
 ∃oQ,w4.cell? ((⟨r6,0,none⟩:Addr).add 1)=some (.int .i64 oQ)/\
 ∃ia:SV,w4.cell? ((⟨r6,0,none⟩:Addr).add 2)=some (ia.v)/\
 Calls prog 84 #[.pointer p0,.agg #[.int .i64 oP,.int .i64 oQ,ia.v]] w4 λe w5=>
 e=.returned (.tuple #[])/\
 J1 (IntKind.i64.wrap (kG+1)) w5) (
 F41_1 R ds w)
def F41_3(R:Rt)(p0:Option Addr)(lH:SV)(fj kG:Int)(ds:Ds)(w:World):Prop:=
 zQW (λ(J1:(Int)->World->Prop) (s:Int) (w:World)=>F41_2 R J1 p0 lH fj s ds w) kG w
def F41_5(R:Rt)(p0:Option Addr)(ds:Ds)(w:World):Prop:=
 Calls prog 55 #[.pointer p0] w λe w6=>
 ∃jk:Value,∃cb:Int,e=.returned (.tuple #[jk,.int .i64 cb])/\
 fnE jk λfx firstx capx=>
 Br (cb != 0) (
 zQd prog ({ target:=.fn (.func fx) capx,args:=(firstx.toList ++ ([]:List Value)).toArray } :: ds) w6 λw7=>
 R (.returned (.int .i64 cb)) w7) (
 zQf p0 λa8=>
 ∃cu:SV,w6.cell? (a8.add 5)=some (cu.v)/\
 Br (decide ((cu.len:Int) > 0)) (
 zQd prog ({ target:=.fn (.func fx) capx,args:=(firstx.toList ++ ([]:List Value)).toArray } :: ds) w6 λw9=>
 R (.returned (.int .i64 9)) w9) (
 zQf p0 λej=>
 ∃ct:SV,w6.cell? (ej.add 8)=some (ct.v)/\
 ∃cT,ct.a=some cT/\0<=(1:Int)/\(1:Int)<(ct.len:Int)/\
 ∃bZ:SV,w6.cell? (cT.add ((1:Int).toNat * 1))=some (bZ.v)/\
 Br ((bZ.len:Int) == 0) (
 zQd prog ({ target:=.fn (.func fx) capx,args:=(firstx.toList ++ ([]:List Value)).toArray } :: ds) w6 λaR=>
 R (.returned (.int .i64 0)) aR) (
 dwE w6 λaZ=>
 ∃S1:World->Prop,S1 aZ/\
 zQf p0 λfG=>
 ∃jd:SV,(∀w',S1 w'->w'.cell? (fG.add 8)=some (jd.v))/\
 ∃gq,jd.a=some gq/\0<=(1:Int)/\(1:Int)<(jd.len:Int)/\
 ∃dV:SV,(∀w',S1 w'->w'.cell? (gq.add ((1:Int).toNat * 1))=some (dV.v))/\
 zQf p0 λgp=>
 ∃jg,(∀w',S1 w'->w'.cell? ((gp.add 2).add 0)=some (.int .i64 jg))/\
 ∃cJ:SV,(∀w',S1 w'->w'.cell? ((gp.add 2).add 1)=some (cJ.v))/\
 ∃cK:SV,(∀w',S1 w'->w'.cell? ((gp.add 2).add 2)=some (cK.v))/\
 Calls prog 85 #[.agg #[.int .i64 jg,cJ.v,cK.v]] aZ λe bA=>
 ∃lj:SV,e=.returned (lj.v)/\
 S1 bA/\
 Calls prog 84 #[.pointer p0,.agg #[.int .i64 1,.int .i64 (dV.len:Int),lj.v]] bA λe bY=>
 e=.returned (.tuple #[])/\
 zQf p0 λlC=>
 ∃iV:SV,bY.cell? (lC.add 8)=some (iV.v)/\
 Calls prog 48 #[iV.v] bY λe cf=>
 ∃lH:SV,e=.returned (lH.v)/\
 F41_3 R p0 lH (lH.len:Int) 0 ({ target:=.fn (.func fx) capx,args:=(firstx.toList ++ ([]:List Value)).toArray } :: ds) cf)))
theorem F41_p:Pl prog f41 [pS 0] F41_5:=λR=>
 pc 11 (rest [pS 0,lS 49,iS 50,iS 51] (F41_3 R) (bk 0 (rest [] (F41_1 R) lf) (lp [iS 51] [pS 0,lS 49,iS 50,iS 51] (F41_2 R) zZU λJ1=>lf)))
theorem yV8 (p0:Option Addr) (w:World) (R:Rt) (h:F41_5 R p0 [] w):Calls prog 41 #[.pointer p0] w R:=
 plC F41_p func41 h
end Go.Proofs.YtaeecpjhfmcliaaGreatDoor
/- Shallow texts of functions, printed by program, each checked by the kernel against the loaded code. No condition. -/
namespace Go.Proofs.YtaeecpjhfmcliaaGreatDoor
open Go.Sh Tryz
end Go.Proofs.YtaeecpjhfmcliaaGreatDoor
/- Shallow texts of functions, printed by program, each checked by the kernel against the loaded code. No condition. -/
namespace Go.Proofs.YtaeecpjhfmcliaaGreatDoor
open Go.Sh Tryz
def F44_1(R:Rt)(p2 p3:Option Addr)(ds:Ds)(w:World):Prop:=
 zQf p3 λa1=>
 ∃du,w.cell? (a1.add 0)=some (.int .i64 du)/\
 ∃bg:SV,w.cell? (a1.add 1)=some (bg.v)/\
 ∃bE:SV,w.cell? (a1.add 2)=some (bE.v)/\
 zQf p2 λa2=>
 stA prog 35 a2 #[.int .i64 du,bg.v,bE.v] w λw3=>
 zQd prog ds w3 λw4=>
 zQf p2 λa5=>
 ∃ag,w4.cell? (a5.add 0)=some (.int .i64 ag)/\
 ∃ab:SV,w4.cell? (a5.add 1)=some (ab.v)/\
 ∃ae:SV,w4.cell? (a5.add 2)=some (ae.v)/\
 R (.returned (.agg #[.int .i64 ag,ab.v,ae.v])) w4
def F44_2 (R:Rt) (J1:(Int)->World->Prop) (l0:SV) (p2 p3:Option Addr) (n4:Int) (ds:Ds) (w:World):Prop:=
 Br (decide (n4<(l0.len:Int))) (
 dwE w λw6=>
 ∃S1:World->Prop,S1 w6/\
 zQf p3 λa7=>
 ∃cZ:SV,(∀w',S1 w'->w'.cell? (a7.add 2)=some (cZ.v))/\
 ∃a8,l0.a=some a8/\0<=n4/\n4<(l0.len:Int)/\
 ∃jz,(∀w',S1 w'->w'.cell? (a8.add (n4.toNat * 1))=some (.int .i64 jz))/\
 Calls prog 45 #[.int .i64 jz] w6 λe w9=>
 ∃dc:Int,∃bQ:Int,∃dd:ByteArray,e=.returned (.agg #[.int .i64 dc,.int .i64 bQ,.string dd])/\
 S1 w9/\
 alE (.cells #[.int .i64 dc,.int .i64 bQ,.string dd] 73) w9 λtO aM=>
 S1 aM/\
 alE (.cells #[.bool false,.slice (some ⟨tO,0,none⟩) 1 1] 67) aM λul aQ=>
 S1 aQ/\
 ∃bw:SV,∃aR,(Builtin.append_ #[33,33] 33 #[cZ.v,.slice (some ⟨ul,0,none⟩) 1 1]).run prog aQ=.ok (bw.v) aR/\
 zQf p3 λjS=>
 st1 (jS.add 2) (bw.v) aR λbI=>
 J1 (IntKind.i64.wrap (n4+1)) bI) (
 F44_1 R p2 p3 ds w)
def F44_3(R:Rt)(l0:SV)(p2 p3:Option Addr)(n4:Int)(ds:Ds)(w:World):Prop:=
 zQW (λ(J1:(Int)->World->Prop) (s:Int) (w:World)=>F44_2 R J1 l0 p2 p3 s ds w) n4 w
def F44_5(R:Rt)(l0:SV)(ds:Ds)(w:World):Prop:=
 alE (.cells #[.int .i64 0,.slice none 0 0,.slice none 0 0] 35) w λr2 bv=>
 alE (.cells #[.string (⟨#[78]⟩:ByteArray),.int .i64 2,.int .i64 3,.bool false] 129) bv λr6 bK=>
 alE (.cells #[.int .i64 0,.slice none 0 0,.slice none 0 0] 35) bK λr3 bA=>
 stA prog 35 (⟨r3,0,none⟩:Addr) #[.int .i64 0,.slice (some ⟨r6,0,none⟩) 1 1,.slice none 0 0] bA λbY=>
 F44_3 R l0 (some (⟨r2,0,none⟩:Addr)) (some (⟨r3,0,none⟩:Addr)) 0 ds bY
theorem F44_p:Pl prog f44 [lS 0] F44_5:=λR=>
 pc 3 (rest [lS 0,pS 2,pS 3,iS 4] (F44_3 R) (bk 0 (rest [pS 2,pS 3] (F44_1 R) lf) (lp [iS 4] [lS 0,pS 2,pS 3,iS 4] (F44_2 R) zZU λJ1=>lf)))
theorem yVC (l0:SV) (w:World) (R:Rt) (h:F44_5 R l0 [] w):Calls prog 44 #[l0.v] w R:=
 plC F44_p func44 h
def yQa(R:Rt)(p1:Option Addr)(tG:Bool)(ds:Ds)(w:World):Prop:=
 Br tG (
 zQd prog ds w λw1=>
 R (.returned (.bool false)) w1) (
 Calls prog 27 #[.pointer p1,.int .i64 1] w λe w2=>
 ∃j6:Int,∃dG:SV,∃dH:SV,∃oR:Int,e=.returned (.tuple #[.agg #[.int .i64 j6,dG.v,dH.v],.int .i64 oR])/\
 alE (.cells #[.int .i64 0,.slice none 0 0,.slice none 0 0] 35) w2 λr3 w3=>
 stA prog 35 (⟨r3,0,none⟩:Addr) #[.int .i64 j6,dG.v,dH.v] w3 λw4=>
 dwE w4 λw5=>
 ∃S1:World->Prop,S1 w5/\
 Br (oR == 0) (
 Calls prog 22 #[.pointer p1] w5 λe w6=>
 ∃x8:Int,e=.returned (.int .i64 x8)/\
 S1 w6/\
 Br (x8 == 1) (
 ∃oS,(∀w',S1 w'->w'.cell? ((⟨r3,0,none⟩:Addr).add 0)=some (.int .i64 oS))/\
 ∃ib:SV,(∀w',S1 w'->w'.cell? ((⟨r3,0,none⟩:Addr).add 1)=some (ib.v))/\
 ∃ic:SV,(∀w',S1 w'->w'.cell? ((⟨r3,0,none⟩:Addr).add 2)=some (ic.v))/\
 alE (.cells #[.int .i64 5,.int .i64 2] 3) w6 λzS w7=>
 S1 w7/\
 Calls prog 44 #[.slice (some ⟨zS,0,none⟩) 2 2] w7 λe w8=>
 ∃oT:Int,∃ie:SV,∃ig:SV,e=.returned (.agg #[.int .i64 oT,ie.v,ig.v])/\
 S1 w8/\
 Calls prog 18 #[.agg #[.int .i64 oS,ib.v,ic.v],.agg #[.int .i64 oT,ie.v,ig.v]] w8 λe w9=>
 ∃ri:Bool,e=.returned (.bool ri)/\
 S1 w9/\
 Br ri (
 ∃oU,(∀w',S1 w'->w'.cell? ((⟨r3,0,none⟩:Addr).add 0)=some (.int .i64 oU))/\
 ∃ii:SV,(∀w',S1 w'->w'.cell? ((⟨r3,0,none⟩:Addr).add 1)=some (ii.v))/\
 ∃ij:SV,(∀w',S1 w'->w'.cell? ((⟨r3,0,none⟩:Addr).add 2)=some (ij.v))/\
 Calls prog 14 #[.pointer p1] w9 λe aM=>
 ∃oV:Int,∃ik:SV,∃il:SV,e=.returned (.agg #[.int .i64 oV,ik.v,il.v])/\
 S1 aM/\
 Calls prog 18 #[.agg #[.int .i64 oV,ik.v,il.v],.agg #[.int .i64 oU,ii.v,ij.v]] aM λe aQ=>
 ∃rk:Bool,e=.returned (.bool rk)/\
 zQd prog ds aQ λaR=>
 R (.returned (.bool rk)) aR) (
 zQd prog ds w9 λaZ=>
 R (.returned (.bool false)) aZ)) (
 zQd prog ds w6 λbI=>
 R (.returned (.bool false)) bI)) (
 zQd prog ds w5 λbv=>
 R (.returned (.bool false)) bv))
def F10_2(R:Rt)(p1:Option Addr)(n2:Int)(ds:Ds)(w:World):Prop:=
 Br (n2 != 0) (
 yQa R p1 true ds w) (
 Calls prog 35 #[.pointer p1] w λe bK=>
 ∃iP:Int,e=.returned (.int .i64 iP)/\
 Br (iP != 0) (
 yQa R p1 true ds bK) (
 Calls prog 45 #[.int .i64 5] bK λe bA=>
 ∃dc:Int,∃bQ:Int,∃dd:ByteArray,e=.returned (.agg #[.int .i64 dc,.int .i64 bQ,.string dd])/\
 Calls prog 40 #[.pointer p1,.int .i64 1,.string (⟨#[78]⟩:ByteArray),.agg #[.int .i64 dc,.int .i64 bQ,.string dd]] bA λe bY=>
 ∃kk:Int,e=.returned (.int .i64 kk)/\
 Br (kk != 0) (
 yQa R p1 true ds bY) (
 Calls prog 35 #[.pointer p1] bY λe ce=>
 ∃bo:Int,e=.returned (.int .i64 bo)/\
 Br (bo != 0) (
 yQa R p1 true ds ce) (
 Calls prog 45 #[.int .i64 6] ce λe cf=>
 ∃de:Int,∃i8:Int,∃i9:ByteArray,e=.returned (.agg #[.int .i64 de,.int .i64 i8,.string i9])/\
 Calls prog 40 #[.pointer p1,.int .i64 2,.string (⟨#[78]⟩:ByteArray),.agg #[.int .i64 de,.int .i64 i8,.string i9]] cf λe bt=>
 ∃ro:Int,e=.returned (.int .i64 ro)/\
 Br (ro != 0) (
 yQa R p1 true ds bt) (
 Calls prog 37 #[.pointer p1] bt λe eu=>
 ∃n37:Int,e=.returned (.int .i64 n37)/\
 Br (n37 != 0) (
 yQa R p1 true ds eu) (
 Calls prog 36 #[.pointer p1] eu λe cy=>
 ∃ki:Int,e=.returned (.int .i64 ki)/\
 yQa R p1 (ki != 0) ds cy))))))
def F10_3(R:Rt)(ds:Ds)(w:World):Prop:=
 alE (.cells #[.int .i64 1,.int .i64 2] 3) w λr6 cS=>
 Calls prog 44 #[.slice (some ⟨r6,0,none⟩) 2 2] cS λe eG=>
 ∃c8:Int,∃bN:SV,∃bu:SV,e=.returned (.agg #[.int .i64 c8,bN.v,bu.v])/\
 Calls prog 43 #[.agg #[.int .i64 c8,bN.v,bu.v]] eG λe dB=>
 ∃sw:Option Addr,∃gi:Int,e=.returned (.tuple #[.pointer sw,.int .i64 gi])/\
 F10_2 R sw gi ds dB
theorem F10_p:Pl prog f10 [] F10_3:=λR=>
 pc 2 (rest [pS 1,iS 2] (F10_2 R) (pc 1 (rest [pS 1,bS 44] (yQa R) lf)))
theorem yVk  (w:World) (R:Rt) (h:F10_3 R [] w):Calls prog 10 #[] w R:=
 plC F10_p func10 h
end Go.Proofs.YtaeecpjhfmcliaaGreatDoor
/- Shallow texts of functions, printed by program, each checked by the kernel against the loaded code. No condition. -/
namespace Go.Proofs.YtaeecpjhfmcliaaGreatDoor
open Go.Sh Tryz
end Go.Proofs.YtaeecpjhfmcliaaGreatDoor
/- Shallow texts of functions, printed by program, each checked by the kernel against the loaded code. No condition. -/
namespace Go.Proofs.YtaeecpjhfmcliaaGreatDoor
open Go.Sh Tryz
def xQt(R:Rt)(b2:Bool)(ds:Ds)(w:World):Prop:=
 zQd prog ds w λw1=>
 R (.returned (.bool b2)) w1
def F8_2(R:Rt)(p3:Option Addr)(ds:Ds)(w:World):Prop:=
 Calls prog 20 #[.pointer p3] w λe w2=>
 ∃x9:Int,e=.returned (.int .i64 x9)/\
 Br (x9 == 0) (
 Calls prog 22 #[.pointer p3] w2 λe w3=>
 ∃sA:Int,e=.returned (.int .i64 sA)/\
 Br (sA == 0) (
 Calls prog 30 #[.pointer p3] w3 λe w4=>
 ∃sB:Int,e=.returned (.int .i64 sB)/\
 Br (sB == 0) (
 Calls prog 29 #[.pointer p3] w4 λe w5=>
 ∃mh:SV,e=.returned (mh.v)/\
 Br ((mh.len:Int) == 0) (
 Calls prog 25 #[.pointer p3] w5 λe w6=>
 ∃mi:SV,e=.returned (mi.v)/\
 Br ((mi.len:Int) == 0) (
 Calls prog 14 #[.pointer p3] w6 λe w7=>
 ∃px:Int,∃iz:SV,∃jN:SV,e=.returned (.agg #[.int .i64 px,iz.v,jN.v])/\
 Br ((iz.len:Int) == 0) (
 Calls prog 10 #[] w7 λe w8=>
 ∃sC:Bool,e=.returned (.bool sC)/\
 xQt R sC ds w8) (
 xQt R false ds w7)) (
 xQt R false ds w6)) (
 xQt R false ds w5)) (
 xQt R false ds w4)) (
 xQt R false ds w3)) (
 xQt R false ds w2)
def xQZ(R:Rt)(p3:Option Addr)(zT:Bool)(ds:Ds)(w:World):Prop:=
 Br zT (
 zQd prog ds w λw9=>
 R (.returned (.bool false)) w9) (
 F8_2 R p3 ds w)
def F8_4(R:Rt)(n0:Int)(p3:Option Addr)(ds:Ds)(w:World):Prop:=
 Calls prog 35 #[.pointer p3] w λe aM=>
 ∃ya:Int,e=.returned (.int .i64 ya)/\
 Br (ya != 9) (
 xQZ R p3 true ds aM) (
 Calls prog 36 #[.pointer p3] aM λe aQ=>
 ∃yb:Int,e=.returned (.int .i64 yb)/\
 Br (yb != 9) (
 xQZ R p3 true ds aQ) (
 Calls prog 37 #[.pointer p3] aQ λe aR=>
 ∃yc:Int,e=.returned (.int .i64 yc)/\
 Br (yc != 9) (
 xQZ R p3 true ds aR) (
 Calls prog 38 #[.pointer p3,.int .i64 n0,.agg #[.bool false,.slice none 0 0]] aR λe aZ=>
 ∃yd:Int,e=.returned (.int .i64 yd)/\
 Br (yd != 9) (
 xQZ R p3 true ds aZ) (
 Calls prog 39 #[.pointer p3,.int .i64 n0,.bool true] aZ λe bI=>
 ∃qJ:Int,e=.returned (.int .i64 qJ)/\
 Br (qJ != 9) (
 xQZ R p3 true ds bI) (
 Calls prog 40 #[.pointer p3,.int .i64 n0,.string (⟨#[]⟩:ByteArray),.agg #[.int .i64 0,.int .i64 0,.string (⟨#[]⟩:ByteArray)]] bI λe bv=>
 ∃qd:Int,e=.returned (.int .i64 qd)/\
 Br (qd != 9) (
 xQZ R p3 true ds bv) (
 Calls prog 41 #[.pointer p3] bv λe bK=>
 ∃ye:Int,e=.returned (.int .i64 ye)/\
 xQZ R p3 (ye != 9) ds bK))))))
def F8_5(R:Rt)(n0:Int)(ds:Ds)(w:World):Prop:=
 Calls prog 34 #[.pointer none,.agg #[.bool false,.slice none 0 0]] w λe bA=>
 ∃e7:Int,∃iU:Int,e=.returned (.tuple #[.int .i64 e7,.int .i64 iU])/\
 Calls prog 27 #[.pointer none,.int .i64 n0] bA λe bY=>
 ∃j7:Int,∃dI:SV,∃dJ:SV,∃bQ:Int,e=.returned (.tuple #[.agg #[.int .i64 j7,dI.v,dJ.v],.int .i64 bQ])/\
 alE (.cells #[.int .i64 0,.slice none 0 0,.slice none 0 0] 35) bY λr6 ce=>
 stA prog 35 (⟨r6,0,none⟩:Addr) #[.int .i64 j7,dI.v,dJ.v] ce λcf=>
 Calls prog 33 #[.pointer none,.int .i64 n0,.int .i64 n0] cf λe bt=>
 ∃j8:SV,∃dA:SV,∃oW:Int,e=.returned (.tuple #[j8.v,dA.v,.int .i64 oW])/\
 Br (e7 != 0) (
 zQd prog ds bt λeu=>
 R (.returned (.bool false)) eu) (
 Br (iU != 9) (
 zQd prog ds bt λcy=>
 R (.returned (.bool false)) cy) (
 ∃jA:SV,bt.cell? ((⟨r6,0,none⟩:Addr).add 1)=some (jA.v)/\
 Br ((jA.len:Int) != 0) (
 zQd prog ds bt λcS=>
 R (.returned (.bool false)) cS) (
 Br (bQ != 9) (
 zQd prog ds bt λeG=>
 R (.returned (.bool false)) eG) (
 Br ((IntKind.i64.wrap ((j8.len:Int)+(dA.len:Int))) != 0) (
 zQd prog ds bt λdB=>
 R (.returned (.bool false)) dB) (
 Br (oW != 9) (
 zQd prog ds bt λfW=>
 R (.returned (.bool false)) fW) (
 F8_4 R n0 none ds bt))))))
theorem F8_p:Pl prog f8 [iS 0] F8_5:=λR=>
 pc 7 (rest [iS 0,pS 3] (F8_4 R) (pc 1 (rest [pS 3,bS 96] (xQZ R) (pc 1 (rest [pS 3] (F8_2 R) (pc 1 (rest [bS 2] (xQt R) lf)))))))
theorem yYz (n0:Int) (w:World) (R:Rt) (h:F8_5 R n0 [] w):Calls prog 8 #[.int .i64 n0] w R:=
 plC F8_p func8 h
end Go.Proofs.YtaeecpjhfmcliaaGreatDoor
