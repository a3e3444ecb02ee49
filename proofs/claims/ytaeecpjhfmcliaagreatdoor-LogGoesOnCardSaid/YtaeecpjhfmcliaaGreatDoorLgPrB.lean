import Derived.Test.YtaeecpjhfmcliaaGreatDoorProg
import Derived.Test.YtaeecpjhfmcliaaGreatDoorShTwentyEight
/- Shallow texts of functions, printed by program, each checked by the kernel against the loaded code. No condition. -/
set_option maxRecDepth 100000
set_option linter.unusedVariables false
namespace Go.Proofs.YtaeecpjhfmcliaaGreatDoor
open Go.Sh Tryz
def F87_1(R:Rt)(l0:SV)(ds:Ds)(w:World):Prop:=
 alE (.cells #[.int .i64 0,.slice none 0 0,.slice none 0 0] 35) w λr2 w1=>
 Calls prog 124 #[l0.v] w1 λe w2=>
 ∃rD:Int,∃i7:SV,∃i8:SV,∃rC:Bool,e=.returned (.tuple #[.agg #[.int .i64 rD,i7.v,i8.v],.bool rC])/\
 alE (.cells #[.int .i64 0,.slice none 0 0,.slice none 0 0] 35) w2 λr4 w3=>
 stA prog 35 (⟨r4,0,none⟩:Addr) #[.int .i64 rD,i7.v,i8.v] w3 λw4=>
 Br (!rC) (
 stA prog 35 (⟨r2,0,none⟩:Addr) #[.int .i64 0,.slice none 0 0,.slice none 0 0] w4 λw5=>
 zQb prog ds w5 λw6=>
 ∃ag,w6.cell? ((⟨r2,0,none⟩:Addr).add 0)=some (.int .i64 ag)/\
 ∃ab:SV,w6.cell? ((⟨r2,0,none⟩:Addr).add 1)=some (ab.v)/\
 ∃ae:SV,w6.cell? ((⟨r2,0,none⟩:Addr).add 2)=some (ae.v)/\
 R (.returned (.tuple #[.agg #[.int .i64 ag,ab.v,ae.v],.int .i64 11])) w6) (
 ∃od,w4.cell? ((⟨r4,0,none⟩:Addr).add 0)=some (.int .i64 od)/\
 ∃cR:SV,w4.cell? ((⟨r4,0,none⟩:Addr).add 1)=some (cR.v)/\
 ∃fA:SV,w4.cell? ((⟨r4,0,none⟩:Addr).add 2)=some (fA.v)/\
 Calls prog 106 #[.agg #[.int .i64 od,cR.v,fA.v]] w4 λe w7=>
 ∃kZ:Int,e=.returned (.int .i64 kZ)/\
 Br (kZ != 0) (
 stA prog 35 (⟨r2,0,none⟩:Addr) #[.int .i64 0,.slice none 0 0,.slice none 0 0] w7 λw8=>
 zQb prog ds w8 λw9=>
 ∃ag,w9.cell? ((⟨r2,0,none⟩:Addr).add 0)=some (.int .i64 ag)/\
 ∃ab:SV,w9.cell? ((⟨r2,0,none⟩:Addr).add 1)=some (ab.v)/\
 ∃ae:SV,w9.cell? ((⟨r2,0,none⟩:Addr).add 2)=some (ae.v)/\
 R (.returned (.tuple #[.agg #[.int .i64 ag,ab.v,ae.v],.int .i64 11])) w9) (
 ∃dH,w7.cell? ((⟨r4,0,none⟩:Addr).add 0)=some (.int .i64 dH)/\
 ∃fC:SV,w7.cell? ((⟨r4,0,none⟩:Addr).add 1)=some (fC.v)/\
 ∃cS:SV,w7.cell? ((⟨r4,0,none⟩:Addr).add 2)=some (cS.v)/\
 Calls prog 123 #[.agg #[.int .i64 dH,fC.v,cS.v]] w7 λe aN=>
 ∃dZ:SV,e=.returned (dZ.v)/\
 Calls prog 125 #[dZ.v,l0.v] aN λe aV=>
 ∃qn:Bool,e=.returned (.bool qn)/\
 Br (!qn) (
 stA prog 35 (⟨r2,0,none⟩:Addr) #[.int .i64 0,.slice none 0 0,.slice none 0 0] aV λaO=>
 zQb prog ds aO λaH=>
 ∃ag,aH.cell? ((⟨r2,0,none⟩:Addr).add 0)=some (.int .i64 ag)/\
 ∃ab:SV,aH.cell? ((⟨r2,0,none⟩:Addr).add 1)=some (ab.v)/\
 ∃ae:SV,aH.cell? ((⟨r2,0,none⟩:Addr).add 2)=some (ae.v)/\
 R (.returned (.tuple #[.agg #[.int .i64 ag,ab.v,ae.v],.int .i64 11])) aH) (
 ∃eQ,aV.cell? ((⟨r4,0,none⟩:Addr).add 0)=some (.int .i64 eQ)/\
 ∃bx:SV,aV.cell? ((⟨r4,0,none⟩:Addr).add 1)=some (bx.v)/\
 ∃cT:SV,aV.cell? ((⟨r4,0,none⟩:Addr).add 2)=some (cT.v)/\
 stA prog 35 (⟨r2,0,none⟩:Addr) #[.int .i64 eQ,bx.v,cT.v] aV λbq=>
 zQb prog ds bq λbp=>
 ∃ag,bp.cell? ((⟨r2,0,none⟩:Addr).add 0)=some (.int .i64 ag)/\
 ∃ab:SV,bp.cell? ((⟨r2,0,none⟩:Addr).add 1)=some (ab.v)/\
 ∃ae:SV,bp.cell? ((⟨r2,0,none⟩:Addr).add 2)=some (ae.v)/\
 R (.returned (.tuple #[.agg #[.int .i64 ag,ab.v,ae.v],.int .i64 0])) bp)))
theorem F87_p:Pl prog f87 [lS 0] F87_1:=λR=>
 lf
theorem xQy (l0:SV) (w:World) (R:Rt) (h:F87_1 R l0 [] w):Calls prog 87 #[l0.v] w R:=
 plC F87_p func87 h
def xVW(R:Rt)(p2 p4:Option Addr)(ds:Ds)(w:World):Prop:=
 zQg p4 λa1=>
 ∃gK,w.cell? (a1.add 0)=some (.int .i64 gK)/\
 ∃bZ:SV,w.cell? (a1.add 1)=some (bZ.v)/\
 ∃cb:SV,w.cell? (a1.add 2)=some (cb.v)/\
 zQg p2 λa2=>
 stA prog 35 a2 #[.int .i64 gK,bZ.v,cb.v] w λw3=>
 zQb prog ds w3 λw4=>
 zQg p2 λa5=>
 ∃ag,w4.cell? (a5.add 0)=some (.int .i64 ag)/\
 ∃ab:SV,w4.cell? (a5.add 1)=some (ab.v)/\
 ∃ae:SV,w4.cell? (a5.add 2)=some (ae.v)/\
 R (.returned (.tuple #[.agg #[.int .i64 ag,ab.v,ae.v],.bool true])) w4
def xVj (R:Rt) (J1:(Int)->World->Prop) (l0:SV) (p2 p4:Option Addr) (n6 n8 yh lz:Int) (ds:Ds) (w:World):Prop:=
 Br (decide (lz<yh)) (
 dwE w λw6=>
 ∃S1:World->Prop,S1 w6/\
 zQg p4 λa7=>
 ∃th:SV,(∀w',S1 w'->w'.cell? (a7.add 1)=some (th.v))/\
 0<=(IntKind.i64.wrap (n6+(IntKind.i64.wrap (n8 * (IntKind.i64.wrap (lz+1))))))/\(IntKind.i64.wrap (n6+(IntKind.i64.wrap (n8 * (IntKind.i64.wrap (lz+1)))))).toNat<=l0.cap/\0<=(IntKind.i64.wrap (n6+(IntKind.i64.wrap (n8 * lz))))/\(IntKind.i64.wrap (n6+(IntKind.i64.wrap (n8 * lz)))).toNat<=(IntKind.i64.wrap (n6+(IntKind.i64.wrap (n8 * (IntKind.i64.wrap (lz+1)))))).toNat/\
 (
 Calls prog 163 #[th.v,.slice (if l0.cap=(IntKind.i64.wrap (n6+(IntKind.i64.wrap (n8 * lz)))).toNat then l0.a else l0.a.map (λx=>x.add ((IntKind.i64.wrap (n6+(IntKind.i64.wrap (n8 * lz)))).toNat * 1))) ((IntKind.i64.wrap (n6+(IntKind.i64.wrap (n8 * (IntKind.i64.wrap (lz+1)))))).toNat - (IntKind.i64.wrap (n6+(IntKind.i64.wrap (n8 * lz)))).toNat) (l0.cap - (IntKind.i64.wrap (n6+(IntKind.i64.wrap (n8 * lz)))).toNat)] w6 λe w8=>
 ∃gL:Bool,∃cc:SV,∃kF:Bool,e=.returned (.tuple #[.agg #[.bool gL,cc.v],.bool kF])/\
 alE (.cells #[.bool false,.slice none 0 0] 67) w8 λcq w9=>
 stA prog 67 (⟨cq,0,none⟩:Addr) #[.bool gL,cc.v] w9 λaN=>
 Br (!kF) (
 zQg p4 λdY=>
 ∃kG,aN.cell? (dY.add 0)=some (.int .i64 kG)/\
 ∃dD:SV,aN.cell? (dY.add 1)=some (dD.v)/\
 ∃dE:SV,aN.cell? (dY.add 2)=some (dE.v)/\
 zQg p2 λkR=>
 stA prog 35 kR #[.int .i64 kG,dD.v,dE.v] aN λaH=>
 zQb prog ds aH λbq=>
 zQg p2 λjz=>
 ∃ag,bq.cell? (jz.add 0)=some (.int .i64 ag)/\
 ∃ab:SV,bq.cell? (jz.add 1)=some (ab.v)/\
 ∃ae:SV,bq.cell? (jz.add 2)=some (ae.v)/\
 R (.returned (.tuple #[.agg #[.int .i64 ag,ab.v,ae.v],.bool false])) bq) (
 zQg p4 λiG=>
 ∃fD:SV,aN.cell? (iG.add 2)=some (fD.v)/\
 ∃gM,aN.cell? ((⟨cq,0,none⟩:Addr).add 0)=some (.bool gM)/\
 ∃bm:SV,aN.cell? ((⟨cq,0,none⟩:Addr).add 1)=some (bm.v)/\
 alE (.cells #[.bool gM,bm.v] 67) aN λrE bH=>
 ∃fE:SV,∃bO,(Builtin.append_ #[33,33] 33 #[fD.v,.slice (some ⟨rE,0,none⟩) 1 1]).run prog bH=.ok (fE.v) bO/\
 zQg p4 λkW=>
 st1 (kW.add 2) (fE.v) bO λbU=>
 J1 (IntKind.i64.wrap (lz+1)) bU))/\(
 alE (.cells #[.bool false,.slice none 0 0] 67) w6 λcq ct=>
 S1 ct/\
 Calls prog 163 #[th.v,.slice (if l0.cap=(IntKind.i64.wrap (n6+(IntKind.i64.wrap (n8 * lz)))).toNat then l0.a else l0.a.map (λx=>x.add ((IntKind.i64.wrap (n6+(IntKind.i64.wrap (n8 * lz)))).toNat * 1))) ((IntKind.i64.wrap (n6+(IntKind.i64.wrap (n8 * (IntKind.i64.wrap (lz+1)))))).toNat - (IntKind.i64.wrap (n6+(IntKind.i64.wrap (n8 * lz)))).toNat) (l0.cap - (IntKind.i64.wrap (n6+(IntKind.i64.wrap (n8 * lz)))).toNat)] ct λe dX=>
 ∃gL:Bool,∃cc:SV,∃kF:Bool,e=.returned (.tuple #[.agg #[.bool gL,cc.v],.bool kF])/\
 stA prog 67 (⟨cq,0,none⟩:Addr) #[.bool gL,cc.v] dX λdV=>
 Br (!kF) (
 zQg p4 λxt=>
 ∃kG,dV.cell? (xt.add 0)=some (.int .i64 kG)/\
 ∃dD:SV,dV.cell? (xt.add 1)=some (dD.v)/\
 ∃dE:SV,dV.cell? (xt.add 2)=some (dE.v)/\
 zQg p2 λnl=>
 stA prog 35 nl #[.int .i64 kG,dD.v,dE.v] dV λfe=>
 zQb prog ds fe λgQ=>
 zQg p2 λa28=>
 ∃ag,gQ.cell? (a28.add 0)=some (.int .i64 ag)/\
 ∃ab:SV,gQ.cell? (a28.add 1)=some (ab.v)/\
 ∃ae:SV,gQ.cell? (a28.add 2)=some (ae.v)/\
 R (.returned (.tuple #[.agg #[.int .i64 ag,ab.v,ae.v],.bool false])) gQ) (
 zQg p4 λrF=>
 ∃fD:SV,dV.cell? (rF.add 2)=some (fD.v)/\
 ∃gM,dV.cell? ((⟨cq,0,none⟩:Addr).add 0)=some (.bool gM)/\
 ∃bm:SV,dV.cell? ((⟨cq,0,none⟩:Addr).add 1)=some (bm.v)/\
 alE (.cells #[.bool gM,bm.v] 67) dV λrE iu=>
 ∃fE:SV,∃gn,(Builtin.append_ #[33,33] 33 #[fD.v,.slice (some ⟨rE,0,none⟩) 1 1]).run prog iu=.ok (fE.v) gn/\
 zQg p4 λxi=>
 st1 (xi.add 2) (fE.v) gn λfW=>
 J1 (IntKind.i64.wrap (lz+1)) fW))) (
 xVW R p2 p4 ds w)
def xVE(R:Rt)(l0:SV)(p2 p4:Option Addr)(n6 n8 yh lz:Int)(ds:Ds)(w:World):Prop:=
 zQE (λ(J1:(Int)->World->Prop) (s:Int) (w:World)=>xVj R J1 l0 p2 p4 n6 n8 yh s ds w) lz w
def xVH(R:Rt)(l0:SV)(p2 p4:Option Addr)(n6:Int)(ds:Ds)(w:World):Prop:=
 zQg p4 λtj=>
 ∃jW:SV,w.cell? (tj.add 1)=some (jW.v)/\
 Calls prog 141 #[jW.v] w λe i5=>
 ∃yR:Int,e=.returned (.int .i64 yR)/\
 Br (yR != 0) (
 zQg p4 λqL=>
 ∃vd,i5.cell? (qL.add 0)=some (.int .i64 vd)/\
 ∃lA:SV,i5.cell? (qL.add 1)=some (lA.v)/\
 ∃lB:SV,i5.cell? (qL.add 2)=some (lB.v)/\
 zQg p2 λa37=>
 stA prog 35 a37 #[.int .i64 vd,lA.v,lB.v] i5 λnG=>
 zQb prog ds nG λkw=>
 zQg p2 λta=>
 ∃ag,kw.cell? (ta.add 0)=some (.int .i64 ag)/\
 ∃ab:SV,kw.cell? (ta.add 1)=some (ab.v)/\
 ∃ae:SV,kw.cell? (ta.add 2)=some (ae.v)/\
 R (.returned (.tuple #[.agg #[.int .i64 ag,ab.v,ae.v],.bool false])) kw) (
 dwE i5 λnn=>
 zQg p4 λtd=>
 ∃np:SV,nn.cell? (td.add 1)=some (np.v)/\
 0<=(6:Int)/\(6:Int).toNat<=l0.cap/\0<=(2:Int)/\(2:Int).toNat<=(6:Int).toNat/\
 Calls prog 161 #[np.v] nn λe qo=>
 ∃tk:Int,e=.returned (.int .i64 tk)/\
 Calls prog 162 #[.slice (if l0.cap=(2:Int).toNat then l0.a else l0.a.map (λx=>x.add ((2:Int).toNat * 1))) ((6:Int).toNat - (2:Int).toNat) (l0.cap - (2:Int).toNat)] qo λe kX=>
 ∃n74:Int,e=.returned (.int .i64 n74)/\
 Br (decide (n74 > 300)) (
 zQg p4 λxj=>
 ∃oe,kX.cell? (xj.add 0)=some (.int .i64 oe)/\
 ∃fF:SV,kX.cell? (xj.add 1)=some (fF.v)/\
 ∃fG:SV,kX.cell? (xj.add 2)=some (fG.v)/\
 zQg p2 λa46=>
 stA prog 35 a46 #[.int .i64 oe,fF.v,fG.v] kX λxu=>
 zQb prog ds xu λkY=>
 zQg p2 λzm=>
 ∃ag,kY.cell? (zm.add 0)=some (.int .i64 ag)/\
 ∃ab:SV,kY.cell? (zm.add 1)=some (ab.v)/\
 ∃ae:SV,kY.cell? (zm.add 2)=some (ae.v)/\
 R (.returned (.tuple #[.agg #[.int .i64 ag,ab.v,ae.v],.bool false])) kY) (
 Br ((l0.len:Int) != (IntKind.i64.wrap ((IntKind.i64.wrap (n6+(IntKind.i64.wrap (tk * n74))))+1))) (
 zQg p4 λxk=>
 ∃oe,kX.cell? (xk.add 0)=some (.int .i64 oe)/\
 ∃fF:SV,kX.cell? (xk.add 1)=some (fF.v)/\
 ∃fG:SV,kX.cell? (xk.add 2)=some (fG.v)/\
 zQg p2 λa51=>
 stA prog 35 a51 #[.int .i64 oe,fF.v,fG.v] kX λw52=>
 zQb prog ds w52 λsM=>
 zQg p2 λzn=>
 ∃ag,sM.cell? (zn.add 0)=some (.int .i64 ag)/\
 ∃ab:SV,sM.cell? (zn.add 1)=some (ab.v)/\
 ∃ae:SV,sM.cell? (zn.add 2)=some (ae.v)/\
 R (.returned (.tuple #[.agg #[.int .i64 ag,ab.v,ae.v],.bool false])) sM) (
 xVE R l0 p2 p4 n6 tk n74 0 ds kX)))
def xWO (R:Rt) (J1:(Int)->World->Prop) (l0:SV) (p2 p4:Option Addr) (n6 oW eH:Int) (ds:Ds) (w:World):Prop:=
 Br (decide (eH<oW)) (
 dwE w λrG=>
 ∃S3:World->Prop,S3 rG/\
 zQg p4 λzo=>
 ∃yi:SV,(∀w',S3 w'->w'.cell? (zo.add 1)=some (yi.v))/\
 ∃pd:SV,∃xn,(Instr.sliceAt 22 (l0.v) (some (.int .i64 (IntKind.i64.wrap ((12:Int)+(IntKind.i64.wrap ((16:Int) * eH)))))) (some (.int .i64 (IntKind.i64.wrap ((28:Int)+(IntKind.i64.wrap ((16:Int) * eH)))))) (some (.int .i64 (IntKind.i64.wrap ((28:Int)+(IntKind.i64.wrap ((16:Int) * eH))))))).run prog rG=.ok (pd.v) xn/\
 S3 xn/\
 Calls prog 160 #[pd.v] xn λe qM=>
 ∃ve:ByteArray,∃iz:Int,∃iA:Int,∃vg:Bool,e=.returned (.agg #[.string ve,.int .i64 iz,.int .i64 iA,.bool vg])/\
 S3 qM/\
 alE (.cells #[.string ve,.int .i64 iz,.int .i64 iA,.bool vg] 129) qM λr60 o6=>
 S3 o6/\
 ∃yj:SV,∃pE,(Builtin.append_ #[32,32] 32 #[yi.v,.slice (some ⟨r60,0,none⟩) 1 1]).run prog o6=.ok (yj.v) pE/\
 zQg p4 λa61=>
 st1 (a61.add 1) (yj.v) pE λri=>
 J1 (IntKind.i64.wrap (eH+1)) ri) (
 xVH R l0 p2 p4 n6 ds w)
def xWR(R:Rt)(l0:SV)(p2 p4:Option Addr)(n6 oW eH:Int)(ds:Ds)(w:World):Prop:=
 zQE (λ(J1:(Int)->World->Prop) (s:Int) (w:World)=>xWO R J1 l0 p2 p4 n6 oW s ds w) eH w
def xVL(R:Rt)(l0:SV)(ds:Ds)(w:World):Prop:=
 alE (.cells #[.int .i64 0,.slice none 0 0,.slice none 0 0] 35) w λr2 oX=>
 alE (.cells #[.int .i64 0,.slice none 0 0,.slice none 0 0] 35) oX λr4 oY=>
 Br (decide ((l0.len:Int)<14)) (
 ∃jX,oY.cell? ((⟨r4,0,none⟩:Addr).add 0)=some (.int .i64 jX)/\
 ∃ce:SV,oY.cell? ((⟨r4,0,none⟩:Addr).add 1)=some (ce.v)/\
 ∃cU:SV,oY.cell? ((⟨r4,0,none⟩:Addr).add 2)=some (cU.v)/\
 stA prog 35 (⟨r2,0,none⟩:Addr) #[.int .i64 jX,ce.v,cU.v] oY λo7=>
 zQb prog ds o7 λpF=>
 ∃ag,pF.cell? ((⟨r2,0,none⟩:Addr).add 0)=some (.int .i64 ag)/\
 ∃ab:SV,pF.cell? ((⟨r2,0,none⟩:Addr).add 1)=some (ab.v)/\
 ∃ae:SV,pF.cell? ((⟨r2,0,none⟩:Addr).add 2)=some (ae.v)/\
 R (.returned (.tuple #[.agg #[.int .i64 ag,ab.v,ae.v],.bool false])) pF) (
 ∃vh,l0.a=some vh/\0<=(0:Int)/\(0:Int)<(l0.len:Int)/\
 ∃iZ,oY.cell? (vh.add ((0:Int).toNat * 1))=some (.int .u8 iZ)/\
 Br (iZ != 67) (
 ∃jX,oY.cell? ((⟨r4,0,none⟩:Addr).add 0)=some (.int .i64 jX)/\
 ∃ce:SV,oY.cell? ((⟨r4,0,none⟩:Addr).add 1)=some (ce.v)/\
 ∃cU:SV,oY.cell? ((⟨r4,0,none⟩:Addr).add 2)=some (cU.v)/\
 stA prog 35 (⟨r2,0,none⟩:Addr) #[.int .i64 jX,ce.v,cU.v] oY λyW=>
 zQb prog ds yW λtf=>
 ∃ag,tf.cell? ((⟨r2,0,none⟩:Addr).add 0)=some (.int .i64 ag)/\
 ∃ab:SV,tf.cell? ((⟨r2,0,none⟩:Addr).add 1)=some (ab.v)/\
 ∃ae:SV,tf.cell? ((⟨r2,0,none⟩:Addr).add 2)=some (ae.v)/\
 R (.returned (.tuple #[.agg #[.int .i64 ag,ab.v,ae.v],.bool false])) tf) (
 ∃a70,l0.a=some a70/\0<=(1:Int)/\(1:Int)<(l0.len:Int)/\
 ∃cp,oY.cell? (a70.add ((1:Int).toNat * 1))=some (.int .u8 cp)/\
 st1 (⟨r4,0,none⟩:Addr) (.int .i64 (IntKind.i64.wrap cp)) oY λqN=>
 dwE qN λyY=>
 ∃S4:World->Prop,S4 yY/\
 ∃a73,l0.a=some a73/\0<=(10:Int)/\(10:Int)<(l0.len:Int)/\
 ∃rp,(∀w',S4 w'->w'.cell? (a73.add ((10:Int).toNat * 1))=some (.int .u8 rp))/\
 ∃a74,l0.a=some a74/\0<=(10:Int)/\(10:Int)<(l0.len:Int)/\
 ∃rH,(∀w',S4 w'->w'.cell? (a74.add ((10:Int).toNat * 1))=some (.int .u8 rH))/\
 Calls prog 159 #[.int .i64 (IntKind.i64.wrap rH)] yY λe o8=>
 ∃iU:Int,e=.returned (.int .i64 iU)/\
 S4 o8/\
 Br (decide (iU > (l0.len:Int))) (
 ∃og,o8.cell? ((⟨r4,0,none⟩:Addr).add 0)=some (.int .i64 og)/\
 ∃fH:SV,o8.cell? ((⟨r4,0,none⟩:Addr).add 1)=some (fH.v)/\
 ∃fI:SV,o8.cell? ((⟨r4,0,none⟩:Addr).add 2)=some (fI.v)/\
 stA prog 35 (⟨r2,0,none⟩:Addr) #[.int .i64 og,fH.v,fI.v] o8 λo1=>
 zQb prog ds o1 λyk=>
 ∃ag,yk.cell? ((⟨r2,0,none⟩:Addr).add 0)=some (.int .i64 ag)/\
 ∃ab:SV,yk.cell? ((⟨r2,0,none⟩:Addr).add 1)=some (ab.v)/\
 ∃ae:SV,yk.cell? ((⟨r2,0,none⟩:Addr).add 2)=some (ae.v)/\
 R (.returned (.tuple #[.agg #[.int .i64 ag,ab.v,ae.v],.bool false])) yk) (
 xWR R l0 (some (⟨r2,0,none⟩:Addr)) (some (⟨r4,0,none⟩:Addr)) iU (IntKind.i64.wrap rp) 0 ds o8)))
theorem F124_p:Pl prog f124 [lS 0] xVL:=λR=>
 pc 9 (rest [lS 0,pS 2,pS 4,iS 6,iS 42,iS 43] (xWR R) (bk 0 (rest [lS 0,pS 2,pS 4,iS 6] (xVH R) (pc 6 (rest [lS 0,pS 2,pS 4,iS 6,iS 8,iS 89,iS 90] (xVE R) (bk 2 (rest [pS 2,pS 4] (xVW R) lf) (lp [iS 90] [lS 0,pS 2,pS 4,iS 6,iS 8,iS 89,iS 90] (xVj R) zXL λJ1=>lf))))) (lp [iS 43] [lS 0,pS 2,pS 4,iS 6,iS 42,iS 43] (xWO R) zXL λJ1=>lf)))
theorem yVH (l0:SV) (w:World) (R:Rt) (h:xVL R l0 [] w):Calls prog 124 #[l0.v] w R:=
 plC F124_p func124 h
def xKx(R:Rt)(p2 p3:Option Addr)(ds:Ds)(w:World):Prop:=
 zQg p3 λa1=>
 ∃vi,w.cell? (a1.add 0)=some (.string vi)/\
 ∃om,w.cell? (a1.add 1)=some (.int .i64 om)/\
 ∃vj,w.cell? (a1.add 2)=some (.int .i64 vj)/\
 ∃vk,w.cell? (a1.add 3)=some (.bool vk)/\
 zQg p2 λa2=>
 stA prog 129 a2 #[.string vi,.int .i64 om,.int .i64 vj,.bool vk] w λw3=>
 zQb prog ds w3 λw4=>
 zQg p2 λa5=>
 ∃vm,w4.cell? (a5.add 0)=some (.string vm)/\
 ∃aj,w4.cell? (a5.add 1)=some (.int .i64 aj)/\
 ∃vo,w4.cell? (a5.add 2)=some (.int .i64 vo)/\
 ∃vp,w4.cell? (a5.add 3)=some (.bool vp)/\
 R (.returned (.agg #[.string vm,.int .i64 aj,.int .i64 vo,.bool vp])) w4
def xWX (R:Rt) (J1:(Unit)->World->Prop) (l0:SV) (p2 p3 oo:Option Addr) (ds:Ds) (w:World):Prop:=
 (∃w6,(Instr.next (.pointer oo) false 0).run prog w=.ok (.tuple #[.bool false]) w6/\
 xKx R p2 p3 ds w6)∨(∃k21 v21:Value,∃w7,(Instr.next (.pointer oo) false 0).run prog w=.ok (.tuple #[.bool true,k21,v21]) w7/\
 ∃k23 v23:Value,∃w8,(Instr.entry (.pointer oo)).run prog w7=.ok (.tuple #[k23,v23]) w8/\
 yYh .i64 k23 λqu=>
 yYg v23 λq25=>
 dHd q25 λzp zq=>
 yYh .u8 zp λpK=>
 dHd zq λzr zt=>
 yYh .i64 zr λpL=>
 dHd zt λzu zv=>
 yYh .i64 zu λzw=>
 dHd zv λzy zA=>
 dHd zA λzB zC=>
 xQq zC (
 alE (.cells #[.int .u8 0,.int .i64 0,.int .i64 0,.nilFunc,.nilFunc] 174) w8 λr5 w9=>
 stA prog 174 (⟨r5,0,none⟩:Addr) #[.int .u8 pK,.int .i64 pL,.int .i64 zw,zy,zB] w9 λaN=>
 dwE aN λaV=>
 ∃gb,aV.cell? (⟨r5,0,none⟩:Addr)=some (.int .u8 gb)/\
 ∃kR,l0.a=some kR/\0<=(10:Int)/\(10:Int)<(l0.len:Int)/\
 ∃rp,aV.cell? (kR.add ((10:Int).toNat * 1))=some (.int .u8 rp)/\
 Br (gb == rp) (
 zQg p3 λlq=>
 st1 (lq.add 1) (.int .i64 qu) aV λbq=>
 J1 () bq) (
 J1 () aV)))
def yZB(R:Rt)(l0:SV)(p2 p3 oo:Option Addr)(ds:Ds)(w:World):Prop:=
 zQE (λ(J1:(Unit)->World->Prop) (_:Unit) (w:World)=>xWX R J1 l0 p2 p3 oo ds w) () w
def xW9(R:Rt)(l0:SV)(ds:Ds)(w:World):Prop:=
 alE (.cells #[.string (⟨#[]⟩:ByteArray),.int .i64 0,.int .i64 0,.bool false] 129) w λr2 bp=>
 dwE bp λbG=>
 ∃S2:World->Prop,S2 bG/\
 0<=(10:Int)/\(10:Int).toNat<=l0.cap/\0<=(10:Int).toNat/\
 ∃rA,l0.a=some rA/\0<=(11:Int)/\(11:Int)<(l0.len:Int)/\
 ∃dz,(∀w',S2 w'->w'.cell? (rA.add ((11:Int).toNat * 1))=some (.int .u8 dz))/\
 ∃jy,l0.a=some jy/\0<=(12:Int)/\(12:Int)<(l0.len:Int)/\
 ∃n16,(∀w',S2 w'->w'.cell? (jy.add ((12:Int).toNat * 1))=some (.int .u8 n16))/\
 (
 ∃s8:ByteArray,∃cL,(convert 22 9 (.slice (if l0.cap=0 then l0.a else l0.a.map (λx=>x.add (0 * 1))) ((10:Int).toNat - 0) (l0.cap - 0))).run prog bG=.ok (.string s8) cL/\
 S2 cL/\
 (
 Calls prog 119 #[.string s8,.string (⟨#[0]⟩:ByteArray)] cL λe bU=>
 ∃s9:ByteArray,e=.returned (.string s9)/\
 S2 bU/\
 alE (.cells #[.string (⟨#[]⟩:ByteArray),.int .i64 0,.int .i64 0,.bool false] 129) bU λr3 ct=>
 S2 ct/\
 stA prog 129 (⟨r3,0,none⟩:Addr) #[.string s9,.int .i64 0,.int .i64 (IntKind.i64.wrap dz),.bool (n16 == 1)] ct λdX=>
 Calls prog 145 #[] dX λe dV=>
 ∃rI:Option Nat,e=.returned (.map rI)/\
 ∃oo:Option Addr,∃dy,(Instr.range 176 (.map rI)).run prog dV=.ok (.pointer oo) dy/\
 yZB R l0 (some (⟨r2,0,none⟩:Addr)) (some (⟨r3,0,none⟩:Addr)) oo ds dy)/\(
 alE (.cells #[.string (⟨#[]⟩:ByteArray),.int .i64 0,.int .i64 0,.bool false] 129) cL λr3 gj=>
 S2 gj/\
 Calls prog 119 #[.string s8,.string (⟨#[0]⟩:ByteArray)] gj λe fe=>
 ∃s9:ByteArray,e=.returned (.string s9)/\
 S2 fe/\
 stA prog 129 (⟨r3,0,none⟩:Addr) #[.string s9,.int .i64 0,.int .i64 (IntKind.i64.wrap dz),.bool (n16 == 1)] fe λgQ=>
 Calls prog 145 #[] gQ λe dW=>
 ∃rI:Option Nat,e=.returned (.map rI)/\
 ∃oo:Option Addr,∃fo,(Instr.range 176 (.map rI)).run prog dW=.ok (.pointer oo) fo/\
 yZB R l0 (some (⟨r2,0,none⟩:Addr)) (some (⟨r3,0,none⟩:Addr)) oo ds fo))/\(
 alE (.cells #[.string (⟨#[]⟩:ByteArray),.int .i64 0,.int .i64 0,.bool false] 129) bG λr3 iu=>
 S2 iu/\
 ∃s8:ByteArray,∃gn,(convert 22 9 (.slice (if l0.cap=0 then l0.a else l0.a.map (λx=>x.add (0 * 1))) ((10:Int).toNat - 0) (l0.cap - 0))).run prog iu=.ok (.string s8) gn/\
 S2 gn/\
 Calls prog 119 #[.string s8,.string (⟨#[0]⟩:ByteArray)] gn λe gk=>
 ∃s9:ByteArray,e=.returned (.string s9)/\
 S2 gk/\
 stA prog 129 (⟨r3,0,none⟩:Addr) #[.string s9,.int .i64 0,.int .i64 (IntKind.i64.wrap dz),.bool (n16 == 1)] gk λfW=>
 Calls prog 145 #[] fW λe fX=>
 ∃rI:Option Nat,e=.returned (.map rI)/\
 ∃oo:Option Addr,∃i5,(Instr.range 176 (.map rI)).run prog fX=.ok (.pointer oo) i5/\
 yZB R l0 (some (⟨r2,0,none⟩:Addr)) (some (⟨r3,0,none⟩:Addr)) oo ds i5)
theorem F160_p:Pl prog f160 [lS 0] xW9:=λR=>
 pc 3 (rest [lS 0,pS 2,pS 3,pS 20] (yZB R) (bk 0 (rest [pS 2,pS 3] (xKx R) lf) (lp [] [lS 0,pS 2,pS 3,pS 20] (xWX R) zXL λJ1=>lf)))
theorem yVy (l0:SV) (w:World) (R:Rt) (h:xW9 R l0 [] w):Calls prog 160 #[l0.v] w R:=
 plC F160_p func160 h
def xWt(R:Rt)(n3:Int)(ds:Ds)(w:World):Prop:=
 zQb prog ds w λw1=>
 R (.returned (.int .i64 n3)) w1
def xWL (R:Rt) (J1:(Int × Int)->World->Prop) (l0:SV) (n3 n4:Int) (ds:Ds) (w:World):Prop:=
 Br (decide (n4 >= 0)) (
 0<=(8:Int)/\
 ∃a2,l0.a=some a2/\0<=n4/\n4<(l0.len:Int)/\
 ∃lr,w.cell? (a2.add (n4.toNat * 1))=some (.int .u8 lr)/\
 J1 ((IntKind.i64.wrap ((BitVec.ofInt 64 (IntKind.i64.wrap (n3 * 2 ^ 8)) ||| BitVec.ofInt 64 (IntKind.i64.wrap lr)).toNat:Nat)),(IntKind.i64.wrap (n4 - 1))) w) (
 xWt R n3 ds w)
def xK0(R:Rt)(l0:SV)(n3 n4:Int)(ds:Ds)(w:World):Prop:=
 zQE (λ(J1:(Int × Int)->World->Prop) (s:Int × Int) (w:World)=>xWL R J1 l0 s.1 s.2 ds w) (n3,n4) w
def yYI(R:Rt)(l0:SV)(ds:Ds)(w:World):Prop:=
 xK0 R l0 0 (IntKind.i64.wrap ((l0.len:Int) - 1)) ds w
theorem F162_p:Pl prog f162 [lS 0] yYI:=λR=>
 pc 3 (rest [lS 0,iS 3,iS 4] (xK0 R) (bk 0 (rest [iS 3] (xWt R) lf) (lp [iS 3,iS 4] [lS 0,iS 3,iS 4] (xWL R) zXL λJ1=>lf)))
theorem yWp (l0:SV) (w:World) (R:Rt) (h:yYI R l0 [] w):Calls prog 162 #[l0.v] w R:=
 plC F162_p func162 h
def xKa(R:Rt)(p4 p6:Option Addr)(b9:Bool)(ds:Ds)(w:World):Prop:=
 zQg p6 λa1=>
 ∃vq,w.cell? (a1.add 0)=some (.bool vq)/\
 ∃lC:SV,w.cell? (a1.add 1)=some (lC.v)/\
 zQg p4 λa2=>
 stA prog 67 a2 #[.bool vq,lC.v] w λw3=>
 zQb prog ds w3 λw4=>
 zQg p4 λa5=>
 ∃bL,w4.cell? (a5.add 0)=some (.bool bL)/\
 ∃ab:SV,w4.cell? (a5.add 1)=some (ab.v)/\
 R (.returned (.tuple #[.agg #[.bool bL,ab.v],.bool b9])) w4
def zXa (R:Rt) (J1:(Int × Int × Bool × Int)->World->Prop) (l1:SV) (p4 p6:Option Addr) (n7 n8:Int) (b9:Bool) (bX:SV) (cp cu:Int) (ds:Ds) (w:World):Prop:=
 J1 (n7,n8,b9,(IntKind.i64.wrap (cu+1))) w
def xWS (R:Rt) (J1:(Int × Int × Bool × Int)->World->Prop) (l1:SV) (p4 p6:Option Addr) (n7 n8:Int) (b9:Bool) (bX:SV) (cp cu:Int) (ds:Ds) (w:World):Prop:=
 ∃a6,bX.a=some a6/\0<=cu/\cu<(bX.len:Int)/\
 ∃vr,w.cell? ((a6.add (cu.toNat * 4)).add 0)=some (.string vr)/\
 ∃jR,w.cell? ((a6.add (cu.toNat * 4)).add 1)=some (.int .i64 jR)/\
 ∃vt,w.cell? ((a6.add (cu.toNat * 4)).add 2)=some (.int .i64 vt)/\
 ∃oq,w.cell? ((a6.add (cu.toNat * 4)).add 3)=some (.bool oq)/\
 alE (.cells #[.string (⟨#[]⟩:ByteArray),.int .i64 0,.int .i64 0,.bool false] 129) w λcq w7=>
 stA prog 129 (⟨cq,0,none⟩:Addr) #[.string vr,.int .i64 jR,.int .i64 vt,.bool oq] w7 λw8=>
 ∃rH,w8.cell? ((⟨cq,0,none⟩:Addr).add 2)=some (.int .i64 rH)/\
 ∃sO,w8.cell? ((⟨cq,0,none⟩:Addr).add 2)=some (.int .i64 sO)/\
 ∃bI:SV,∃w9,(Instr.sliceAt 22 (l1.v) (some (.int .i64 n7)) (some (.int .i64 (IntKind.i64.wrap (n7+rH)))) (some (.int .i64 (IntKind.i64.wrap (n7+sO))))).run prog w8=.ok (bI.v) w9/\
 ∃eH,w9.cell? ((⟨cq,0,none⟩:Addr).add 2)=some (.int .i64 eH)/\
 ∃b46,w9.cell? ((⟨cq,0,none⟩:Addr).add 3)=some (.bool b46)/\
 Br b46 (
 IntKind.i64=IntKind.i64/\(8:Int) ≠ 0/\
 ∃dx,l1.a=some dx/\0<=(IntKind.i64.wrap ((1:Int)+(IntKind.i64.wrap (n8.tdiv 8))))/\(IntKind.i64.wrap ((1:Int)+(IntKind.i64.wrap (n8.tdiv 8))))<(l1.len:Int)/\
 ∃rh,w9.cell? (dx.add ((IntKind.i64.wrap ((1:Int)+(IntKind.i64.wrap (n8.tdiv 8)))).toNat * 1))=some (.int .u8 rh)/\
 IntKind.i64=IntKind.i64/\(8:Int) ≠ 0/\
 0<=(n8.tmod 8)/\
 Br ((IntKind.u8.wrap ((BitVec.ofInt 8 (rh.fdiv (2 ^ (min (n8.tmod 8).toNat 8))) &&& BitVec.ofInt 8 1).toNat:Nat)) == 1) (
 zQg p6 λdY=>
 ∃jS:SV,w9.cell? (dY.add 1)=some (jS.v)/\
 alE (.cells #[.int .i64 0,.int .i64 0,.string (⟨#[]⟩:ByteArray)] 73) w9 λr64 aO=>
 ∃jW:SV,∃aH,(Builtin.append_ #[38,38] 38 #[jS.v,.slice (some ⟨r64,0,none⟩) 1 1]).run prog aO=.ok (jW.v) aH/\
 zQg p6 λf7=>
 st1 (f7.add 1) (jW.v) aH λbp=>
 zXa R J1 l1 p4 p6 (IntKind.i64.wrap (n7+eH)) (IntKind.i64.wrap (n8+1)) b9 bX cp cu ds bp) (
 dwE w9 λbG=>
 ∃S1:World->Prop,S1 bG/\
 ∃lD,(∀w',S1 w'->w'.cell? ((⟨cq,0,none⟩:Addr).add 1)=some (.int .i64 lD))/\
 (
 Calls prog 145 #[] bG λe bH=>
 ∃eY:Option Nat,e=.returned (.map eY)/\
 ∃S2:World->Prop,S2 bH/\(∀u,S2 u->S1 u)/\
 ∃bD:Int,∃bE:Int,∃bM:Int,∃bN:Value,∃aT:Value,(∀w',S2 w'->(Instr.lookup 176 (.map eY) (.int .i64 lD) false).run prog w'=.ok (.agg #[.int .u8 bD,.int .i64 bE,.int .i64 bM,bN,aT]) w')/\
 (
 ∃dL:ByteArray,∃bO,(convert 22 9 (bI.v)).run prog bH=.ok (.string dL) bO/\
 ∃S3:World->Prop,S3 bO/\(∀u,S3 u->S2 u)/\
 (
 fnE aT λf75 first75 be=>
 zQ6 prog f75=true/\Calls prog f75 (first75.toList ++ (([.string dL]:List Value) ++ be.toList)).toArray bO λe cL=>
 ∃am:Int,∃ao:Int,∃ap:ByteArray,∃aF:Bool,e=.returned (.tuple #[.agg #[.int .i64 am,.int .i64 ao,.string ap],.bool aF])/\
 alE (.cells #[.int .i64 0,.int .i64 0,.string (⟨#[]⟩:ByteArray)] 73) cL λaL bU=>
 stA prog 73 (⟨aL,0,none⟩:Addr) #[.int .i64 am,.int .i64 ao,.string ap] bU λct=>
 Br b9 (
 zQg p6 λo4=>
 ∃aD:SV,ct.cell? (o4.add 1)=some (aD.v)/\
 ∃ay,ct.cell? ((⟨aL,0,none⟩:Addr).add 0)=some (.int .i64 ay)/\
 ∃az,ct.cell? ((⟨aL,0,none⟩:Addr).add 1)=some (.int .i64 az)/\
 ∃aA,ct.cell? ((⟨aL,0,none⟩:Addr).add 2)=some (.string aA)/\
 alE (.cells #[.int .i64 ay,.int .i64 az,.string aA] 73) ct λcz dV=>
 ∃aE:SV,∃dy,(Builtin.append_ #[38,38] 38 #[aD.v,.slice (some ⟨cz,0,none⟩) 1 1]).run prog dV=.ok (aE.v) dy/\
 zQg p6 λnl=>
 st1 (nl.add 1) (aE.v) dy λfe=>
 zXa R J1 l1 p4 p6 (IntKind.i64.wrap (n7+eH)) (IntKind.i64.wrap (n8+1)) aF bX cp cu ds fe) (
 zQg p6 λa27=>
 ∃aD:SV,ct.cell? (a27.add 1)=some (aD.v)/\
 ∃ay,ct.cell? ((⟨aL,0,none⟩:Addr).add 0)=some (.int .i64 ay)/\
 ∃az,ct.cell? ((⟨aL,0,none⟩:Addr).add 1)=some (.int .i64 az)/\
 ∃aA,ct.cell? ((⟨aL,0,none⟩:Addr).add 2)=some (.string aA)/\
 alE (.cells #[.int .i64 ay,.int .i64 az,.string aA] 73) ct λcz dW=>
 ∃aE:SV,∃fo,(Builtin.append_ #[38,38] 38 #[aD.v,.slice (some ⟨cz,0,none⟩) 1 1]).run prog dW=.ok (aE.v) fo/\
 zQg p6 λo5=>
 st1 (o5.add 1) (aE.v) fo λgn=>
 zXa R J1 l1 p4 p6 (IntKind.i64.wrap (n7+eH)) (IntKind.i64.wrap (n8+1)) false bX cp cu ds gn))/\(
 alE (.cells #[.int .i64 0,.int .i64 0,.string (⟨#[]⟩:ByteArray)] 73) bO λaL gk=>
 ∃S4:World->Prop,S4 gk/\(∀u,S4 u->S3 u)/\
 fnE aT λf75 first75 be=>
 zQ6 prog f75=true/\Calls prog f75 (first75.toList ++ (([.string dL]:List Value) ++ be.toList)).toArray gk λe fW=>
 ∃am:Int,∃ao:Int,∃ap:ByteArray,∃aF:Bool,e=.returned (.tuple #[.agg #[.int .i64 am,.int .i64 ao,.string ap],.bool aF])/\
 stA prog 73 (⟨aL,0,none⟩:Addr) #[.int .i64 am,.int .i64 ao,.string ap] fW λfX=>
 Br b9 (
 zQg p6 λsZ=>
 ∃aD:SV,fX.cell? (sZ.add 1)=some (aD.v)/\
 ∃ay,fX.cell? ((⟨aL,0,none⟩:Addr).add 0)=some (.int .i64 ay)/\
 ∃az,fX.cell? ((⟨aL,0,none⟩:Addr).add 1)=some (.int .i64 az)/\
 ∃aA,fX.cell? ((⟨aL,0,none⟩:Addr).add 2)=some (.string aA)/\
 alE (.cells #[.int .i64 ay,.int .i64 az,.string aA] 73) fX λcz ro=>
 ∃aE:SV,∃j4,(Builtin.append_ #[38,38] 38 #[aD.v,.slice (some ⟨cz,0,none⟩) 1 1]).run prog ro=.ok (aE.v) j4/\
 zQg p6 λa38=>
 st1 (a38.add 1) (aE.v) j4 λkw=>
 zXa R J1 l1 p4 p6 (IntKind.i64.wrap (n7+eH)) (IntKind.i64.wrap (n8+1)) aF bX cp cu ds kw) (
 zQg p6 λta=>
 ∃aD:SV,fX.cell? (ta.add 1)=some (aD.v)/\
 ∃ay,fX.cell? ((⟨aL,0,none⟩:Addr).add 0)=some (.int .i64 ay)/\
 ∃az,fX.cell? ((⟨aL,0,none⟩:Addr).add 1)=some (.int .i64 az)/\
 ∃aA,fX.cell? ((⟨aL,0,none⟩:Addr).add 2)=some (.string aA)/\
 alE (.cells #[.int .i64 ay,.int .i64 az,.string aA] 73) fX λcz nn=>
 ∃aE:SV,∃xq,(Builtin.append_ #[38,38] 38 #[aD.v,.slice (some ⟨cz,0,none⟩) 1 1]).run prog nn=.ok (aE.v) xq/\
 zQg p6 λa43=>
 st1 (a43.add 1) (aE.v) xq λkX=>
 zXa R J1 l1 p4 p6 (IntKind.i64.wrap (n7+eH)) (IntKind.i64.wrap (n8+1)) false bX cp cu ds kX)))/\(
 alE (.cells #[.int .i64 0,.int .i64 0,.string (⟨#[]⟩:ByteArray)] 73) bH λaL qR=>
 ∃S5:World->Prop,S5 qR/\(∀u,S5 u->S2 u)/\
 ∃dL:ByteArray,∃gp,(convert 22 9 (bI.v)).run prog qR=.ok (.string dL) gp/\
 ∃S6:World->Prop,S6 gp/\(∀u,S6 u->S5 u)/\
 fnE aT λf75 first75 be=>
 zQ6 prog f75=true/\Calls prog f75 (first75.toList ++ (([.string dL]:List Value) ++ be.toList)).toArray gp λe xu=>
 ∃am:Int,∃ao:Int,∃ap:ByteArray,∃aF:Bool,e=.returned (.tuple #[.agg #[.int .i64 am,.int .i64 ao,.string ap],.bool aF])/\
 stA prog 73 (⟨aL,0,none⟩:Addr) #[.int .i64 am,.int .i64 ao,.string ap] xu λkY=>
 Br b9 (
 zQg p6 λzm=>
 ∃aD:SV,kY.cell? (zm.add 1)=some (aD.v)/\
 ∃ay,kY.cell? ((⟨aL,0,none⟩:Addr).add 0)=some (.int .i64 ay)/\
 ∃az,kY.cell? ((⟨aL,0,none⟩:Addr).add 1)=some (.int .i64 az)/\
 ∃aA,kY.cell? ((⟨aL,0,none⟩:Addr).add 2)=some (.string aA)/\
 alE (.cells #[.int .i64 ay,.int .i64 az,.string aA] 73) kY λcz vu=>
 ∃aE:SV,∃zD,(Builtin.append_ #[38,38] 38 #[aD.v,.slice (some ⟨cz,0,none⟩) 1 1]).run prog vu=.ok (aE.v) zD/\
 zQg p6 λxm=>
 st1 (xm.add 1) (aE.v) zD λsM=>
 zXa R J1 l1 p4 p6 (IntKind.i64.wrap (n7+eH)) (IntKind.i64.wrap (n8+1)) aF bX cp cu ds sM) (
 zQg p6 λzn=>
 ∃aD:SV,kY.cell? (zn.add 1)=some (aD.v)/\
 ∃ay,kY.cell? ((⟨aL,0,none⟩:Addr).add 0)=some (.int .i64 ay)/\
 ∃az,kY.cell? ((⟨aL,0,none⟩:Addr).add 1)=some (.int .i64 az)/\
 ∃aA,kY.cell? ((⟨aL,0,none⟩:Addr).add 2)=some (.string aA)/\
 alE (.cells #[.int .i64 ay,.int .i64 az,.string aA] 73) kY λcz rG=>
 ∃aE:SV,∃ye,(Builtin.append_ #[38,38] 38 #[aD.v,.slice (some ⟨cz,0,none⟩) 1 1]).run prog rG=.ok (aE.v) ye/\
 zQg p6 λa57=>
 st1 (a57.add 1) (aE.v) ye λqM=>
 zXa R J1 l1 p4 p6 (IntKind.i64.wrap (n7+eH)) (IntKind.i64.wrap (n8+1)) false bX cp cu ds qM)))/\(
 (
 ∃dL:ByteArray,∃o6,(convert 22 9 (bI.v)).run prog bG=.ok (.string dL) o6/\
 ∃S7:World->Prop,S7 o6/\(∀u,S7 u->S1 u)/\
 (
 Calls prog 145 #[] o6 λe pE=>
 ∃eY:Option Nat,e=.returned (.map eY)/\
 ∃S8:World->Prop,S8 pE/\(∀u,S8 u->S7 u)/\
 ∃bD:Int,∃bE:Int,∃bM:Int,∃bN:Value,∃aT:Value,(∀w',S8 w'->(Instr.lookup 176 (.map eY) (.int .i64 lD) false).run prog w'=.ok (.agg #[.int .u8 bD,.int .i64 bE,.int .i64 bM,bN,aT]) w')/\
 (
 fnE aT λf75 first75 be=>
 zQ6 prog f75=true/\Calls prog f75 (first75.toList ++ (([.string dL]:List Value) ++ be.toList)).toArray pE λe qp=>
 ∃am:Int,∃ao:Int,∃ap:ByteArray,∃aF:Bool,e=.returned (.tuple #[.agg #[.int .i64 am,.int .i64 ao,.string ap],.bool aF])/\
 alE (.cells #[.int .i64 0,.int .i64 0,.string (⟨#[]⟩:ByteArray)] 73) qp λaL ri=>
 stA prog 73 (⟨aL,0,none⟩:Addr) #[.int .i64 am,.int .i64 ao,.string ap] ri λoX=>
 Br b9 (
 zQg p6 λa64=>
 ∃aD:SV,oX.cell? (a64.add 1)=some (aD.v)/\
 ∃ay,oX.cell? ((⟨aL,0,none⟩:Addr).add 0)=some (.int .i64 ay)/\
 ∃az,oX.cell? ((⟨aL,0,none⟩:Addr).add 1)=some (.int .i64 az)/\
 ∃aA,oX.cell? ((⟨aL,0,none⟩:Addr).add 2)=some (.string aA)/\
 alE (.cells #[.int .i64 ay,.int .i64 az,.string aA] 73) oX λcz o7=>
 ∃aE:SV,∃pF,(Builtin.append_ #[38,38] 38 #[aD.v,.slice (some ⟨cz,0,none⟩) 1 1]).run prog o7=.ok (aE.v) pF/\
 zQg p6 λvh=>
 st1 (vh.add 1) (aE.v) pF λyW=>
 zXa R J1 l1 p4 p6 (IntKind.i64.wrap (n7+eH)) (IntKind.i64.wrap (n8+1)) aF bX cp cu ds yW) (
 zQg p6 λa69=>
 ∃aD:SV,oX.cell? (a69.add 1)=some (aD.v)/\
 ∃ay,oX.cell? ((⟨aL,0,none⟩:Addr).add 0)=some (.int .i64 ay)/\
 ∃az,oX.cell? ((⟨aL,0,none⟩:Addr).add 1)=some (.int .i64 az)/\
 ∃aA,oX.cell? ((⟨aL,0,none⟩:Addr).add 2)=some (.string aA)/\
 alE (.cells #[.int .i64 ay,.int .i64 az,.string aA] 73) oX λcz yX=>
 ∃aE:SV,∃qN,(Builtin.append_ #[38,38] 38 #[aD.v,.slice (some ⟨cz,0,none⟩) 1 1]).run prog yX=.ok (aE.v) qN/\
 zQg p6 λa72=>
 st1 (a72.add 1) (aE.v) qN λt8=>
 zXa R J1 l1 p4 p6 (IntKind.i64.wrap (n7+eH)) (IntKind.i64.wrap (n8+1)) false bX cp cu ds t8))/\(
 alE (.cells #[.int .i64 0,.int .i64 0,.string (⟨#[]⟩:ByteArray)] 73) pE λaL xo=>
 ∃S9:World->Prop,S9 xo/\(∀u,S9 u->S8 u)/\
 fnE aT λf75 first75 be=>
 zQ6 prog f75=true/\Calls prog f75 (first75.toList ++ (([.string dL]:List Value) ++ be.toList)).toArray xo λe o8=>
 ∃am:Int,∃ao:Int,∃ap:ByteArray,∃aF:Bool,e=.returned (.tuple #[.agg #[.int .i64 am,.int .i64 ao,.string ap],.bool aF])/\
 stA prog 73 (⟨aL,0,none⟩:Addr) #[.int .i64 am,.int .i64 ao,.string ap] o8 λo1=>
 Br b9 (
 zQg p6 λa77=>
 ∃aD:SV,o1.cell? (a77.add 1)=some (aD.v)/\
 ∃ay,o1.cell? ((⟨aL,0,none⟩:Addr).add 0)=some (.int .i64 ay)/\
 ∃az,o1.cell? ((⟨aL,0,none⟩:Addr).add 1)=some (.int .i64 az)/\
 ∃aA,o1.cell? ((⟨aL,0,none⟩:Addr).add 2)=some (.string aA)/\
 alE (.cells #[.int .i64 ay,.int .i64 az,.string aA] 73) o1 λcz w78=>
 ∃aE:SV,∃qS,(Builtin.append_ #[38,38] 38 #[aD.v,.slice (some ⟨cz,0,none⟩) 1 1]).run prog w78=.ok (aE.v) qS/\
 zQg p6 λa80=>
 st1 (a80.add 1) (aE.v) qS λym=>
 zXa R J1 l1 p4 p6 (IntKind.i64.wrap (n7+eH)) (IntKind.i64.wrap (n8+1)) aF bX cp cu ds ym) (
 zQg p6 λa82=>
 ∃aD:SV,o1.cell? (a82.add 1)=some (aD.v)/\
 ∃ay,o1.cell? ((⟨aL,0,none⟩:Addr).add 0)=some (.int .i64 ay)/\
 ∃az,o1.cell? ((⟨aL,0,none⟩:Addr).add 1)=some (.int .i64 az)/\
 ∃aA,o1.cell? ((⟨aL,0,none⟩:Addr).add 2)=some (.string aA)/\
 alE (.cells #[.int .i64 ay,.int .i64 az,.string aA] 73) o1 λcz yn=>
 ∃aE:SV,∃w84,(Builtin.append_ #[38,38] 38 #[aD.v,.slice (some ⟨cz,0,none⟩) 1 1]).run prog yn=.ok (aE.v) w84/\
 zQg p6 λa85=>
 st1 (a85.add 1) (aE.v) w84 λw86=>
 zXa R J1 l1 p4 p6 (IntKind.i64.wrap (n7+eH)) (IntKind.i64.wrap (n8+1)) false bX cp cu ds w86)))/\(
 alE (.cells #[.int .i64 0,.int .i64 0,.string (⟨#[]⟩:ByteArray)] 73) o6 λaL zE=>
 ∃S10:World->Prop,S10 zE/\(∀u,S10 u->S7 u)/\
 Calls prog 145 #[] zE λe zF=>
 ∃eY:Option Nat,e=.returned (.map eY)/\
 ∃S11:World->Prop,S11 zF/\(∀u,S11 u->S10 u)/\
 ∃bD:Int,∃bE:Int,∃bM:Int,∃bN:Value,∃aT:Value,(∀w',S11 w'->(Instr.lookup 176 (.map eY) (.int .i64 lD) false).run prog w'=.ok (.agg #[.int .u8 bD,.int .i64 bE,.int .i64 bM,bN,aT]) w')/\
 fnE aT λf75 first75 be=>
 zQ6 prog f75=true/\Calls prog f75 (first75.toList ++ (([.string dL]:List Value) ++ be.toList)).toArray zF λe w89=>
 ∃am:Int,∃ao:Int,∃ap:ByteArray,∃aF:Bool,e=.returned (.tuple #[.agg #[.int .i64 am,.int .i64 ao,.string ap],.bool aF])/\
 stA prog 73 (⟨aL,0,none⟩:Addr) #[.int .i64 am,.int .i64 ao,.string ap] w89 λqT=>
 Br b9 (
 zQg p6 λa91=>
 ∃aD:SV,qT.cell? (a91.add 1)=some (aD.v)/\
 ∃ay,qT.cell? ((⟨aL,0,none⟩:Addr).add 0)=some (.int .i64 ay)/\
 ∃az,qT.cell? ((⟨aL,0,none⟩:Addr).add 1)=some (.int .i64 az)/\
 ∃aA,qT.cell? ((⟨aL,0,none⟩:Addr).add 2)=some (.string aA)/\
 alE (.cells #[.int .i64 ay,.int .i64 az,.string aA] 73) qT λcz w92=>
 ∃aE:SV,∃w93,(Builtin.append_ #[38,38] 38 #[aD.v,.slice (some ⟨cz,0,none⟩) 1 1]).run prog w92=.ok (aE.v) w93/\
 zQg p6 λa94=>
 st1 (a94.add 1) (aE.v) w93 λw95=>
 zXa R J1 l1 p4 p6 (IntKind.i64.wrap (n7+eH)) (IntKind.i64.wrap (n8+1)) aF bX cp cu ds w95) (
 zQg p6 λa96=>
 ∃aD:SV,qT.cell? (a96.add 1)=some (aD.v)/\
 ∃ay,qT.cell? ((⟨aL,0,none⟩:Addr).add 0)=some (.int .i64 ay)/\
 ∃az,qT.cell? ((⟨aL,0,none⟩:Addr).add 1)=some (.int .i64 az)/\
 ∃aA,qT.cell? ((⟨aL,0,none⟩:Addr).add 2)=some (.string aA)/\
 alE (.cells #[.int .i64 ay,.int .i64 az,.string aA] 73) qT λcz w97=>
 ∃aE:SV,∃w98,(Builtin.append_ #[38,38] 38 #[aD.v,.slice (some ⟨cz,0,none⟩) 1 1]).run prog w97=.ok (aE.v) w98/\
 zQg p6 λa99=>
 st1 (a99.add 1) (aE.v) w98 λw100=>
 zXa R J1 l1 p4 p6 (IntKind.i64.wrap (n7+eH)) (IntKind.i64.wrap (n8+1)) false bX cp cu ds w100)))/\(
 alE (.cells #[.int .i64 0,.int .i64 0,.string (⟨#[]⟩:ByteArray)] 73) bG λaL pe=>
 ∃S12:World->Prop,S12 pe/\(∀u,S12 u->S1 u)/\
 (
 Calls prog 145 #[] pe λe rJ=>
 ∃eY:Option Nat,e=.returned (.map eY)/\
 ∃S13:World->Prop,S13 rJ/\(∀u,S13 u->S12 u)/\
 ∃bD:Int,∃bE:Int,∃bM:Int,∃bN:Value,∃aT:Value,(∀w',S13 w'->(Instr.lookup 176 (.map eY) (.int .i64 lD) false).run prog w'=.ok (.agg #[.int .u8 bD,.int .i64 bE,.int .i64 bM,bN,aT]) w')/\
 ∃dL:ByteArray,∃pf,(convert 22 9 (bI.v)).run prog rJ=.ok (.string dL) pf/\
 ∃S14:World->Prop,S14 pf/\(∀u,S14 u->S13 u)/\
 fnE aT λf75 first75 be=>
 zQ6 prog f75=true/\Calls prog f75 (first75.toList ++ (([.string dL]:List Value) ++ be.toList)).toArray pf λe xv=>
 ∃am:Int,∃ao:Int,∃ap:ByteArray,∃aF:Bool,e=.returned (.tuple #[.agg #[.int .i64 am,.int .i64 ao,.string ap],.bool aF])/\
 stA prog 73 (⟨aL,0,none⟩:Addr) #[.int .i64 am,.int .i64 ao,.string ap] xv λj6=>
 Br b9 (
 zQg p6 λa106=>
 ∃aD:SV,j6.cell? (a106.add 1)=some (aD.v)/\
 ∃ay,j6.cell? ((⟨aL,0,none⟩:Addr).add 0)=some (.int .i64 ay)/\
 ∃az,j6.cell? ((⟨aL,0,none⟩:Addr).add 1)=some (.int .i64 az)/\
 ∃aA,j6.cell? ((⟨aL,0,none⟩:Addr).add 2)=some (.string aA)/\
 alE (.cells #[.int .i64 ay,.int .i64 az,.string aA] 73) j6 λcz w107=>
 ∃aE:SV,∃zG,(Builtin.append_ #[38,38] 38 #[aD.v,.slice (some ⟨cz,0,none⟩) 1 1]).run prog w107=.ok (aE.v) zG/\
 zQg p6 λa109=>
 st1 (a109.add 1) (aE.v) zG λw110=>
 zXa R J1 l1 p4 p6 (IntKind.i64.wrap (n7+eH)) (IntKind.i64.wrap (n8+1)) aF bX cp cu ds w110) (
 zQg p6 λa111=>
 ∃aD:SV,j6.cell? (a111.add 1)=some (aD.v)/\
 ∃ay,j6.cell? ((⟨aL,0,none⟩:Addr).add 0)=some (.int .i64 ay)/\
 ∃az,j6.cell? ((⟨aL,0,none⟩:Addr).add 1)=some (.int .i64 az)/\
 ∃aA,j6.cell? ((⟨aL,0,none⟩:Addr).add 2)=some (.string aA)/\
 alE (.cells #[.int .i64 ay,.int .i64 az,.string aA] 73) j6 λcz w112=>
 ∃aE:SV,∃zH,(Builtin.append_ #[38,38] 38 #[aD.v,.slice (some ⟨cz,0,none⟩) 1 1]).run prog w112=.ok (aE.v) zH/\
 zQg p6 λa114=>
 st1 (a114.add 1) (aE.v) zH λw115=>
 zXa R J1 l1 p4 p6 (IntKind.i64.wrap (n7+eH)) (IntKind.i64.wrap (n8+1)) false bX cp cu ds w115))/\(
 ∃dL:ByteArray,∃ph,(convert 22 9 (bI.v)).run prog pe=.ok (.string dL) ph/\
 ∃S15:World->Prop,S15 ph/\(∀u,S15 u->S12 u)/\
 Calls prog 145 #[] ph λe rK=>
 ∃eY:Option Nat,e=.returned (.map eY)/\
 ∃S16:World->Prop,S16 rK/\(∀u,S16 u->S15 u)/\
 ∃bD:Int,∃bE:Int,∃bM:Int,∃bN:Value,∃aT:Value,(∀w',S16 w'->(Instr.lookup 176 (.map eY) (.int .i64 lD) false).run prog w'=.ok (.agg #[.int .u8 bD,.int .i64 bE,.int .i64 bM,bN,aT]) w')/\
 fnE aT λf75 first75 be=>
 zQ6 prog f75=true/\Calls prog f75 (first75.toList ++ (([.string dL]:List Value) ++ be.toList)).toArray rK λe xy=>
 ∃am:Int,∃ao:Int,∃ap:ByteArray,∃aF:Bool,e=.returned (.tuple #[.agg #[.int .i64 am,.int .i64 ao,.string ap],.bool aF])/\
 stA prog 73 (⟨aL,0,none⟩:Addr) #[.int .i64 am,.int .i64 ao,.string ap] xy λj7=>
 Br b9 (
 zQg p6 λa120=>
 ∃aD:SV,j7.cell? (a120.add 1)=some (aD.v)/\
 ∃ay,j7.cell? ((⟨aL,0,none⟩:Addr).add 0)=some (.int .i64 ay)/\
 ∃az,j7.cell? ((⟨aL,0,none⟩:Addr).add 1)=some (.int .i64 az)/\
 ∃aA,j7.cell? ((⟨aL,0,none⟩:Addr).add 2)=some (.string aA)/\
 alE (.cells #[.int .i64 ay,.int .i64 az,.string aA] 73) j7 λcz w121=>
 ∃aE:SV,∃zI,(Builtin.append_ #[38,38] 38 #[aD.v,.slice (some ⟨cz,0,none⟩) 1 1]).run prog w121=.ok (aE.v) zI/\
 zQg p6 λa123=>
 st1 (a123.add 1) (aE.v) zI λw124=>
 zXa R J1 l1 p4 p6 (IntKind.i64.wrap (n7+eH)) (IntKind.i64.wrap (n8+1)) aF bX cp cu ds w124) (
 zQg p6 λa125=>
 ∃aD:SV,j7.cell? (a125.add 1)=some (aD.v)/\
 ∃ay,j7.cell? ((⟨aL,0,none⟩:Addr).add 0)=some (.int .i64 ay)/\
 ∃az,j7.cell? ((⟨aL,0,none⟩:Addr).add 1)=some (.int .i64 az)/\
 ∃aA,j7.cell? ((⟨aL,0,none⟩:Addr).add 2)=some (.string aA)/\
 alE (.cells #[.int .i64 ay,.int .i64 az,.string aA] 73) j7 λcz w126=>
 ∃aE:SV,∃zJ,(Builtin.append_ #[38,38] 38 #[aD.v,.slice (some ⟨cz,0,none⟩) 1 1]).run prog w126=.ok (aE.v) zJ/\
 zQg p6 λa128=>
 st1 (a128.add 1) (aE.v) zJ λw129=>
 zXa R J1 l1 p4 p6 (IntKind.i64.wrap (n7+eH)) (IntKind.i64.wrap (n8+1)) false bX cp cu ds w129)))))) (
 dwE w9 λtm=>
 ∃S17:World->Prop,S17 tm/\
 ∃lD,(∀w',S17 w'->w'.cell? ((⟨cq,0,none⟩:Addr).add 1)=some (.int .i64 lD))/\
 (
 Calls prog 145 #[] tm λe xz=>
 ∃eY:Option Nat,e=.returned (.map eY)/\
 ∃S18:World->Prop,S18 xz/\(∀u,S18 u->S17 u)/\
 ∃bD:Int,∃bE:Int,∃bM:Int,∃bN:Value,∃aT:Value,(∀w',S18 w'->(Instr.lookup 176 (.map eY) (.int .i64 lD) false).run prog w'=.ok (.agg #[.int .u8 bD,.int .i64 bE,.int .i64 bM,bN,aT]) w')/\
 (
 ∃dL:ByteArray,∃tn,(convert 22 9 (bI.v)).run prog xz=.ok (.string dL) tn/\
 ∃S19:World->Prop,S19 tn/\(∀u,S19 u->S18 u)/\
 (
 fnE aT λf75 first75 be=>
 zQ6 prog f75=true/\Calls prog f75 (first75.toList ++ (([.string dL]:List Value) ++ be.toList)).toArray tn λe w133=>
 ∃am:Int,∃ao:Int,∃ap:ByteArray,∃aF:Bool,e=.returned (.tuple #[.agg #[.int .i64 am,.int .i64 ao,.string ap],.bool aF])/\
 alE (.cells #[.int .i64 0,.int .i64 0,.string (⟨#[]⟩:ByteArray)] 73) w133 λaL w134=>
 stA prog 73 (⟨aL,0,none⟩:Addr) #[.int .i64 am,.int .i64 ao,.string ap] w134 λk7=>
 Br b9 (
 zQg p6 λa136=>
 ∃aD:SV,k7.cell? (a136.add 1)=some (aD.v)/\
 ∃ay,k7.cell? ((⟨aL,0,none⟩:Addr).add 0)=some (.int .i64 ay)/\
 ∃az,k7.cell? ((⟨aL,0,none⟩:Addr).add 1)=some (.int .i64 az)/\
 ∃aA,k7.cell? ((⟨aL,0,none⟩:Addr).add 2)=some (.string aA)/\
 alE (.cells #[.int .i64 ay,.int .i64 az,.string aA] 73) k7 λcz w137=>
 ∃aE:SV,∃zK,(Builtin.append_ #[38,38] 38 #[aD.v,.slice (some ⟨cz,0,none⟩) 1 1]).run prog w137=.ok (aE.v) zK/\
 zQg p6 λa139=>
 st1 (a139.add 1) (aE.v) zK λw140=>
 zXa R J1 l1 p4 p6 (IntKind.i64.wrap (n7+eH)) n8 aF bX cp cu ds w140) (
 zQg p6 λa141=>
 ∃aD:SV,k7.cell? (a141.add 1)=some (aD.v)/\
 ∃ay,k7.cell? ((⟨aL,0,none⟩:Addr).add 0)=some (.int .i64 ay)/\
 ∃az,k7.cell? ((⟨aL,0,none⟩:Addr).add 1)=some (.int .i64 az)/\
 ∃aA,k7.cell? ((⟨aL,0,none⟩:Addr).add 2)=some (.string aA)/\
 alE (.cells #[.int .i64 ay,.int .i64 az,.string aA] 73) k7 λcz w142=>
 ∃aE:SV,∃zL,(Builtin.append_ #[38,38] 38 #[aD.v,.slice (some ⟨cz,0,none⟩) 1 1]).run prog w142=.ok (aE.v) zL/\
 zQg p6 λa144=>
 st1 (a144.add 1) (aE.v) zL λw145=>
 zXa R J1 l1 p4 p6 (IntKind.i64.wrap (n7+eH)) n8 false bX cp cu ds w145))/\(
 alE (.cells #[.int .i64 0,.int .i64 0,.string (⟨#[]⟩:ByteArray)] 73) tn λaL zM=>
 ∃S20:World->Prop,S20 zM/\(∀u,S20 u->S19 u)/\
 fnE aT λf75 first75 be=>
 zQ6 prog f75=true/\Calls prog f75 (first75.toList ++ (([.string dL]:List Value) ++ be.toList)).toArray zM λe w147=>
 ∃am:Int,∃ao:Int,∃ap:ByteArray,∃aF:Bool,e=.returned (.tuple #[.agg #[.int .i64 am,.int .i64 ao,.string ap],.bool aF])/\
 stA prog 73 (⟨aL,0,none⟩:Addr) #[.int .i64 am,.int .i64 ao,.string ap] w147 λk8=>
 Br b9 (
 zQg p6 λa149=>
 ∃aD:SV,k8.cell? (a149.add 1)=some (aD.v)/\
 ∃ay,k8.cell? ((⟨aL,0,none⟩:Addr).add 0)=some (.int .i64 ay)/\
 ∃az,k8.cell? ((⟨aL,0,none⟩:Addr).add 1)=some (.int .i64 az)/\
 ∃aA,k8.cell? ((⟨aL,0,none⟩:Addr).add 2)=some (.string aA)/\
 alE (.cells #[.int .i64 ay,.int .i64 az,.string aA] 73) k8 λcz w150=>
 ∃aE:SV,∃zN,(Builtin.append_ #[38,38] 38 #[aD.v,.slice (some ⟨cz,0,none⟩) 1 1]).run prog w150=.ok (aE.v) zN/\
 zQg p6 λa152=>
 st1 (a152.add 1) (aE.v) zN λw153=>
 zXa R J1 l1 p4 p6 (IntKind.i64.wrap (n7+eH)) n8 aF bX cp cu ds w153) (
 zQg p6 λa154=>
 ∃aD:SV,k8.cell? (a154.add 1)=some (aD.v)/\
 ∃ay,k8.cell? ((⟨aL,0,none⟩:Addr).add 0)=some (.int .i64 ay)/\
 ∃az,k8.cell? ((⟨aL,0,none⟩:Addr).add 1)=some (.int .i64 az)/\
 ∃aA,k8.cell? ((⟨aL,0,none⟩:Addr).add 2)=some (.string aA)/\
 alE (.cells #[.int .i64 ay,.int .i64 az,.string aA] 73) k8 λcz w155=>
 ∃aE:SV,∃zO,(Builtin.append_ #[38,38] 38 #[aD.v,.slice (some ⟨cz,0,none⟩) 1 1]).run prog w155=.ok (aE.v) zO/\
 zQg p6 λa157=>
 st1 (a157.add 1) (aE.v) zO λw158=>
 zXa R J1 l1 p4 p6 (IntKind.i64.wrap (n7+eH)) n8 false bX cp cu ds w158)))/\(
 alE (.cells #[.int .i64 0,.int .i64 0,.string (⟨#[]⟩:ByteArray)] 73) xz λaL zP=>
 ∃S21:World->Prop,S21 zP/\(∀u,S21 u->S18 u)/\
 ∃dL:ByteArray,∃xA,(convert 22 9 (bI.v)).run prog zP=.ok (.string dL) xA/\
 ∃S22:World->Prop,S22 xA/\(∀u,S22 u->S21 u)/\
 fnE aT λf75 first75 be=>
 zQ6 prog f75=true/\Calls prog f75 (first75.toList ++ (([.string dL]:List Value) ++ be.toList)).toArray xA λe w161=>
 ∃am:Int,∃ao:Int,∃ap:ByteArray,∃aF:Bool,e=.returned (.tuple #[.agg #[.int .i64 am,.int .i64 ao,.string ap],.bool aF])/\
 stA prog 73 (⟨aL,0,none⟩:Addr) #[.int .i64 am,.int .i64 ao,.string ap] w161 λk9=>
 Br b9 (
 zQg p6 λa163=>
 ∃aD:SV,k9.cell? (a163.add 1)=some (aD.v)/\
 ∃ay,k9.cell? ((⟨aL,0,none⟩:Addr).add 0)=some (.int .i64 ay)/\
 ∃az,k9.cell? ((⟨aL,0,none⟩:Addr).add 1)=some (.int .i64 az)/\
 ∃aA,k9.cell? ((⟨aL,0,none⟩:Addr).add 2)=some (.string aA)/\
 alE (.cells #[.int .i64 ay,.int .i64 az,.string aA] 73) k9 λcz w164=>
 ∃aE:SV,∃zQ,(Builtin.append_ #[38,38] 38 #[aD.v,.slice (some ⟨cz,0,none⟩) 1 1]).run prog w164=.ok (aE.v) zQ/\
 zQg p6 λa166=>
 st1 (a166.add 1) (aE.v) zQ λw167=>
 zXa R J1 l1 p4 p6 (IntKind.i64.wrap (n7+eH)) n8 aF bX cp cu ds w167) (
 zQg p6 λa168=>
 ∃aD:SV,k9.cell? (a168.add 1)=some (aD.v)/\
 ∃ay,k9.cell? ((⟨aL,0,none⟩:Addr).add 0)=some (.int .i64 ay)/\
 ∃az,k9.cell? ((⟨aL,0,none⟩:Addr).add 1)=some (.int .i64 az)/\
 ∃aA,k9.cell? ((⟨aL,0,none⟩:Addr).add 2)=some (.string aA)/\
 alE (.cells #[.int .i64 ay,.int .i64 az,.string aA] 73) k9 λcz w169=>
 ∃aE:SV,∃zR,(Builtin.append_ #[38,38] 38 #[aD.v,.slice (some ⟨cz,0,none⟩) 1 1]).run prog w169=.ok (aE.v) zR/\
 zQg p6 λa171=>
 st1 (a171.add 1) (aE.v) zR λw172=>
 zXa R J1 l1 p4 p6 (IntKind.i64.wrap (n7+eH)) n8 false bX cp cu ds w172)))/\(
 (
 ∃dL:ByteArray,∃tp,(convert 22 9 (bI.v)).run prog tm=.ok (.string dL) tp/\
 ∃S23:World->Prop,S23 tp/\(∀u,S23 u->S17 u)/\
 (
 Calls prog 145 #[] tp λe xB=>
 ∃eY:Option Nat,e=.returned (.map eY)/\
 ∃S24:World->Prop,S24 xB/\(∀u,S24 u->S23 u)/\
 ∃bD:Int,∃bE:Int,∃bM:Int,∃bN:Value,∃aT:Value,(∀w',S24 w'->(Instr.lookup 176 (.map eY) (.int .i64 lD) false).run prog w'=.ok (.agg #[.int .u8 bD,.int .i64 bE,.int .i64 bM,bN,aT]) w')/\
 (
 fnE aT λf75 first75 be=>
 zQ6 prog f75=true/\Calls prog f75 (first75.toList ++ (([.string dL]:List Value) ++ be.toList)).toArray xB λe w175=>
 ∃am:Int,∃ao:Int,∃ap:ByteArray,∃aF:Bool,e=.returned (.tuple #[.agg #[.int .i64 am,.int .i64 ao,.string ap],.bool aF])/\
 alE (.cells #[.int .i64 0,.int .i64 0,.string (⟨#[]⟩:ByteArray)] 73) w175 λaL w176=>
 stA prog 73 (⟨aL,0,none⟩:Addr) #[.int .i64 am,.int .i64 ao,.string ap] w176 λlc=>
 Br b9 (
 zQg p6 λa178=>
 ∃aD:SV,lc.cell? (a178.add 1)=some (aD.v)/\
 ∃ay,lc.cell? ((⟨aL,0,none⟩:Addr).add 0)=some (.int .i64 ay)/\
 ∃az,lc.cell? ((⟨aL,0,none⟩:Addr).add 1)=some (.int .i64 az)/\
 ∃aA,lc.cell? ((⟨aL,0,none⟩:Addr).add 2)=some (.string aA)/\
 alE (.cells #[.int .i64 ay,.int .i64 az,.string aA] 73) lc λcz w179=>
 ∃aE:SV,∃zS,(Builtin.append_ #[38,38] 38 #[aD.v,.slice (some ⟨cz,0,none⟩) 1 1]).run prog w179=.ok (aE.v) zS/\
 zQg p6 λa181=>
 st1 (a181.add 1) (aE.v) zS λw182=>
 zXa R J1 l1 p4 p6 (IntKind.i64.wrap (n7+eH)) n8 aF bX cp cu ds w182) (
 zQg p6 λa183=>
 ∃aD:SV,lc.cell? (a183.add 1)=some (aD.v)/\
 ∃ay,lc.cell? ((⟨aL,0,none⟩:Addr).add 0)=some (.int .i64 ay)/\
 ∃az,lc.cell? ((⟨aL,0,none⟩:Addr).add 1)=some (.int .i64 az)/\
 ∃aA,lc.cell? ((⟨aL,0,none⟩:Addr).add 2)=some (.string aA)/\
 alE (.cells #[.int .i64 ay,.int .i64 az,.string aA] 73) lc λcz w184=>
 ∃aE:SV,∃zT,(Builtin.append_ #[38,38] 38 #[aD.v,.slice (some ⟨cz,0,none⟩) 1 1]).run prog w184=.ok (aE.v) zT/\
 zQg p6 λa186=>
 st1 (a186.add 1) (aE.v) zT λw187=>
 zXa R J1 l1 p4 p6 (IntKind.i64.wrap (n7+eH)) n8 false bX cp cu ds w187))/\(
 alE (.cells #[.int .i64 0,.int .i64 0,.string (⟨#[]⟩:ByteArray)] 73) xB λaL zU=>
 ∃S25:World->Prop,S25 zU/\(∀u,S25 u->S24 u)/\
 fnE aT λf75 first75 be=>
 zQ6 prog f75=true/\Calls prog f75 (first75.toList ++ (([.string dL]:List Value) ++ be.toList)).toArray zU λe w189=>
 ∃am:Int,∃ao:Int,∃ap:ByteArray,∃aF:Bool,e=.returned (.tuple #[.agg #[.int .i64 am,.int .i64 ao,.string ap],.bool aF])/\
 stA prog 73 (⟨aL,0,none⟩:Addr) #[.int .i64 am,.int .i64 ao,.string ap] w189 λlg=>
 Br b9 (
 zQg p6 λa191=>
 ∃aD:SV,lg.cell? (a191.add 1)=some (aD.v)/\
 ∃ay,lg.cell? ((⟨aL,0,none⟩:Addr).add 0)=some (.int .i64 ay)/\
 ∃az,lg.cell? ((⟨aL,0,none⟩:Addr).add 1)=some (.int .i64 az)/\
 ∃aA,lg.cell? ((⟨aL,0,none⟩:Addr).add 2)=some (.string aA)/\
 alE (.cells #[.int .i64 ay,.int .i64 az,.string aA] 73) lg λcz w192=>
 ∃aE:SV,∃zV,(Builtin.append_ #[38,38] 38 #[aD.v,.slice (some ⟨cz,0,none⟩) 1 1]).run prog w192=.ok (aE.v) zV/\
 zQg p6 λa194=>
 st1 (a194.add 1) (aE.v) zV λw195=>
 zXa R J1 l1 p4 p6 (IntKind.i64.wrap (n7+eH)) n8 aF bX cp cu ds w195) (
 zQg p6 λa196=>
 ∃aD:SV,lg.cell? (a196.add 1)=some (aD.v)/\
 ∃ay,lg.cell? ((⟨aL,0,none⟩:Addr).add 0)=some (.int .i64 ay)/\
 ∃az,lg.cell? ((⟨aL,0,none⟩:Addr).add 1)=some (.int .i64 az)/\
 ∃aA,lg.cell? ((⟨aL,0,none⟩:Addr).add 2)=some (.string aA)/\
 alE (.cells #[.int .i64 ay,.int .i64 az,.string aA] 73) lg λcz w197=>
 ∃aE:SV,∃zW,(Builtin.append_ #[38,38] 38 #[aD.v,.slice (some ⟨cz,0,none⟩) 1 1]).run prog w197=.ok (aE.v) zW/\
 zQg p6 λa199=>
 st1 (a199.add 1) (aE.v) zW λw200=>
 zXa R J1 l1 p4 p6 (IntKind.i64.wrap (n7+eH)) n8 false bX cp cu ds w200)))/\(
 alE (.cells #[.int .i64 0,.int .i64 0,.string (⟨#[]⟩:ByteArray)] 73) tp λaL zX=>
 ∃S26:World->Prop,S26 zX/\(∀u,S26 u->S23 u)/\
 Calls prog 145 #[] zX λe zY=>
 ∃eY:Option Nat,e=.returned (.map eY)/\
 ∃S27:World->Prop,S27 zY/\(∀u,S27 u->S26 u)/\
 ∃bD:Int,∃bE:Int,∃bM:Int,∃bN:Value,∃aT:Value,(∀w',S27 w'->(Instr.lookup 176 (.map eY) (.int .i64 lD) false).run prog w'=.ok (.agg #[.int .u8 bD,.int .i64 bE,.int .i64 bM,bN,aT]) w')/\
 fnE aT λf75 first75 be=>
 zQ6 prog f75=true/\Calls prog f75 (first75.toList ++ (([.string dL]:List Value) ++ be.toList)).toArray zY λe w203=>
 ∃am:Int,∃ao:Int,∃ap:ByteArray,∃aF:Bool,e=.returned (.tuple #[.agg #[.int .i64 am,.int .i64 ao,.string ap],.bool aF])/\
 stA prog 73 (⟨aL,0,none⟩:Addr) #[.int .i64 am,.int .i64 ao,.string ap] w203 λli=>
 Br b9 (
 zQg p6 λa205=>
 ∃aD:SV,li.cell? (a205.add 1)=some (aD.v)/\
 ∃ay,li.cell? ((⟨aL,0,none⟩:Addr).add 0)=some (.int .i64 ay)/\
 ∃az,li.cell? ((⟨aL,0,none⟩:Addr).add 1)=some (.int .i64 az)/\
 ∃aA,li.cell? ((⟨aL,0,none⟩:Addr).add 2)=some (.string aA)/\
 alE (.cells #[.int .i64 ay,.int .i64 az,.string aA] 73) li λcz w206=>
 ∃aE:SV,∃zZ,(Builtin.append_ #[38,38] 38 #[aD.v,.slice (some ⟨cz,0,none⟩) 1 1]).run prog w206=.ok (aE.v) zZ/\
 zQg p6 λa208=>
 st1 (a208.add 1) (aE.v) zZ λw209=>
 zXa R J1 l1 p4 p6 (IntKind.i64.wrap (n7+eH)) n8 aF bX cp cu ds w209) (
 zQg p6 λa210=>
 ∃aD:SV,li.cell? (a210.add 1)=some (aD.v)/\
 ∃ay,li.cell? ((⟨aL,0,none⟩:Addr).add 0)=some (.int .i64 ay)/\
 ∃az,li.cell? ((⟨aL,0,none⟩:Addr).add 1)=some (.int .i64 az)/\
 ∃aA,li.cell? ((⟨aL,0,none⟩:Addr).add 2)=some (.string aA)/\
 alE (.cells #[.int .i64 ay,.int .i64 az,.string aA] 73) li λcz w211=>
 ∃aE:SV,∃z7,(Builtin.append_ #[38,38] 38 #[aD.v,.slice (some ⟨cz,0,none⟩) 1 1]).run prog w211=.ok (aE.v) z7/\
 zQg p6 λa213=>
 st1 (a213.add 1) (aE.v) z7 λw214=>
 zXa R J1 l1 p4 p6 (IntKind.i64.wrap (n7+eH)) n8 false bX cp cu ds w214)))/\(
 alE (.cells #[.int .i64 0,.int .i64 0,.string (⟨#[]⟩:ByteArray)] 73) tm λaL xC=>
 ∃S28:World->Prop,S28 xC/\(∀u,S28 u->S17 u)/\
 (
 Calls prog 145 #[] xC λe w216=>
 ∃eY:Option Nat,e=.returned (.map eY)/\
 ∃S29:World->Prop,S29 w216/\(∀u,S29 u->S28 u)/\
 ∃bD:Int,∃bE:Int,∃bM:Int,∃bN:Value,∃aT:Value,(∀w',S29 w'->(Instr.lookup 176 (.map eY) (.int .i64 lD) false).run prog w'=.ok (.agg #[.int .u8 bD,.int .i64 bE,.int .i64 bM,bN,aT]) w')/\
 ∃dL:ByteArray,∃xD,(convert 22 9 (bI.v)).run prog w216=.ok (.string dL) xD/\
 ∃S30:World->Prop,S30 xD/\(∀u,S30 u->S29 u)/\
 fnE aT λf75 first75 be=>
 zQ6 prog f75=true/\Calls prog f75 (first75.toList ++ (([.string dL]:List Value) ++ be.toList)).toArray xD λe w218=>
 ∃am:Int,∃ao:Int,∃ap:ByteArray,∃aF:Bool,e=.returned (.tuple #[.agg #[.int .i64 am,.int .i64 ao,.string ap],.bool aF])/\
 stA prog 73 (⟨aL,0,none⟩:Addr) #[.int .i64 am,.int .i64 ao,.string ap] w218 λlj=>
 Br b9 (
 zQg p6 λa220=>
 ∃aD:SV,lj.cell? (a220.add 1)=some (aD.v)/\
 ∃ay,lj.cell? ((⟨aL,0,none⟩:Addr).add 0)=some (.int .i64 ay)/\
 ∃az,lj.cell? ((⟨aL,0,none⟩:Addr).add 1)=some (.int .i64 az)/\
 ∃aA,lj.cell? ((⟨aL,0,none⟩:Addr).add 2)=some (.string aA)/\
 alE (.cells #[.int .i64 ay,.int .i64 az,.string aA] 73) lj λcz w221=>
 ∃aE:SV,∃w222,(Builtin.append_ #[38,38] 38 #[aD.v,.slice (some ⟨cz,0,none⟩) 1 1]).run prog w221=.ok (aE.v) w222/\
 zQg p6 λa223=>
 st1 (a223.add 1) (aE.v) w222 λw224=>
 zXa R J1 l1 p4 p6 (IntKind.i64.wrap (n7+eH)) n8 aF bX cp cu ds w224) (
 zQg p6 λa225=>
 ∃aD:SV,lj.cell? (a225.add 1)=some (aD.v)/\
 ∃ay,lj.cell? ((⟨aL,0,none⟩:Addr).add 0)=some (.int .i64 ay)/\
 ∃az,lj.cell? ((⟨aL,0,none⟩:Addr).add 1)=some (.int .i64 az)/\
 ∃aA,lj.cell? ((⟨aL,0,none⟩:Addr).add 2)=some (.string aA)/\
 alE (.cells #[.int .i64 ay,.int .i64 az,.string aA] 73) lj λcz w226=>
 ∃aE:SV,∃w227,(Builtin.append_ #[38,38] 38 #[aD.v,.slice (some ⟨cz,0,none⟩) 1 1]).run prog w226=.ok (aE.v) w227/\
 zQg p6 λa228=>
 st1 (a228.add 1) (aE.v) w227 λw229=>
 zXa R J1 l1 p4 p6 (IntKind.i64.wrap (n7+eH)) n8 false bX cp cu ds w229))/\(
 ∃dL:ByteArray,∃xE,(convert 22 9 (bI.v)).run prog xC=.ok (.string dL) xE/\
 ∃S31:World->Prop,S31 xE/\(∀u,S31 u->S28 u)/\
 Calls prog 145 #[] xE λe w231=>
 ∃eY:Option Nat,e=.returned (.map eY)/\
 ∃S32:World->Prop,S32 w231/\(∀u,S32 u->S31 u)/\
 ∃bD:Int,∃bE:Int,∃bM:Int,∃bN:Value,∃aT:Value,(∀w',S32 w'->(Instr.lookup 176 (.map eY) (.int .i64 lD) false).run prog w'=.ok (.agg #[.int .u8 bD,.int .i64 bE,.int .i64 bM,bN,aT]) w')/\
 fnE aT λf75 first75 be=>
 zQ6 prog f75=true/\Calls prog f75 (first75.toList ++ (([.string dL]:List Value) ++ be.toList)).toArray w231 λe w232=>
 ∃am:Int,∃ao:Int,∃ap:ByteArray,∃aF:Bool,e=.returned (.tuple #[.agg #[.int .i64 am,.int .i64 ao,.string ap],.bool aF])/\
 stA prog 73 (⟨aL,0,none⟩:Addr) #[.int .i64 am,.int .i64 ao,.string ap] w232 λlk=>
 Br b9 (
 zQg p6 λa234=>
 ∃aD:SV,lk.cell? (a234.add 1)=some (aD.v)/\
 ∃ay,lk.cell? ((⟨aL,0,none⟩:Addr).add 0)=some (.int .i64 ay)/\
 ∃az,lk.cell? ((⟨aL,0,none⟩:Addr).add 1)=some (.int .i64 az)/\
 ∃aA,lk.cell? ((⟨aL,0,none⟩:Addr).add 2)=some (.string aA)/\
 alE (.cells #[.int .i64 ay,.int .i64 az,.string aA] 73) lk λcz w235=>
 ∃aE:SV,∃w236,(Builtin.append_ #[38,38] 38 #[aD.v,.slice (some ⟨cz,0,none⟩) 1 1]).run prog w235=.ok (aE.v) w236/\
 zQg p6 λa237=>
 st1 (a237.add 1) (aE.v) w236 λw238=>
 zXa R J1 l1 p4 p6 (IntKind.i64.wrap (n7+eH)) n8 aF bX cp cu ds w238) (
 zQg p6 λa239=>
 ∃aD:SV,lk.cell? (a239.add 1)=some (aD.v)/\
 ∃ay,lk.cell? ((⟨aL,0,none⟩:Addr).add 0)=some (.int .i64 ay)/\
 ∃az,lk.cell? ((⟨aL,0,none⟩:Addr).add 1)=some (.int .i64 az)/\
 ∃aA,lk.cell? ((⟨aL,0,none⟩:Addr).add 2)=some (.string aA)/\
 alE (.cells #[.int .i64 ay,.int .i64 az,.string aA] 73) lk λcz w240=>
 ∃aE:SV,∃w241,(Builtin.append_ #[38,38] 38 #[aD.v,.slice (some ⟨cz,0,none⟩) 1 1]).run prog w240=.ok (aE.v) w241/\
 zQg p6 λa242=>
 st1 (a242.add 1) (aE.v) w241 λw243=>
 zXa R J1 l1 p4 p6 (IntKind.i64.wrap (n7+eH)) n8 false bX cp cu ds w243)))))
def xWm (R:Rt) (J1:(Int × Int × Bool × Int)->World->Prop) (l1:SV) (p4 p6:Option Addr) (n7 n8:Int) (b9:Bool) (bX:SV) (cp cu:Int) (ds:Ds) (w:World):Prop:=
 Br (decide (cu<cp)) (
 xWS R J1 l1 p4 p6 n7 n8 b9 bX cp cu ds w) (
 xKa R p4 p6 b9 ds w)
def xKV(R:Rt)(l1:SV)(p4 p6:Option Addr)(n7 n8:Int)(b9:Bool)(bX:SV)(cp cu:Int)(ds:Ds)(w:World):Prop:=
 zQE (λ(J1:(Int × Int × Bool × Int)->World->Prop) (s:Int × Int × Bool × Int) (w:World)=>xWm R J1 l1 p4 p6 s.1 s.2.1 s.2.2.1 bX cp s.2.2.2 ds w) (n7,n8,b9,cu) w
def xVg(R:Rt)(l0 l1:SV)(ds:Ds)(w:World):Prop:=
 alE (.cells #[.bool false,.slice none 0 0] 67) w λr4 w244=>
 ∃a245,l1.a=some a245/\0<=(0:Int)/\(0:Int)<(l1.len:Int)/\
 ∃iF,w244.cell? (a245.add ((0:Int).toNat * 1))=some (.int .u8 iF)/\
 alE (.cells #[.bool false,.slice none 0 0] 67) w244 λr6 w246=>
 stA prog 67 (⟨r6,0,none⟩:Addr) #[.bool (iF == 42),.slice none 0 0] w246 λw247=>
 Calls prog 203 #[l0.v] w247 λe w248=>
 ∃df:Int,e=.returned (.int .i64 df)/\
 xKV R l1 (some (⟨r4,0,none⟩:Addr)) (some (⟨r6,0,none⟩:Addr)) (IntKind.i64.wrap ((1:Int)+df)) 0 true l0 (l0.len:Int) 0 ds w248
theorem F163_p:Pl prog f163 [lS 0,lS 1] xVg:=λR=>
 pc 4 (rest [lS 1,pS 4,pS 6,iS 7,iS 8,bS 9,lS 24,iS 25,iS 26] (xKV R) (bk 0 (rest [pS 4,pS 6,bS 9] (xKa R) lf) (lp [iS 7,iS 8,bS 9,iS 26] [lS 1,pS 4,pS 6,iS 7,iS 8,bS 9,lS 24,iS 25,iS 26] (xWm R) zXL λJ1=>pc 2 (rest [lS 1,pS 4,pS 6,iS 7,iS 8,bS 9,lS 24,iS 25,iS 26] (xWS R J1) (pc 1 (rest [lS 1,pS 4,pS 6,iS 7,iS 8,bS 9,lS 24,iS 25,iS 26] (zXa R J1) lf))))))
theorem yWC (l0 l1:SV) (w:World) (R:Rt) (h:xVg R l0 l1 [] w):Calls prog 163 #[l0.v,l1.v] w R:=
 plC F163_p func163 h
def xYi(R:Rt)(l0 l1:SV)(ds:Ds)(w:World):Prop:=
 ∃s6:ByteArray,∃w1,(convert 22 9 (l0.v)).run prog w=.ok (.string s6) w1/\
 ∃s8:ByteArray,∃w2,(convert 22 9 (l1.v)).run prog w1=.ok (.string s8) w2/\
 zQb prog ds w2 λw3=>
 R (.returned (.bool (s6.toList == s8.toList))) w3
theorem F125_p:Pl prog f125 [lS 0,lS 1] xYi:=λR=>
 lf
theorem yVG (l0 l1:SV) (w:World) (R:Rt) (h:xYi R l0 l1 [] w):Calls prog 125 #[l0.v,l1.v] w R:=
 plC F125_p func125 h
end Go.Proofs.YtaeecpjhfmcliaaGreatDoor
/- Shallow texts of functions, printed by program, each checked by the kernel against the loaded code. No condition. -/
namespace Go.Proofs.YtaeecpjhfmcliaaGreatDoor
open Go.Sh Tryz
def F56_1(R:Rt)(p1 p2:Option Addr)(ds:Ds)(w:World):Prop:=
 zQg p1 λa1=>
 ∃dM,w.cell? (a1.add 0)=some (.int .i64 dM)/\
 ∃bh:SV,w.cell? (a1.add 1)=some (bh.v)/\
 ∃bi:SV,w.cell? (a1.add 2)=some (bi.v)/\
 zQg p2 λa2=>
 stA prog 35 a2 #[.int .i64 dM,bh.v,bi.v] w λw3=>
 zQb prog ds w3 λw4=>
 zQg p2 λa5=>
 ∃ag,w4.cell? (a5.add 0)=some (.int .i64 ag)/\
 ∃ab:SV,w4.cell? (a5.add 1)=some (ab.v)/\
 ∃ae:SV,w4.cell? (a5.add 2)=some (ae.v)/\
 R (.returned (.agg #[.int .i64 ag,ab.v,ae.v])) w4
def F56_2 (R:Rt) (J1:(Int)->World->Prop) (p1 p2:Option Addr) (bR:SV) (kZ n16:Int) (ds:Ds) (w:World):Prop:=
 Br (decide (n16<kZ)) (
 ∃a6,bR.a=some a6/\0<=n16/\n16<(bR.len:Int)/\
 ∃ou,w.cell? ((a6.add (n16.toNat * 2)).add 0)=some (.bool ou)/\
 ∃cV:SV,w.cell? ((a6.add (n16.toNat * 2)).add 1)=some (cV.v)/\
 alE (.cells #[.bool false,.slice none 0 0] 67) w λr4 w7=>
 stA prog 67 (⟨r4,0,none⟩:Addr) #[.bool ou,cV.v] w7 λw8=>
 dwE w8 λw9=>
 ∃S1:World->Prop,S1 w9/\
 zQg p1 λdx=>
 ∃dw:SV,(∀w',S1 w'->w'.cell? (dx.add 2)=some (dw.v))/\
 ∃eg:SV,(∀w',S1 w'->w'.cell? ((⟨r4,0,none⟩:Addr).add 1)=some (eg.v))/\
 Calls prog 78 #[eg.v] w9 λe aV=>
 ∃dU:SV,e=.returned (dU.v)/\
 S1 aV/\
 ∃kR,dw.a=some kR/\0<=n16/\n16<(dw.len:Int)/\
 st1 ((kR.add (n16.toNat * 2)).add 1) (dU.v) aV λaH=>
 J1 (IntKind.i64.wrap (n16+1)) aH) (
 F56_1 R p1 p2 ds w)
def F56_3(R:Rt)(p1 p2:Option Addr)(bR:SV)(kZ n16:Int)(ds:Ds)(w:World):Prop:=
 zQE (λ(J1:(Int)->World->Prop) (s:Int) (w:World)=>F56_2 R J1 p1 p2 bR kZ s ds w) n16 w
def F56_5(R:Rt)(ax:Int)(ah ai:SV)(ds:Ds)(w:World):Prop:=
 alE (.cells #[.int .i64 ax,ah.v,ai.v] 35) w λr1 bq=>
 alE (.cells #[.int .i64 0,.slice none 0 0,.slice none 0 0] 35) bq λr2 bp=>
 ∃l6:SV,bp.cell? ((⟨r1,0,none⟩:Addr).add 1)=some (l6.v)/\
 Calls prog 97 #[l6.v] bp λe bG=>
 ∃l7:SV,e=.returned (l7.v)/\
 st1 ((⟨r1,0,none⟩:Addr).add 1) (l7.v) bG λbH=>
 ∃d7:SV,bH.cell? ((⟨r1,0,none⟩:Addr).add 2)=some (d7.v)/\
 Calls prog 98 #[d7.v] bH λe bO=>
 ∃cw:SV,e=.returned (cw.v)/\
 st1 ((⟨r1,0,none⟩:Addr).add 2) (cw.v) bO λcL=>
 ∃bR:SV,cL.cell? ((⟨r1,0,none⟩:Addr).add 2)=some (bR.v)/\
 F56_3 R (some (⟨r1,0,none⟩:Addr)) (some (⟨r2,0,none⟩:Addr)) bR (bR.len:Int) 0 ds cL
theorem F56_p:Pl prog f56 [aS 0 [.int .i64,.slice,.slice]] F56_5:=λR=>
 pc 4 (rest [pS 1,pS 2,lS 14,iS 15,iS 16] (F56_3 R) (bk 0 (rest [pS 1,pS 2] (F56_1 R) lf) (lp [iS 16] [pS 1,pS 2,lS 14,iS 15,iS 16] (F56_2 R) zXL λJ1=>lf)))
theorem xXo (ax:Int) (ah ai:SV) (w:World) (R:Rt) (h:F56_5 R ax ah ai [] w):Calls prog 56 #[.agg #[.int .i64 ax,ah.v,ai.v]] w R:=
 plC F56_p func56 h
def F97_1(R:Rt)(l0:SV)(ds:Ds)(w:World):Prop:=
 ∃b4:Bool,∃w1,(eqS .eql 32 (.tmp 3) (.const (.slice none 0 0)) (l0.v) (.slice none 0 0)).run prog w=.ok (.bool b4) w1/\
 Br b4 (
 zQb prog ds w1 λw2=>
 R (.returned (.slice none 0 0)) w2) (
 alE (.cells #[] 129) w1 λr5 w3=>
 ∃l7:SV,∃w4,(Builtin.append_ #[32,32] 32 #[.slice (some ⟨r5,0,none⟩) 0 0,l0.v]).run prog w3=.ok (l7.v) w4/\
 zQb prog ds w4 λw5=>
 R (.returned (l7.v)) w5)
theorem F97_p:Pl prog f97 [lS 0] F97_1:=λR=>
 lf
theorem xQ7 (l0:SV) (w:World) (R:Rt) (h:F97_1 R l0 [] w):Calls prog 97 #[l0.v] w R:=
 plC F97_p func97 h
def F98_1(R:Rt)(l0:SV)(ds:Ds)(w:World):Prop:=
 ∃b4:Bool,∃w1,(eqS .eql 33 (.tmp 3) (.const (.slice none 0 0)) (l0.v) (.slice none 0 0)).run prog w=.ok (.bool b4) w1/\
 Br b4 (
 zQb prog ds w1 λw2=>
 R (.returned (.slice none 0 0)) w2) (
 alE (.cells #[] 67) w1 λr5 w3=>
 ∃l7:SV,∃w4,(Builtin.append_ #[33,33] 33 #[.slice (some ⟨r5,0,none⟩) 0 0,l0.v]).run prog w3=.ok (l7.v) w4/\
 zQb prog ds w4 λw5=>
 R (.returned (l7.v)) w5)
theorem F98_p:Pl prog f98 [lS 0] F98_1:=λR=>
 lf
theorem yYF (l0:SV) (w:World) (R:Rt) (h:F98_1 R l0 [] w):Calls prog 98 #[l0.v] w R:=
 plC F98_p func98 h
def F78_1(R:Rt)(l0:SV)(ds:Ds)(w:World):Prop:=
 ∃b4:Bool,∃w1,(eqS .eql 38 (.tmp 3) (.const (.slice none 0 0)) (l0.v) (.slice none 0 0)).run prog w=.ok (.bool b4) w1/\
 Br b4 (
 zQb prog ds w1 λw2=>
 R (.returned (.slice none 0 0)) w2) (
 alE (.cells #[] 73) w1 λr5 w3=>
 ∃l7:SV,∃w4,(Builtin.append_ #[38,38] 38 #[.slice (some ⟨r5,0,none⟩) 0 0,l0.v]).run prog w3=.ok (l7.v) w4/\
 zQb prog ds w4 λw5=>
 R (.returned (l7.v)) w5)
theorem F78_p:Pl prog f78 [lS 0] F78_1:=λR=>
 lf
theorem xQY (l0:SV) (w:World) (R:Rt) (h:F78_1 R l0 [] w):Calls prog 78 #[l0.v] w R:=
 plC F78_p func78 h
def F74_1(R:Rt)(l0:SV)(ds:Ds)(w:World):Prop:=
 ∃b4:Bool,∃w1,(eqS .eql 52 (.tmp 3) (.const (.slice none 0 0)) (l0.v) (.slice none 0 0)).run prog w=.ok (.bool b4) w1/\
 Br b4 (
 zQb prog ds w1 λw2=>
 R (.returned (.slice none 0 0)) w2) (
 alE (.cells #[] 3) w1 λr5 w3=>
 ∃l7:SV,∃w4,(Builtin.append_ #[52,52] 52 #[.slice (some ⟨r5,0,none⟩) 0 0,l0.v]).run prog w3=.ok (l7.v) w4/\
 zQb prog ds w4 λw5=>
 R (.returned (l7.v)) w5)
theorem F74_p:Pl prog f74 [lS 0] F74_1:=λR=>
 lf
theorem xQo (l0:SV) (w:World) (R:Rt) (h:F74_1 R l0 [] w):Calls prog 74 #[l0.v] w R:=
 plC F74_p func74 h
end Go.Proofs.YtaeecpjhfmcliaaGreatDoor
/- Shallow texts of functions, printed by program, each checked by the kernel against the loaded code. No condition. -/
namespace Go.Proofs.YtaeecpjhfmcliaaGreatDoor
open Go.Sh Tryz
def F76_1(R:Rt)(ax aI:Int)(ai l1:SV)(n2:Int)(ds:Ds)(w:World):Prop:=
 alE (.cells #[.int .i64 ax,.int .i64 aI,ai.v] 90) w λr3 w1=>
 Calls prog 109 #[l1.v] w1 λe w2=>
 ∃d7:SV,e=.returned (d7.v)/\
 Br (decide (n2<=0)) (
 zQb prog ds w2 λw3=>
 R (.returned (d7.v)) w3) (
 dwE w2 λw4=>
 ∃S1:World->Prop,S1 w4/\
 ∃n16,(∀w',S1 w'->w'.cell? (⟨r3,0,none⟩:Addr)=some (.int .i64 n16))/\
 ∃a5,d7.a=some a5/\0<=n16/\n16<(d7.len:Int)/\
 ∃dv:SV,(∀w',S1 w'->w'.cell? (a5.add (n16.toNat * 1))=some (dv.v))/\
 ∃km,(∀w',S1 w'->w'.cell? ((⟨r3,0,none⟩:Addr).add 1)=some (.int .i64 km))/\
 ∃fp,(∀w',S1 w'->w'.cell? (⟨r3,0,none⟩:Addr)=some (.int .i64 fp))/\
 ∃a6,d7.a=some a6/\0<=fp/\fp<(d7.len:Int)/\
 ∃eg:SV,(∀w',S1 w'->w'.cell? (a6.add (fp.toNat * 1))=some (eg.v))/\
 ∃gb:Int,∃w7,(Builtin.min_ #[3,3] 3 #[.int .i64 km,.int .i64 (eg.len:Int)]).run prog w4=.ok (.int .i64 gb) w7/\
 S1 w7/\
 0<=gb/\gb.toNat<=dv.cap/\0<=gb.toNat/\
 Calls prog 110 #[.slice (if dv.cap=0 then dv.a else dv.a.map (λx=>x.add (0 * 1))) (gb.toNat - 0) (dv.cap - 0)] w7 λe w8=>
 ∃iV:SV,e=.returned (iV.v)/\
 ∃kf:SV,w8.cell? ((⟨r3,0,none⟩:Addr).add 2)=some (kf.v)/\
 Br (decide ((kf.len:Int) > 0)) (
 ∃iC:SV,w8.cell? ((⟨r3,0,none⟩:Addr).add 2)=some (iC.v)/\
 ∃iI:SV,w8.cell? ((⟨r3,0,none⟩:Addr).add 2)=some (iI.v)/\
 ∃nK:Int,∃w9,(Builtin.min_ #[3,3] 3 #[.int .i64 n2,.int .i64 (iI.len:Int)]).run prog w8=.ok (.int .i64 nK) w9/\
 0<=nK/\nK.toNat<=iC.cap/\0<=nK.toNat/\
 ∃nH:SV,∃aN,(Builtin.append_ #[22,22] 22 #[iV.v,.slice (if iC.cap=0 then iC.a else iC.a.map (λx=>x.add (0 * 1))) (nK.toNat - 0) (iC.cap - 0)]).run prog w9=.ok (nH.v) aN/\
 ∃kO,aN.cell? (⟨r3,0,none⟩:Addr)=some (.int .i64 kO)/\
 ∃dY,d7.a=some dY/\0<=kO/\kO<(d7.len:Int)/\
 st1 (dY.add (kO.toNat * 1)) (nH.v) aN λaO=>
 zQb prog ds aO λaH=>
 R (.returned (d7.v)) aH) (
 ∃kO,w8.cell? (⟨r3,0,none⟩:Addr)=some (.int .i64 kO)/\
 ∃f7,d7.a=some f7/\0<=kO/\kO<(d7.len:Int)/\
 st1 (f7.add (kO.toNat * 1)) (iV.v) w8 λbp=>
 zQb prog ds bp λbG=>
 R (.returned (d7.v)) bG))
theorem F76_p:Pl prog f76 [aS 0 [.int .i64,.int .i64,.slice],lS 1,iS 2] F76_1:=λR=>
 lf
theorem yYL (ax aI:Int) (ai l1:SV) (n2:Int) (w:World) (R:Rt) (h:F76_1 R ax aI ai l1 n2 [] w):Calls prog 76 #[.agg #[.int .i64 ax,.int .i64 aI,ai.v],l1.v,.int .i64 n2] w R:=
 plC F76_p func76 h
def F90_1(R:Rt)(ax aI:Int)(ai:SV)(ds:Ds)(w:World):Prop:=
 alE (.cells #[.int .i64 ax,.int .i64 aI,ai.v] 90) w λr1 w1=>
 ∃l4:SV,w1.cell? ((⟨r1,0,none⟩:Addr).add 2)=some (l4.v)/\
 zQb prog ds w1 λw2=>
 R (.returned (.int .i64 (IntKind.i64.wrap ((l4.len:Int)+1)))) w2
theorem F90_p:Pl prog f90 [aS 0 [.int .i64,.int .i64,.slice]] F90_1:=λR=>
 lf
theorem xXn (ax aI:Int) (ai:SV) (w:World) (R:Rt) (h:F90_1 R ax aI ai [] w):Calls prog 90 #[.agg #[.int .i64 ax,.int .i64 aI,ai.v]] w R:=
 plC F90_p func90 h
def xKZ(R:Rt)(l0:SV)(ds:Ds)(w:World):Prop:=
 ∃b4:Bool,∃w1,(eqS .eql 82 (.tmp 3) (.const (.slice none 0 0)) (l0.v) (.slice none 0 0)).run prog w=.ok (.bool b4) w1/\
 Br b4 (
 zQb prog ds w1 λw2=>
 R (.returned (.slice none 0 0)) w2) (
 alE (.cells #[] 22) w1 λr5 w3=>
 ∃l7:SV,∃w4,(Builtin.append_ #[82,82] 82 #[.slice (some ⟨r5,0,none⟩) 0 0,l0.v]).run prog w3=.ok (l7.v) w4/\
 zQb prog ds w4 λw5=>
 R (.returned (l7.v)) w5)
theorem F109_p:Pl prog f109 [lS 0] xKZ:=λR=>
 lf
theorem yVB (l0:SV) (w:World) (R:Rt) (h:xKZ R l0 [] w):Calls prog 109 #[l0.v] w R:=
 plC F109_p func109 h
def xWH(R:Rt)(l0:SV)(ds:Ds)(w:World):Prop:=
 ∃b4:Bool,∃w1,(eqS .eql 22 (.tmp 3) (.const (.slice none 0 0)) (l0.v) (.slice none 0 0)).run prog w=.ok (.bool b4) w1/\
 Br b4 (
 zQb prog ds w1 λw2=>
 R (.returned (.slice none 0 0)) w2) (
 alE (.cells #[] 5) w1 λr5 w3=>
 ∃l7:SV,∃w4,(Builtin.append_ #[22,22] 22 #[.slice (some ⟨r5,0,none⟩) 0 0,l0.v]).run prog w3=.ok (l7.v) w4/\
 zQb prog ds w4 λw5=>
 R (.returned (l7.v)) w5)
theorem F110_p:Pl prog f110 [lS 0] xWH:=λR=>
 lf
theorem yVb (l0:SV) (w:World) (R:Rt) (h:xWH R l0 [] w):Calls prog 110 #[l0.v] w R:=
 plC F110_p func110 h
end Go.Proofs.YtaeecpjhfmcliaaGreatDoor
/- Shallow texts of functions, printed by program, each checked by the kernel against the loaded code. No condition. -/
namespace Go.Proofs.YtaeecpjhfmcliaaGreatDoor
open Go.Sh Tryz
def xW1(R:Rt)(n3:Int)(ds:Ds)(w:World):Prop:=
 zQb prog ds w λw1=>
 R (.returned (.int .i64 n3)) w1
def xK3 (R:Rt) (J1:(Int × Int)->World->Prop) (n3:Int) (l6:SV) (n7 n8:Int) (ds:Ds) (w:World):Prop:=
 Br (decide (n8<n7)) (
 ∃a2,l6.a=some a2/\0<=n8/\n8<(l6.len:Int)/\
 ∃dz,w.cell? (a2.add (n8.toNat * 1))=some (.int .u8 dz)/\
 0<=(IntKind.i64.wrap ((8:Int) * n8))/\
 J1 ((IntKind.i64.wrap ((BitVec.ofInt 64 n3 ||| BitVec.ofInt 64 (IntKind.i64.wrap ((IntKind.i64.wrap dz) * 2 ^ (min (IntKind.i64.wrap ((8:Int) * n8)).toNat 64)))).toNat:Nat)),(IntKind.i64.wrap (n8+1))) w) (
 xW1 R n3 ds w)
def xWv(R:Rt)(n3:Int)(l6:SV)(n7 n8:Int)(ds:Ds)(w:World):Prop:=
 zQE (λ(J1:(Int × Int)->World->Prop) (s:Int × Int) (w:World)=>xK3 R J1 s.1 l6 n7 s.2 ds w) (n3,n8) w
def xV3(R:Rt)(l0:SV)(ds:Ds)(w:World):Prop:=
 xWv R 0 l0 (l0.len:Int) 0 ds w
theorem F126_p:Pl prog f126 [lS 0] xV3:=λR=>
 pc 3 (rest [iS 3,lS 6,iS 7,iS 8] (xWv R) (bk 0 (rest [iS 3] (xW1 R) lf) (lp [iS 3,iS 8] [iS 3,lS 6,iS 7,iS 8] (xK3 R) zXL λJ1=>lf)))
theorem yVs (l0:SV) (w:World) (R:Rt) (h:xV3 R l0 [] w):Calls prog 126 #[l0.v] w R:=
 plC F126_p func126 h
def xYu(R:Rt)(n3:Int)(ds:Ds)(w:World):Prop:=
 zQb prog ds w λw1=>
 R (.returned (.int .i64 (IntKind.i64.wrap n3))) w1
def xWN (R:Rt) (J1:(Int × Int)->World->Prop) (n3:Int) (l6:SV) (n7 n8:Int) (ds:Ds) (w:World):Prop:=
 Br (decide (n8<n7)) (
 ∃a2,l6.a=some a2/\0<=n8/\n8<(l6.len:Int)/\
 ∃dT,w.cell? (a2.add (n8.toNat * 1))=some (.int .u8 dT)/\
 J1 ((IntKind.u32.wrap ((BitVec.ofInt 32 (IntKind.u32.wrap (n3 * 16777619)) ^^^ BitVec.ofInt 32 (IntKind.u32.wrap dT)).toNat:Nat)),(IntKind.i64.wrap (n8+1))) w) (
 xYu R n3 ds w)
def xWF(R:Rt)(n3:Int)(l6:SV)(n7 n8:Int)(ds:Ds)(w:World):Prop:=
 zQE (λ(J1:(Int × Int)->World->Prop) (s:Int × Int) (w:World)=>xWN R J1 s.1 l6 n7 s.2 ds w) (n3,n8) w
def xK8(R:Rt)(l0:SV)(ds:Ds)(w:World):Prop:=
 xWF R 7 l0 (l0.len:Int) 0 ds w
theorem F127_p:Pl prog f127 [lS 0] xK8:=λR=>
 pc 3 (rest [kS .u32 3,lS 6,iS 7,iS 8] (xWF R) (bk 0 (rest [kS .u32 3] (xYu R) lf) (lp [kS .u32 3,iS 8] [kS .u32 3,lS 6,iS 7,iS 8] (xWN R) zXL λJ1=>lf)))
theorem yVR (l0:SV) (w:World) (R:Rt) (h:xK8 R l0 [] w):Calls prog 127 #[l0.v] w R:=
 plC F127_p func127 h
def xVS(R:Rt)(l5:SV)(ds:Ds)(w:World):Prop:=
 zQb prog ds w λw1=>
 R (.returned (l5.v)) w1
def xJZ (R:Rt) (J1:(Int)->World->Prop) (n0:Int) (l5:SV) (i6 dT:Int) (ds:Ds) (w:World):Prop:=
 Br (decide (dT<i6)) (
 0<=(IntKind.i64.wrap ((8:Int) * dT))/\
 ∃a2,l5.a=some a2/\0<=dT/\dT<(l5.len:Int)/\
 st1 (a2.add (dT.toNat * 1)) (.int .u8 (IntKind.u8.wrap (n0.fdiv (2 ^ (min (IntKind.i64.wrap ((8:Int) * dT)).toNat 64))))) w λw3=>
 J1 (IntKind.i64.wrap (dT+1)) w3) (
 xVS R l5 ds w)
def xV8(R:Rt)(n0:Int)(l5:SV)(i6 dT:Int)(ds:Ds)(w:World):Prop:=
 zQE (λ(J1:(Int)->World->Prop) (s:Int) (w:World)=>xJZ R J1 n0 l5 i6 s ds w) dT w
def xKk(R:Rt)(n0 n1:Int)(ds:Ds)(w:World):Prop:=
 ∃l8:SV,∃w4,(Instr.makeSlice 22 (.int .i64 n1) (.int .i64 n1)).run prog w=.ok (l8.v) w4/\
 xV8 R n0 l8 (l8.len:Int) 0 ds w4
theorem F143_p:Pl prog f143 [iS 0,iS 1] xKk:=λR=>
 pc 3 (rest [iS 0,lS 5,iS 10,iS 11] (xV8 R) (bk 0 (rest [lS 5] (xVS R) lf) (lp [iS 11] [iS 0,lS 5,iS 10,iS 11] (xJZ R) zXL λJ1=>lf)))
theorem yVS (n0 n1:Int) (w:World) (R:Rt) (h:xKk R n0 n1 [] w):Calls prog 143 #[.int .i64 n0,.int .i64 n1] w R:=
 plC F143_p func143 h
def F88_1(R:Rt)(l0:SV)(ds:Ds)(w:World):Prop:=
 Br (decide ((l0.len:Int)<9)) (
 zQb prog ds w λw1=>
 R (.returned (.tuple #[.int .u8 0,.slice none 0 0,.slice none 0 0,.bool false])) w1) (
 0<=(5:Int)/\(5:Int).toNat<=l0.cap/\0<=(1:Int)/\(1:Int).toNat<=(5:Int).toNat/\
 Calls prog 126 #[.slice (if l0.cap=(1:Int).toNat then l0.a else l0.a.map (λx=>x.add ((1:Int).toNat * 1))) ((5:Int).toNat - (1:Int).toNat) (l0.cap - (1:Int).toNat)] w λe w2=>
 ∃dz:Int,e=.returned (.int .i64 dz)/\
 dwE w2 λw3=>
 Br (decide (dz > (IntKind.i64.wrap ((IntKind.i64.wrap ((l0.len:Int) - 5)) - 4)))) (
 zQb prog ds w3 λw4=>
 R (.returned (.tuple #[.int .u8 0,.slice none 0 0,.slice none 0 0,.bool false])) w4) (
 0<=(IntKind.i64.wrap ((IntKind.i64.wrap ((5:Int)+dz))+4))/\(IntKind.i64.wrap ((IntKind.i64.wrap ((5:Int)+dz))+4)).toNat<=l0.cap/\0<=(IntKind.i64.wrap ((5:Int)+dz))/\(IntKind.i64.wrap ((5:Int)+dz)).toNat<=(IntKind.i64.wrap ((IntKind.i64.wrap ((5:Int)+dz))+4)).toNat/\
 0<=(IntKind.i64.wrap ((5:Int)+dz))/\(IntKind.i64.wrap ((5:Int)+dz)).toNat<=l0.cap/\0<=(IntKind.i64.wrap ((5:Int)+dz)).toNat/\
 Calls prog 126 #[.slice (if l0.cap=(IntKind.i64.wrap ((5:Int)+dz)).toNat then l0.a else l0.a.map (λx=>x.add ((IntKind.i64.wrap ((5:Int)+dz)).toNat * 1))) ((IntKind.i64.wrap ((IntKind.i64.wrap ((5:Int)+dz))+4)).toNat - (IntKind.i64.wrap ((5:Int)+dz)).toNat) (l0.cap - (IntKind.i64.wrap ((5:Int)+dz)).toNat)] w3 λe w5=>
 ∃gb:Int,e=.returned (.int .i64 gb)/\
 Calls prog 127 #[.slice (if l0.cap=0 then l0.a else l0.a.map (λx=>x.add (0 * 1))) ((IntKind.i64.wrap ((5:Int)+dz)).toNat - 0) (l0.cap - 0)] w5 λe w6=>
 ∃pJ:Int,e=.returned (.int .i64 pJ)/\
 Br (gb != pJ) (
 zQb prog ds w6 λw7=>
 R (.returned (.tuple #[.int .u8 0,.slice none 0 0,.slice none 0 0,.bool false])) w7) (
 dwE w6 λw8=>
 ∃a9,l0.a=some a9/\0<=(0:Int)/\(0:Int)<(l0.len:Int)/\
 ∃iq,w8.cell? (a9.add ((0:Int).toNat * 1))=some (.int .u8 iq)/\
 0<=(IntKind.i64.wrap ((5:Int)+dz))/\(IntKind.i64.wrap ((5:Int)+dz)).toNat<=l0.cap/\0<=(5:Int)/\(5:Int).toNat<=(IntKind.i64.wrap ((5:Int)+dz)).toNat/\
 l0.len<=l0.cap/\0<=(IntKind.i64.wrap ((IntKind.i64.wrap ((5:Int)+dz))+4))/\(IntKind.i64.wrap ((IntKind.i64.wrap ((5:Int)+dz))+4)).toNat<=l0.len/\
 zQb prog ds w8 λaN=>
 R (.returned (.tuple #[.int .u8 iq,.slice (if l0.cap=(5:Int).toNat then l0.a else l0.a.map (λx=>x.add ((5:Int).toNat * 1))) ((IntKind.i64.wrap ((5:Int)+dz)).toNat - (5:Int).toNat) (l0.cap - (5:Int).toNat),.slice (if l0.cap=(IntKind.i64.wrap ((IntKind.i64.wrap ((5:Int)+dz))+4)).toNat then l0.a else l0.a.map (λx=>x.add ((IntKind.i64.wrap ((IntKind.i64.wrap ((5:Int)+dz))+4)).toNat * 1))) (l0.len - (IntKind.i64.wrap ((IntKind.i64.wrap ((5:Int)+dz))+4)).toNat) (l0.cap - (IntKind.i64.wrap ((IntKind.i64.wrap ((5:Int)+dz))+4)).toNat),.bool true])) aN)))
theorem F88_p:Pl prog f88 [lS 0] F88_1:=λR=>
 lf
theorem xQB (l0:SV) (w:World) (R:Rt) (h:F88_1 R l0 [] w):Calls prog 88 #[l0.v] w R:=
 plC F88_p func88 h
def xWW(R:Rt)(n0:Int)(l1:SV)(ds:Ds)(w:World):Prop:=
 ∃l9:SV,∃w1,(Instr.makeSlice 22 (.int .i64 (IntKind.i64.wrap ((5:Int)+(l1.len:Int)))) (.int .i64 (IntKind.i64.wrap ((5:Int)+(l1.len:Int))))).run prog w=.ok (l9.v) w1/\
 ∃a2,l9.a=some a2/\0<=(0:Int)/\(0:Int)<(l9.len:Int)/\
 st1 (a2.add ((0:Int).toNat * 1)) (.int .u8 n0) w1 λw3=>
 dwE w3 λw4=>
 0<=(5:Int)/\(5:Int).toNat<=l9.cap/\0<=(1:Int)/\(1:Int).toNat<=(5:Int).toNat/\
 Calls prog 143 #[.int .i64 (l1.len:Int),.int .i64 4] w4 λe w5=>
 ∃dI:SV,e=.returned (dI.v)/\
 ∃iF:Int,∃w6,(Builtin.copy_ #[22,22] 3 #[.slice (if l9.cap=(1:Int).toNat then l9.a else l9.a.map (λx=>x.add ((1:Int).toNat * 1))) ((5:Int).toNat - (1:Int).toNat) (l9.cap - (1:Int).toNat),dI.v]).run prog w5=.ok (.int .i64 iF) w6/\
 l9.len<=l9.cap/\0<=(5:Int)/\(5:Int).toNat<=l9.len/\
 ∃df:Int,∃w7,(Builtin.copy_ #[22,22] 3 #[.slice (if l9.cap=(5:Int).toNat then l9.a else l9.a.map (λx=>x.add ((5:Int).toNat * 1))) (l9.len - (5:Int).toNat) (l9.cap - (5:Int).toNat),l1.v]).run prog w6=.ok (.int .i64 df) w7/\
 Calls prog 127 #[l9.v] w7 λe w8=>
 ∃cp:Int,e=.returned (.int .i64 cp)/\
 Calls prog 143 #[.int .i64 cp,.int .i64 4] w8 λe w9=>
 ∃dU:SV,e=.returned (dU.v)/\
 ∃bV:SV,∃aN,(Builtin.append_ #[22,22] 22 #[l9.v,dU.v]).run prog w9=.ok (bV.v) aN/\
 zQb prog ds aN λaV=>
 R (.returned (bV.v)) aV
theorem F111_p:Pl prog f111 [kS .u8 0,lS 1] xWW:=λR=>
 lf
theorem yVM (n0:Int) (l1:SV) (w:World) (R:Rt) (h:xWW R n0 l1 [] w):Calls prog 111 #[.int .u8 n0,l1.v] w R:=
 plC F111_p func111 h
end Go.Proofs.YtaeecpjhfmcliaaGreatDoor
/- Shallow texts of functions, printed by program, each checked by the kernel against the loaded code. No condition. -/
namespace Go.Proofs.YtaeecpjhfmcliaaGreatDoor
open Go.Sh Tryz
def F46_1(R:Rt)(l3:SV)(ds:Ds)(w:World):Prop:=
 zQb prog ds w λw1=>
 R (.returned (l3.v)) w1
def xYT (R:Rt) (J1:(Int)->World->Prop) (l3 l7:SV) (n8 n9:Int) (ds:Ds) (w:World):Prop:=
 Br (decide (n9<n8)) (
 ∃a2,l7.a=some a2/\0<=n9/\n9<(l7.len:Int)/\
 ∃cD:SV,w.cell? (a2.add (n9.toNat * 1))=some (cD.v)/\
 ∃dv:SV,∃w3,(Instr.makeSlice 22 (.int .i64 (cD.len:Int)) (.int .i64 (cD.len:Int))).run prog w=.ok (dv.v) w3/\
 ∃a4,l3.a=some a4/\0<=n9/\n9<(l3.len:Int)/\
 st1 (a4.add (n9.toNat * 1)) (dv.v) w3 λw5=>
 ∃a6,l3.a=some a6/\0<=n9/\n9<(l3.len:Int)/\
 ∃gl:SV,w5.cell? (a6.add (n9.toNat * 1))=some (gl.v)/\
 ∃cp:Int,∃w7,(Builtin.copy_ #[22,22] 3 #[gl.v,cD.v]).run prog w5=.ok (.int .i64 cp) w7/\
 J1 (IntKind.i64.wrap (n9+1)) w7) (
 F46_1 R l3 ds w)
def F46_3(R:Rt)(l3 l7:SV)(n8 n9:Int)(ds:Ds)(w:World):Prop:=
 zQE (λ(J1:(Int)->World->Prop) (s:Int) (w:World)=>xYT R J1 l3 l7 n8 s ds w) n9 w
def F46_5(R:Rt)(l0:SV)(ds:Ds)(w:World):Prop:=
 ∃l6:SV,∃w8,(Instr.makeSlice 83 (.int .i64 2) (.int .i64 2)).run prog w=.ok (l6.v) w8/\
 F46_3 R l6 l0 (l0.len:Int) 0 ds w8
theorem F46_p:Pl prog f46 [lS 0] F46_5:=λR=>
 pc 3 (rest [lS 3,lS 7,iS 8,iS 9] (F46_3 R) (bk 0 (rest [lS 3] (F46_1 R) lf) (lp [iS 9] [lS 3,lS 7,iS 8,iS 9] (xYT R) zXL λJ1=>lf)))
theorem yYW (l0:SV) (w:World) (R:Rt) (h:F46_5 R l0 [] w):Calls prog 46 #[l0.v] w R:=
 plC F46_p func46 h
def F47_1 (R:Rt) (J1:(Bool × Bool × SV)->World->Prop) (l0:SV) (p2 p6:Option Addr) (b8 b9:Bool) (d7:SV) (ds:Ds) (w:World):Prop:=
 Calls prog 88 #[d7.v] w λe w1=>
 ∃cQ:Int,∃cA:SV,∃eZ:SV,∃oq:Bool,e=.returned (.tuple #[.int .u8 cQ,cA.v,eZ.v,.bool oq])/\
 Br (!oq) (
 dwE w1 λw2=>
 ∃S1:World->Prop,S1 w2/\
 zQg p6 λa3=>
 ∃gN,(∀w',S1 w'->w'.cell? (a3.add 0)=some (.int .i64 gN))/\
 ∃cf:SV,(∀w',S1 w'->w'.cell? (a3.add 1)=some (cf.v))/\
 ∃cg:SV,(∀w',S1 w'->w'.cell? (a3.add 2)=some (cg.v))/\
 ∃a4,l0.a=some a4/\0<=(1:Int)/\(1:Int)<(l0.len:Int)/\
 ∃iI:SV,(∀w',S1 w'->w'.cell? (a4.add ((1:Int).toNat * 1))=some (iI.v))/\
 zQg p2 λa5=>
 stA prog 35 a5 #[.int .i64 gN,cf.v,cg.v] w2 λw6=>
 S1 w6/\
 zQb prog ds w6 λw7=>
 zQg p2 λa8=>
 ∃ag,w7.cell? (a8.add 0)=some (.int .i64 ag)/\
 ∃ab:SV,w7.cell? (a8.add 1)=some (ab.v)/\
 ∃ae:SV,w7.cell? (a8.add 2)=some (ae.v)/\
 R (.returned (.tuple #[.agg #[.int .i64 ag,ab.v,ae.v],.int .i64 (IntKind.i64.wrap ((iI.len:Int) - (d7.len:Int))),.bool b9,.bool b8])) w7) (
 Br (cQ == 119) (
 Calls prog 87 #[cA.v] w1 λe w9=>
 ∃pP:Int,∃gR:SV,∃gS:SV,∃nV:Int,e=.returned (.tuple #[.agg #[.int .i64 pP,gR.v,gS.v],.int .i64 nV])/\
 zQg p6 λdx=>
 stA prog 35 dx #[.int .i64 pP,gR.v,gS.v] w9 λaV=>
 J1 ((nV == 0),true,eZ) aV) (
 Br (cQ != 99) (
 J1 (false,b9,eZ) w1) (
 Br b8 (
 zQg p6 λkR=>
 ∃dK,w1.cell? (kR.add 0)=some (.int .i64 dK)/\
 ∃bA:SV,w1.cell? (kR.add 1)=some (bA.v)/\
 ∃fJ:SV,w1.cell? (kR.add 2)=some (fJ.v)/\
 Calls prog 89 #[.agg #[.int .i64 dK,bA.v,fJ.v],cA.v] w1 λe aH=>
 ∃pQ:Int,∃gT:SV,∃gU:SV,∃vv:Bool,e=.returned (.tuple #[.agg #[.int .i64 pQ,gT.v,gU.v],.bool vv])/\
 zQg p6 λf7=>
 stA prog 35 f7 #[.int .i64 pQ,gT.v,gU.v] aH λbp=>
 J1 (vv,b9,eZ) bp) (
 J1 (b8,b9,eZ) w1))))
def F47_2(R:Rt)(l0:SV)(p2 p6:Option Addr)(b8 b9:Bool)(d7:SV)(ds:Ds)(w:World):Prop:=
 zQE (λ(J1:(Bool × Bool × SV)->World->Prop) (s:Bool × Bool × SV) (w:World)=>F47_1 R J1 l0 p2 p6 s.1 s.2.1 s.2.2 ds w) (b8,b9,d7) w
def F47_4(R:Rt)(l0:SV)(ds:Ds)(w:World):Prop:=
 alE (.cells #[.int .i64 0,.slice none 0 0,.slice none 0 0] 35) w λr2 bG=>
 ∃rA,l0.a=some rA/\0<=(0:Int)/\(0:Int)<(l0.len:Int)/\
 ∃dv:SV,bG.cell? (rA.add ((0:Int).toNat * 1))=some (dv.v)/\
 Calls prog 87 #[dv.v] bG λe bO=>
 ∃iL:Int,∃cF:SV,∃cG:SV,∃bT:Int,e=.returned (.tuple #[.agg #[.int .i64 iL,cF.v,cG.v],.int .i64 bT])/\
 alE (.cells #[.int .i64 0,.slice none 0 0,.slice none 0 0] 35) bO λr6 cL=>
 stA prog 35 (⟨r6,0,none⟩:Addr) #[.int .i64 iL,cF.v,cG.v] cL λbU=>
 ∃a21,l0.a=some a21/\0<=(1:Int)/\(1:Int)<(l0.len:Int)/\
 ∃dU:SV,bU.cell? (a21.add ((1:Int).toNat * 1))=some (dU.v)/\
 F47_2 R l0 (some (⟨r2,0,none⟩:Addr)) (some (⟨r6,0,none⟩:Addr)) (bT == 0) false dU ds bU
theorem F47_p:Pl prog f47 [lS 0] F47_4:=λR=>
 pc 4 (rest [lS 0,pS 2,pS 6,bS 8,bS 9,lS 10] (F47_2 R) (bk 0 zXL (lp [bS 8,bS 9,lS 10] [lS 0,pS 2,pS 6,bS 8,bS 9,lS 10] (F47_1 R) zXL λJ1=>lf)))
theorem xQ4 (l0:SV) (w:World) (R:Rt) (h:F47_4 R l0 [] w):Calls prog 47 #[l0.v] w R:=
 plC F47_p func47 h
def F51_1(R:Rt)(l0:SV)(ds:Ds)(w:World):Prop:=
 alE (.cells #[.slice none 0 0,.slice none 0 0] 63) w λr2 w1=>
 Calls prog 46 #[l0.v] w1 λe w2=>
 ∃l5:SV,e=.returned (l5.v)/\
 dwE w2 λw3=>
 ∃a4,l5.a=some a4/\0<=(0:Int)/\(0:Int)<(l5.len:Int)/\
 ∃l8:SV,w3.cell? (a4.add ((0:Int).toNat * 1))=some (l8.v)/\
 ∃a5,l5.a=some a5/\0<=(1:Int)/\(1:Int)<(l5.len:Int)/\
 ∃cw:SV,w3.cell? (a5.add ((1:Int).toNat * 1))=some (cw.v)/\
 stA prog 63 (⟨r2,0,none⟩:Addr) #[l8.v,cw.v] w3 λw6=>
 zQb prog ds w6 λw7=>
 ∃lE:SV,w7.cell? ((⟨r2,0,none⟩:Addr).add 0)=some (lE.v)/\
 ∃ab:SV,w7.cell? ((⟨r2,0,none⟩:Addr).add 1)=some (ab.v)/\
 R (.returned (.agg #[lE.v,ab.v])) w7
theorem F51_p:Pl prog f51 [lS 0] F51_1:=λR=>
 lf
theorem xXP (l0:SV) (w:World) (R:Rt) (h:F51_1 R l0 [] w):Calls prog 51 #[l0.v] w R:=
 plC F51_p func51 h
end Go.Proofs.YtaeecpjhfmcliaaGreatDoor
/- Shallow texts of functions, printed by program, each checked by the kernel against the loaded code. No condition. -/
namespace Go.Proofs.YtaeecpjhfmcliaaGreatDoor
open Go.Sh Tryz
def F85_1(R:Rt)(ax:Int)(ah ai:SV)(ds:Ds)(w:World):Prop:=
 alE (.cells #[.int .i64 ax,ah.v,ai.v] 35) w λr1 w1=>
 ∃kE,w1.cell? ((⟨r1,0,none⟩:Addr).add 0)=some (.int .i64 kE)/\
 ∃dB:SV,w1.cell? ((⟨r1,0,none⟩:Addr).add 1)=some (dB.v)/\
 ∃dC:SV,w1.cell? ((⟨r1,0,none⟩:Addr).add 2)=some (dC.v)/\
 Calls prog 86 #[.agg #[.int .i64 kE,dB.v,dC.v]] w1 λe w2=>
 ∃qw:SV,∃dp:Int,e=.returned (.tuple #[qw.v,.int .i64 dp])/\
 Calls prog 111 #[.int .u8 119,qw.v] w2 λe w3=>
 ∃cw:SV,e=.returned (cw.v)/\
 zQb prog ds w3 λw4=>
 R (.returned (cw.v)) w4
theorem F85_p:Pl prog f85 [aS 0 [.int .i64,.slice,.slice]] F85_1:=λR=>
 lf
theorem yYE (ax:Int) (ah ai:SV) (w:World) (R:Rt) (h:F85_1 R ax ah ai [] w):Calls prog 85 #[.agg #[.int .i64 ax,ah.v,ai.v]] w R:=
 plC F85_p func85 h
def F48_1(R:Rt)(l0:SV)(ds:Ds)(w:World):Prop:=
 Calls prog 47 #[l0.v] w λe w1=>
 ∃pR:Int,∃gV:SV,∃gW:SV,∃ei:Int,∃ov:Bool,∃b12_3:Bool,e=.returned (.tuple #[.agg #[.int .i64 pR,gV.v,gW.v],.int .i64 ei,.bool ov,.bool b12_3])/\
 alE (.cells #[.int .i64 0,.slice none 0 0,.slice none 0 0] 35) w1 λr3 w2=>
 stA prog 35 (⟨r3,0,none⟩:Addr) #[.int .i64 pR,gV.v,gW.v] w2 λw3=>
 ∃a4,l0.a=some a4/\0<=(1:Int)/\(1:Int)<(l0.len:Int)/\
 ∃dZ:SV,w3.cell? (a4.add ((1:Int).toNat * 1))=some (dZ.v)/\
 Br (decide (ei<(dZ.len:Int))) (
 alE (.cells #[.int .i64 1,.int .i64 ei,.slice none 0 0] 90) w3 λr26 w5=>
 ∃bV:SV,∃w6,(Builtin.append_ #[87,87] 87 #[.slice none 0 0,.slice (some ⟨r26,0,none⟩) 1 1]).run prog w5=.ok (bV.v) w6/\
 Br ov (
 ∃dM,w6.cell? ((⟨r3,0,none⟩:Addr).add 0)=some (.int .i64 dM)/\
 ∃bh:SV,w6.cell? ((⟨r3,0,none⟩:Addr).add 1)=some (bh.v)/\
 ∃bi:SV,w6.cell? ((⟨r3,0,none⟩:Addr).add 2)=some (bi.v)/\
 Calls prog 86 #[.agg #[.int .i64 dM,bh.v,bi.v]] w6 λe w7=>
 ∃cW:SV,∃gC:Int,e=.returned (.tuple #[cW.v,.int .i64 gC])/\
 alE (.cells #[.int .i64 0,.int .i64 0,.slice none 0 0,.int .i64 0,.int .i64 0,cW.v,.int .i64 1,.int .i64 0,.slice none 0 0] 90) w7 λr39 w8=>
 ∃bI:SV,∃w9,(Builtin.append_ #[87,87] 87 #[bV.v,.slice (some ⟨r39,0,none⟩) 3 3]).run prog w8=.ok (bI.v) w9/\
 zQb prog ds w9 λaN=>
 R (.returned (bI.v)) aN) (
 zQb prog ds w6 λaV=>
 R (.returned (bV.v)) aV)) (
 Br ov (
 ∃dM,w3.cell? ((⟨r3,0,none⟩:Addr).add 0)=some (.int .i64 dM)/\
 ∃bh:SV,w3.cell? ((⟨r3,0,none⟩:Addr).add 1)=some (bh.v)/\
 ∃bi:SV,w3.cell? ((⟨r3,0,none⟩:Addr).add 2)=some (bi.v)/\
 Calls prog 86 #[.agg #[.int .i64 dM,bh.v,bi.v]] w3 λe aO=>
 ∃cW:SV,∃gC:Int,e=.returned (.tuple #[cW.v,.int .i64 gC])/\
 alE (.cells #[.int .i64 0,.int .i64 0,.slice none 0 0,.int .i64 0,.int .i64 0,cW.v,.int .i64 1,.int .i64 0,.slice none 0 0] 90) aO λr39 aH=>
 ∃bI:SV,∃bq,(Builtin.append_ #[87,87] 87 #[.slice none 0 0,.slice (some ⟨r39,0,none⟩) 3 3]).run prog aH=.ok (bI.v) bq/\
 zQb prog ds bq λbp=>
 R (.returned (bI.v)) bp) (
 zQb prog ds w3 λbG=>
 R (.returned (.slice none 0 0)) bG))
theorem F48_p:Pl prog f48 [lS 0] F48_1:=λR=>
 lf
theorem xZr (l0:SV) (w:World) (R:Rt) (h:F48_1 R l0 [] w):Calls prog 48 #[l0.v] w R:=
 plC F48_p func48 h
def F49_1(R:Rt)(l0:SV)(bC cr:Int)(cy:SV)(ds:Ds)(w:World):Prop:=
 alE (.cells #[.int .i64 bC,.int .i64 cr,cy.v] 90) w λr3 w1=>
 dwE w1 λw2=>
 ∃S1:World->Prop,S1 w2/\
 ∃iK,(∀w',S1 w'->w'.cell? ((⟨r3,0,none⟩:Addr).add 0)=some (.int .i64 iK))/\
 ∃n5_1,(∀w',S1 w'->w'.cell? ((⟨r3,0,none⟩:Addr).add 1)=some (.int .i64 n5_1))/\
 ∃cE:SV,(∀w',S1 w'->w'.cell? ((⟨r3,0,none⟩:Addr).add 2)=some (cE.v))/\
 ∃dF,(∀w',S1 w'->w'.cell? ((⟨r3,0,none⟩:Addr).add 0)=some (.int .i64 dF))/\
 ∃dp,(∀w',S1 w'->w'.cell? ((⟨r3,0,none⟩:Addr).add 1)=some (.int .i64 dp))/\
 ∃bF:SV,(∀w',S1 w'->w'.cell? ((⟨r3,0,none⟩:Addr).add 2)=some (bF.v))/\
 Calls prog 90 #[.agg #[.int .i64 dF,.int .i64 dp,bF.v]] w2 λe w3=>
 ∃n8:Int,e=.returned (.int .i64 n8)/\
 S1 w3/\
 Calls prog 76 #[.agg #[.int .i64 iK,.int .i64 n5_1,cE.v],l0.v,.int .i64 n8] w3 λe w4=>
 ∃l9:SV,e=.returned (l9.v)/\
 zQb prog ds w4 λw5=>
 R (.returned (l9.v)) w5
theorem F49_p:Pl prog f49 [lS 0,aS 1 [.int .i64,.int .i64,.slice]] F49_1:=λR=>
 lf
theorem xXX (l0:SV) (bC cr:Int) (cy:SV) (w:World) (R:Rt) (h:F49_1 R l0 bC cr cy [] w):Calls prog 49 #[l0.v,.agg #[.int .i64 bC,.int .i64 cr,cy.v]] w R:=
 plC F49_p func49 h
end Go.Proofs.YtaeecpjhfmcliaaGreatDoor
/- Shallow texts of functions, printed by program, each checked by the kernel against the loaded code. No condition. -/
namespace Go.Proofs.YtaeecpjhfmcliaaGreatDoor
open Go.Sh Tryz
def xKz(R:Rt)(ax:Int)(ah ai l1:SV)(ds:Ds)(w:World):Prop:=
 alE (.cells #[.int .i64 ax,ah.v,ai.v] 35) w λr2 w1=>
 alE (.cells #[.bool false,.slice none 0 0] 67) w1 λr4 w2=>
 ∃bR:SV,w2.cell? ((⟨r2,0,none⟩:Addr).add 1)=some (bR.v)/\
 Calls prog 164 #[bR.v] w2 λe w3=>
 ∃pT:Bool,∃gX:SV,∃gB:Int,e=.returned (.tuple #[.agg #[.bool pT,gX.v],.int .i64 gB])/\
 alE (.cells #[.bool false,.slice none 0 0] 67) w3 λr6 w4=>
 stA prog 67 (⟨r6,0,none⟩:Addr) #[.bool pT,gX.v] w4 λw5=>
 ∃km,w5.cell? (⟨r2,0,none⟩:Addr)=some (.int .i64 km)/\
 ∃dw:SV,w5.cell? ((⟨r2,0,none⟩:Addr).add 1)=some (dw.v)/\
 ∃vw,w5.cell? ((⟨r6,0,none⟩:Addr).add 0)=some (.bool vw)/\
 ∃lF:SV,w5.cell? ((⟨r6,0,none⟩:Addr).add 1)=some (lF.v)/\
 alE (.cells #[.bool vw,lF.v] 67) w5 λr24 w6=>
 Calls prog 165 #[.agg #[.int .i64 km,dw.v,.slice (some ⟨r24,0,none⟩) 1 1]] w6 λe w7=>
 ∃lG:SV,∃fq:Int,e=.returned (.tuple #[lG.v,.int .i64 fq])/\
 ∃ij:SV,∃w8,(Builtin.append_ #[22,22] 22 #[lG.v,l1.v]).run prog w7=.ok (ij.v) w8/\
 alE (.cells #[.int .u8 26] 5) w8 λr33 w9=>
 ∃kh:SV,∃aN,(Builtin.append_ #[22,22] 22 #[ij.v,.slice (some ⟨r33,0,none⟩) 1 1]).run prog w9=.ok (kh.v) aN/\
 Calls prog 87 #[kh.v] aN λe aV=>
 ∃pU:Int,∃gY:SV,∃gZ:SV,∃ow:Int,e=.returned (.tuple #[.agg #[.int .i64 pU,gY.v,gZ.v],.int .i64 ow])/\
 alE (.cells #[.int .i64 0,.slice none 0 0,.slice none 0 0] 35) aV λdJ aO=>
 stA prog 35 (⟨dJ,0,none⟩:Addr) #[.int .i64 pU,gY.v,gZ.v] aO λaH=>
 Br (ow != 0) (
 stA prog 67 (⟨r4,0,none⟩:Addr) #[.bool false,.slice none 0 0] aH λbq=>
 zQb prog ds bq λbp=>
 ∃bL,bp.cell? ((⟨r4,0,none⟩:Addr).add 0)=some (.bool bL)/\
 ∃ab:SV,bp.cell? ((⟨r4,0,none⟩:Addr).add 1)=some (ab.v)/\
 R (.returned (.tuple #[.agg #[.bool bL,ab.v],.bool false])) bp) (
 ∃kH:SV,aH.cell? ((⟨dJ,0,none⟩:Addr).add 2)=some (kH.v)/\
 ∃iG,kH.a=some iG/\0<=(0:Int)/\(0:Int)<(kH.len:Int)/\
 ∃oc,aH.cell? ((iG.add ((0:Int).toNat * 2)).add 0)=some (.bool oc)/\
 ∃fy:SV,aH.cell? ((iG.add ((0:Int).toNat * 2)).add 1)=some (fy.v)/\
 stA prog 67 (⟨r4,0,none⟩:Addr) #[.bool oc,fy.v] aH λbH=>
 zQb prog ds bH λbO=>
 ∃bL,bO.cell? ((⟨r4,0,none⟩:Addr).add 0)=some (.bool bL)/\
 ∃ab:SV,bO.cell? ((⟨r4,0,none⟩:Addr).add 1)=some (ab.v)/\
 R (.returned (.tuple #[.agg #[.bool bL,ab.v],.bool true])) bO)
theorem F129_p:Pl prog f129 [aS 0 [.int .i64,.slice,.slice],lS 1] xKz:=λR=>
 lf
theorem yW3 (ax:Int) (ah ai l1:SV) (w:World) (R:Rt) (h:xKz R ax ah ai l1 [] w):Calls prog 129 #[.agg #[.int .i64 ax,ah.v,ai.v],l1.v] w R:=
 plC F129_p func129 h
def xWl(R:Rt)(l5:SV)(ds:Ds)(w:World):Prop:=
 zQb prog ds w λw1=>
 R (.returned (l5.v)) w1
def xWC (R:Rt) (J1:(SV × Int)->World->Prop) (p2:Option Addr) (l5 bR:SV) (kZ n16:Int) (ds:Ds) (w:World):Prop:=
 Br (decide (n16<kZ)) (
 ∃a2,bR.a=some a2/\0<=n16/\n16<(bR.len:Int)/\
 ∃iZ,w.cell? (a2.add (n16.toNat * 1))=some (.int .i64 iZ)/\
 zQg p2 λa3=>
 ∃dw:SV,w.cell? (a3.add 2)=some (dw.v)/\
 Br (decide (iZ > (dw.len:Int))) (
 J1 (l5,(IntKind.i64.wrap (n16+1))) w) (
 zQg p2 λa4=>
 ∃eQ,w.cell? (a4.add 0)=some (.int .i64 eQ)/\
 ∃bx:SV,w.cell? (a4.add 1)=some (bx.v)/\
 ∃cT:SV,w.cell? (a4.add 2)=some (cT.v)/\
 Calls prog 144 #[.agg #[.int .i64 eQ,bx.v,cT.v],.int .i64 iZ] w λe w5=>
 ∃lH:SV,∃n28_1:Int,e=.returned (.tuple #[lH.v,.int .i64 n28_1])/\
 Calls prog 143 #[.int .i64 iZ,.int .i64 2] w5 λe w6=>
 ∃iH:SV,e=.returned (iH.v)/\
 ∃kh:SV,∃w7,(Builtin.append_ #[22,22] 22 #[l5.v,iH.v]).run prog w6=.ok (kh.v) w7/\
 ∃iC:SV,∃w8,(Builtin.append_ #[22,22] 22 #[kh.v,lH.v]).run prog w7=.ok (iC.v) w8/\
 J1 (iC,(IntKind.i64.wrap (n16+1))) w8)) (
 xWl R l5 ds w)
def xW6(R:Rt)(p2:Option Addr)(l5 bR:SV)(kZ n16:Int)(ds:Ds)(w:World):Prop:=
 zQE (λ(J1:(SV × Int)->World->Prop) (s:SV × Int) (w:World)=>xWC R J1 p2 s.1 bR kZ s.2 ds w) (l5,n16) w
def xKg(R:Rt)(ax:Int)(ah ai l1:SV)(ds:Ds)(w:World):Prop:=
 alE (.cells #[.int .i64 ax,ah.v,ai.v] 35) w λr2 w9=>
 ∃cw:SV,w9.cell? ((⟨r2,0,none⟩:Addr).add 2)=some (cw.v)/\
 Calls prog 143 #[.int .i64 (cw.len:Int),.int .i64 2] w9 λe aN=>
 ∃cD:SV,e=.returned (cD.v)/\
 xW6 R (some (⟨r2,0,none⟩:Addr)) cD l1 (l1.len:Int) 0 ds aN
theorem F112_p:Pl prog f112 [aS 0 [.int .i64,.slice,.slice],lS 1] xKg:=λR=>
 pc 3 (rest [pS 2,lS 5,lS 14,iS 15,iS 16] (xW6 R) (bk 0 (rest [lS 5] (xWl R) lf) (lp [lS 5,iS 16] [pS 2,lS 5,lS 14,iS 15,iS 16] (xWC R) zXL λJ1=>lf)))
theorem yWE (ax:Int) (ah ai l1:SV) (w:World) (R:Rt) (h:xKg R ax ah ai l1 [] w):Calls prog 112 #[.agg #[.int .i64 ax,ah.v,ai.v],l1.v] w R:=
 plC F112_p func112 h
end Go.Proofs.YtaeecpjhfmcliaaGreatDoor
/- Shallow texts of functions, printed by program, each checked by the kernel against the loaded code. No condition. -/
namespace Go.Proofs.YtaeecpjhfmcliaaGreatDoor
open Go.Sh Tryz
def F89_1(R:Rt)(p2 p4:Option Addr)(n8:Int)(ds:Ds)(w:World):Prop:=
 dwE w λw1=>
 ∃S1:World->Prop,S1 w1/\
 zQg p2 λa2=>
 ∃vA,(∀w',S1 w'->w'.cell? (a2.add 0)=some (.int .i64 vA))/\
 ∃lI:SV,(∀w',S1 w'->w'.cell? (a2.add 1)=some (lI.v))/\
 ∃lJ:SV,(∀w',S1 w'->w'.cell? (a2.add 2)=some (lJ.v))/\
 zQg p2 λa3=>
 ∃l96:SV,(∀w',S1 w'->w'.cell? (a3.add 2)=some (l96.v))/\
 zQg p4 λa4=>
 stA prog 35 a4 #[.int .i64 vA,lI.v,lJ.v] w1 λw5=>
 S1 w5/\
 zQb prog ds w5 λw6=>
 zQg p4 λa7=>
 ∃ag,w6.cell? (a7.add 0)=some (.int .i64 ag)/\
 ∃ab:SV,w6.cell? (a7.add 1)=some (ab.v)/\
 ∃ae:SV,w6.cell? (a7.add 2)=some (ae.v)/\
 R (.returned (.tuple #[.agg #[.int .i64 ag,ab.v,ae.v],.bool ((l96.len:Int) == n8)])) w6
def zYF (R:Rt) (J1:(SV)->World->Prop) (p2 p4:Option Addr) (n6 n8:Int) (l9:SV) (ds:Ds) (w:World):Prop:=
 l9.len<=l9.cap/\0<=(IntKind.i64.wrap (n6+2))/\(IntKind.i64.wrap (n6+2)).toNat<=l9.len/\
 J1 ⟨(if l9.cap=(IntKind.i64.wrap (n6+2)).toNat then l9.a else l9.a.map (λx=>x.add ((IntKind.i64.wrap (n6+2)).toNat * 1))),(l9.len - (IntKind.i64.wrap (n6+2)).toNat),(l9.cap - (IntKind.i64.wrap (n6+2)).toNat)⟩ w
def F89_3 (R:Rt) (J1:(SV)->World->Prop) (p2 p4:Option Addr) (n6 n8:Int) (l9:SV) (ds:Ds) (w:World):Prop:=
 0<=(2:Int)/\(2:Int).toNat<=l9.cap/\0<=(2:Int).toNat/\
 Calls prog 126 #[.slice (if l9.cap=0 then l9.a else l9.a.map (λx=>x.add (0 * 1))) ((2:Int).toNat - 0) (l9.cap - 0)] w λe w8=>
 ∃dr:Int,e=.returned (.int .i64 dr)/\
 dwE w8 λw9=>
 ∃S2:World->Prop,S2 w9/\
 zQg p2 λdx=>
 ∃ls,(∀w',S2 w'->w'.cell? (dx.add 0)=some (.int .i64 ls))/\
 ∃iM:SV,(∀w',S2 w'->w'.cell? (dx.add 1)=some (iM.v))/\
 ∃iN:SV,(∀w',S2 w'->w'.cell? (dx.add 2)=some (iN.v))/\
 0<=(IntKind.i64.wrap (n6+2))/\(IntKind.i64.wrap (n6+2)).toNat<=l9.cap/\0<=(2:Int)/\(2:Int).toNat<=(IntKind.i64.wrap (n6+2)).toNat/\
 (
 Calls prog 129 #[.agg #[.int .i64 ls,iM.v,iN.v],.slice (if l9.cap=(2:Int).toNat then l9.a else l9.a.map (λx=>x.add ((2:Int).toNat * 1))) ((IntKind.i64.wrap (n6+2)).toNat - (2:Int).toNat) (l9.cap - (2:Int).toNat)] w9 λe aV=>
 ∃iO:Bool,∃cH:SV,∃kI:Bool,e=.returned (.tuple #[.agg #[.bool iO,cH.v],.bool kI])/\
 alE (.cells #[.bool false,.slice none 0 0] 67) aV λcq aO=>
 stA prog 67 (⟨cq,0,none⟩:Addr) #[.bool iO,cH.v] aO λaH=>
 Br (!kI) (
 zQg p2 λf7=>
 ∃bl,aH.cell? (f7.add 0)=some (.int .i64 bl)/\
 ∃aw:SV,aH.cell? (f7.add 1)=some (aw.v)/\
 ∃aC:SV,aH.cell? (f7.add 2)=some (aC.v)/\
 zQg p4 λjz=>
 stA prog 35 jz #[.int .i64 bl,aw.v,aC.v] aH λbG=>
 zQb prog ds bG λbH=>
 zQg p4 λjy=>
 ∃ag,bH.cell? (jy.add 0)=some (.int .i64 ag)/\
 ∃ab:SV,bH.cell? (jy.add 1)=some (ab.v)/\
 ∃ae:SV,bH.cell? (jy.add 2)=some (ae.v)/\
 R (.returned (.tuple #[.agg #[.int .i64 ag,ab.v,ae.v],.bool false])) bH) (
 Br (decide (dr<1)) (
 zQg p2 λkW=>
 ∃bl,aH.cell? (kW.add 0)=some (.int .i64 bl)/\
 ∃aw:SV,aH.cell? (kW.add 1)=some (aw.v)/\
 ∃aC:SV,aH.cell? (kW.add 2)=some (aC.v)/\
 zQg p4 λa20=>
 stA prog 35 a20 #[.int .i64 bl,aw.v,aC.v] aH λct=>
 zQb prog ds ct λdX=>
 zQg p4 λpi=>
 ∃ag,dX.cell? (pi.add 0)=some (.int .i64 ag)/\
 ∃ab:SV,dX.cell? (pi.add 1)=some (ab.v)/\
 ∃ae:SV,dX.cell? (pi.add 2)=some (ae.v)/\
 R (.returned (.tuple #[.agg #[.int .i64 ag,ab.v,ae.v],.bool false])) dX) (
 zQg p2 λxt=>
 ∃pV:SV,aH.cell? (xt.add 2)=some (pV.v)/\
 Br (decide (dr > (IntKind.i64.wrap ((pV.len:Int)+1)))) (
 zQg p2 λnl=>
 ∃bl,aH.cell? (nl.add 0)=some (.int .i64 bl)/\
 ∃aw:SV,aH.cell? (nl.add 1)=some (aw.v)/\
 ∃aC:SV,aH.cell? (nl.add 2)=some (aC.v)/\
 zQg p4 λxF=>
 stA prog 35 xF #[.int .i64 bl,aw.v,aC.v] aH λgQ=>
 zQb prog ds gQ λdW=>
 zQg p4 λrF=>
 ∃ag,dW.cell? (rF.add 0)=some (.int .i64 ag)/\
 ∃ab:SV,dW.cell? (rF.add 1)=some (ab.v)/\
 ∃ae:SV,dW.cell? (rF.add 2)=some (ae.v)/\
 R (.returned (.tuple #[.agg #[.int .i64 ag,ab.v,ae.v],.bool false])) dW) (
 Br (decide (dr > 300)) (
 zQg p2 λo5=>
 ∃bl,aH.cell? (o5.add 0)=some (.int .i64 bl)/\
 ∃aw:SV,aH.cell? (o5.add 1)=some (aw.v)/\
 ∃aC:SV,aH.cell? (o5.add 2)=some (aC.v)/\
 zQg p4 λsY=>
 stA prog 35 sY #[.int .i64 bl,aw.v,aC.v] aH λgk=>
 zQb prog ds gk λfW=>
 zQg p4 λtj=>
 ∃ag,fW.cell? (tj.add 0)=some (.int .i64 ag)/\
 ∃ab:SV,fW.cell? (tj.add 1)=some (ab.v)/\
 ∃ae:SV,fW.cell? (tj.add 2)=some (ae.v)/\
 R (.returned (.tuple #[.agg #[.int .i64 ag,ab.v,ae.v],.bool false])) fW) (
 zQg p2 λsZ=>
 ∃iX:SV,aH.cell? (sZ.add 2)=some (iX.v)/\
 Br (decide (dr > (iX.len:Int))) (
 zQg p2 λqL=>
 ∃aD:SV,aH.cell? (qL.add 2)=some (aD.v)/\
 ∃jY,aH.cell? ((⟨cq,0,none⟩:Addr).add 0)=some (.bool jY)/\
 ∃cX:SV,aH.cell? ((⟨cq,0,none⟩:Addr).add 1)=some (cX.v)/\
 alE (.cells #[.bool jY,cX.v] 67) aH λcz j4=>
 ∃aE:SV,∃nG,(Builtin.append_ #[33,33] 33 #[aD.v,.slice (some ⟨cz,0,none⟩) 1 1]).run prog j4=.ok (aE.v) nG/\
 zQg p2 λa39=>
 st1 (a39.add 2) (aE.v) nG λrq=>
 zYF R J1 p2 p4 n6 n8 l9 ds rq) (
 zQg p2 λyU=>
 ∃oy:SV,aH.cell? (yU.add 2)=some (oy.v)/\
 ∃jZ,aH.cell? ((⟨cq,0,none⟩:Addr).add 0)=some (.bool jZ)/\
 ∃cY:SV,aH.cell? ((⟨cq,0,none⟩:Addr).add 1)=some (cY.v)/\
 ∃td,oy.a=some td/\0<=(IntKind.i64.wrap (dr - 1))/\(IntKind.i64.wrap (dr - 1))<(oy.len:Int)/\
 stA prog 67 (td.add ((IntKind.i64.wrap (dr - 1)).toNat * 2)) #[.bool jZ,cY.v] aH λqo=>
 zYF R J1 p2 p4 n6 n8 l9 ds qo))))))/\(
 alE (.cells #[.bool false,.slice none 0 0] 67) w9 λcq kX=>
 S2 kX/\
 Calls prog 129 #[.agg #[.int .i64 ls,iM.v,iN.v],.slice (if l9.cap=(2:Int).toNat then l9.a else l9.a.map (λx=>x.add ((2:Int).toNat * 1))) ((IntKind.i64.wrap (n6+2)).toNat - (2:Int).toNat) (l9.cap - (2:Int).toNat)] kX λe qR=>
 ∃iO:Bool,∃cH:SV,∃kI:Bool,e=.returned (.tuple #[.agg #[.bool iO,cH.v],.bool kI])/\
 stA prog 67 (⟨cq,0,none⟩:Addr) #[.bool iO,cH.v] qR λgp=>
 Br (!kI) (
 zQg p2 λyV=>
 ∃bl,gp.cell? (yV.add 0)=some (.int .i64 bl)/\
 ∃aw:SV,gp.cell? (yV.add 1)=some (aw.v)/\
 ∃aC:SV,gp.cell? (yV.add 2)=some (aC.v)/\
 zQg p4 λa48=>
 stA prog 35 a48 #[.int .i64 bl,aw.v,aC.v] gp λte=>
 zQb prog ds te λvu=>
 zQg p4 λa51=>
 ∃ag,vu.cell? (a51.add 0)=some (.int .i64 ag)/\
 ∃ab:SV,vu.cell? (a51.add 1)=some (ab.v)/\
 ∃ae:SV,vu.cell? (a51.add 2)=some (ae.v)/\
 R (.returned (.tuple #[.agg #[.int .i64 ag,ab.v,ae.v],.bool false])) vu) (
 Br (decide (dr<1)) (
 zQg p2 λxm=>
 ∃bl,gp.cell? (xm.add 0)=some (.int .i64 bl)/\
 ∃aw:SV,gp.cell? (xm.add 1)=some (aw.v)/\
 ∃aC:SV,gp.cell? (xm.add 2)=some (aC.v)/\
 zQg p4 λa53=>
 stA prog 35 a53 #[.int .i64 bl,aw.v,aC.v] gp λsN=>
 zQb prog ds sN λrG=>
 zQg p4 λzo=>
 ∃ag,rG.cell? (zo.add 0)=some (.int .i64 ag)/\
 ∃ab:SV,rG.cell? (zo.add 1)=some (ab.v)/\
 ∃ae:SV,rG.cell? (zo.add 2)=some (ae.v)/\
 R (.returned (.tuple #[.agg #[.int .i64 ag,ab.v,ae.v],.bool false])) rG) (
 zQg p2 λa57=>
 ∃pV:SV,gp.cell? (a57.add 2)=some (pV.v)/\
 Br (decide (dr > (IntKind.i64.wrap ((pV.len:Int)+1)))) (
 zQg p2 λa58=>
 ∃bl,gp.cell? (a58.add 0)=some (.int .i64 bl)/\
 ∃aw:SV,gp.cell? (a58.add 1)=some (aw.v)/\
 ∃aC:SV,gp.cell? (a58.add 2)=some (aC.v)/\
 zQg p4 λa59=>
 stA prog 35 a59 #[.int .i64 bl,aw.v,aC.v] gp λpE=>
 zQb prog ds pE λqp=>
 zQg p4 λa62=>
 ∃ag,qp.cell? (a62.add 0)=some (.int .i64 ag)/\
 ∃ab:SV,qp.cell? (a62.add 1)=some (ab.v)/\
 ∃ae:SV,qp.cell? (a62.add 2)=some (ae.v)/\
 R (.returned (.tuple #[.agg #[.int .i64 ag,ab.v,ae.v],.bool false])) qp) (
 Br (decide (dr > 300)) (
 zQg p2 λa63=>
 ∃bl,gp.cell? (a63.add 0)=some (.int .i64 bl)/\
 ∃aw:SV,gp.cell? (a63.add 1)=some (aw.v)/\
 ∃aC:SV,gp.cell? (a63.add 2)=some (aC.v)/\
 zQg p4 λa64=>
 stA prog 35 a64 #[.int .i64 bl,aw.v,aC.v] gp λo7=>
 zQb prog ds o7 λpF=>
 zQg p4 λvh=>
 ∃ag,pF.cell? (vh.add 0)=some (.int .i64 ag)/\
 ∃ab:SV,pF.cell? (vh.add 1)=some (ab.v)/\
 ∃ae:SV,pF.cell? (vh.add 2)=some (ae.v)/\
 R (.returned (.tuple #[.agg #[.int .i64 ag,ab.v,ae.v],.bool false])) pF) (
 zQg p2 λa68=>
 ∃iX:SV,gp.cell? (a68.add 2)=some (iX.v)/\
 Br (decide (dr > (iX.len:Int))) (
 zQg p2 λa69=>
 ∃aD:SV,gp.cell? (a69.add 2)=some (aD.v)/\
 ∃jY,gp.cell? ((⟨cq,0,none⟩:Addr).add 0)=some (.bool jY)/\
 ∃cX:SV,gp.cell? ((⟨cq,0,none⟩:Addr).add 1)=some (cX.v)/\
 alE (.cells #[.bool jY,cX.v] 67) gp λcz yX=>
 ∃aE:SV,∃qN,(Builtin.append_ #[33,33] 33 #[aD.v,.slice (some ⟨cz,0,none⟩) 1 1]).run prog yX=.ok (aE.v) qN/\
 zQg p2 λa72=>
 st1 (a72.add 2) (aE.v) qN λt8=>
 zYF R J1 p2 p4 n6 n8 l9 ds t8) (
 zQg p2 λa74=>
 ∃oy:SV,gp.cell? (a74.add 2)=some (oy.v)/\
 ∃jZ,gp.cell? ((⟨cq,0,none⟩:Addr).add 0)=some (.bool jZ)/\
 ∃cY:SV,gp.cell? ((⟨cq,0,none⟩:Addr).add 1)=some (cY.v)/\
 ∃a75,oy.a=some a75/\0<=(IntKind.i64.wrap (dr - 1))/\(IntKind.i64.wrap (dr - 1))<(oy.len:Int)/\
 stA prog 67 (a75.add ((IntKind.i64.wrap (dr - 1)).toNat * 2)) #[.bool jZ,cY.v] gp λo1=>
 zYF R J1 p2 p4 n6 n8 l9 ds o1))))))
def F89_4 (R:Rt) (J1:(SV)->World->Prop) (p2 p4:Option Addr) (n6 n8:Int) (l9:SV) (ds:Ds) (w:World):Prop:=
 Br (decide ((l9.len:Int) > 0)) (
 F89_3 R J1 p2 p4 n6 n8 l9 ds w) (
 F89_1 R p2 p4 n8 ds w)
def F89_5(R:Rt)(p2 p4:Option Addr)(n6 n8:Int)(l9:SV)(ds:Ds)(w:World):Prop:=
 zQE (λ(J1:(SV)->World->Prop) (s:SV) (w:World)=>F89_4 R J1 p2 p4 n6 n8 s ds w) l9 w
def F89_7(R:Rt)(ax:Int)(ah ai l1:SV)(ds:Ds)(w:World):Prop:=
 alE (.cells #[.int .i64 ax,ah.v,ai.v] 35) w λr2 yk=>
 alE (.cells #[.int .i64 0,.slice none 0 0,.slice none 0 0] 35) yk λr4 w78=>
 ∃fh:SV,w78.cell? ((⟨r2,0,none⟩:Addr).add 1)=some (fh.v)/\
 Calls prog 128 #[fh.v] w78 λe qS=>
 ∃kJ:Int,∃n16_1:Int,e=.returned (.tuple #[.int .i64 kJ,.int .i64 n16_1])/\
 Br (decide ((l1.len:Int)<2)) (
 ∃bK,qS.cell? ((⟨r2,0,none⟩:Addr).add 0)=some (.int .i64 bK)/\
 ∃aP:SV,qS.cell? ((⟨r2,0,none⟩:Addr).add 1)=some (aP.v)/\
 ∃aQ:SV,qS.cell? ((⟨r2,0,none⟩:Addr).add 2)=some (aQ.v)/\
 stA prog 35 (⟨r4,0,none⟩:Addr) #[.int .i64 bK,aP.v,aQ.v] qS λyo=>
 zQb prog ds yo λym=>
 ∃ag,ym.cell? ((⟨r4,0,none⟩:Addr).add 0)=some (.int .i64 ag)/\
 ∃ab:SV,ym.cell? ((⟨r4,0,none⟩:Addr).add 1)=some (ab.v)/\
 ∃ae:SV,ym.cell? ((⟨r4,0,none⟩:Addr).add 2)=some (ae.v)/\
 R (.returned (.tuple #[.agg #[.int .i64 ag,ab.v,ae.v],.bool false])) ym) (
 IntKind.i64=IntKind.i64/\((IntKind.i64.wrap (kJ+2)):Int) ≠ 0/\
 Br (((IntKind.i64.wrap ((l1.len:Int) - 2)).tmod (IntKind.i64.wrap (kJ+2))) != 0) (
 ∃bK,qS.cell? ((⟨r2,0,none⟩:Addr).add 0)=some (.int .i64 bK)/\
 ∃aP:SV,qS.cell? ((⟨r2,0,none⟩:Addr).add 1)=some (aP.v)/\
 ∃aQ:SV,qS.cell? ((⟨r2,0,none⟩:Addr).add 2)=some (aQ.v)/\
 stA prog 35 (⟨r4,0,none⟩:Addr) #[.int .i64 bK,aP.v,aQ.v] qS λw82=>
 zQb prog ds w82 λyn=>
 ∃ag,yn.cell? ((⟨r4,0,none⟩:Addr).add 0)=some (.int .i64 ag)/\
 ∃ab:SV,yn.cell? ((⟨r4,0,none⟩:Addr).add 1)=some (ab.v)/\
 ∃ae:SV,yn.cell? ((⟨r4,0,none⟩:Addr).add 2)=some (ae.v)/\
 R (.returned (.tuple #[.agg #[.int .i64 ag,ab.v,ae.v],.bool false])) yn) (
 0<=(2:Int)/\(2:Int).toNat<=l1.cap/\0<=(2:Int).toNat/\
 Calls prog 126 #[.slice (if l1.cap=0 then l1.a else l1.a.map (λx=>x.add (0 * 1))) ((2:Int).toNat - 0) (l1.cap - 0)] qS λe w84=>
 ∃rH:Int,e=.returned (.int .i64 rH)/\
 ∃oz,w84.cell? ((⟨r2,0,none⟩:Addr).add 0)=some (.int .i64 oz)/\
 ∃ft:SV,w84.cell? ((⟨r2,0,none⟩:Addr).add 1)=some (ft.v)/\
 ∃lK:SV,w84.cell? ((⟨r2,0,none⟩:Addr).add 2)=some (lK.v)/\
 Calls prog 56 #[.agg #[.int .i64 oz,ft.v,lK.v]] w84 λe w85=>
 ∃gN:Int,∃cf:SV,∃cg:SV,e=.returned (.agg #[.int .i64 gN,cf.v,cg.v])/\
 stA prog 35 (⟨r2,0,none⟩:Addr) #[.int .i64 gN,cf.v,cg.v] w85 λw86=>
 l1.len<=l1.cap/\0<=(2:Int)/\(2:Int).toNat<=l1.len/\
 F89_5 R (some (⟨r2,0,none⟩:Addr)) (some (⟨r4,0,none⟩:Addr)) kJ rH ⟨(if l1.cap=(2:Int).toNat then l1.a else l1.a.map (λx=>x.add ((2:Int).toNat * 1))),(l1.len - (2:Int).toNat),(l1.cap - (2:Int).toNat)⟩ ds w86))
theorem F89_p:Pl prog f89 [aS 0 [.int .i64,.slice,.slice],lS 1] F89_7:=λR=>
 pc 7 (rest [pS 2,pS 4,iS 6,iS 8,lS 9] (F89_5 R) (bk 0 (rest [pS 2,pS 4,iS 8] (F89_1 R) lf) (lp [lS 9] [pS 2,pS 4,iS 6,iS 8,lS 9] (F89_4 R) zXL λJ1=>pc 2 (rest [pS 2,pS 4,iS 6,iS 8,lS 9] (F89_3 R J1) (pc 1 (rest [pS 2,pS 4,iS 6,iS 8,lS 9] (zYF R J1) lf))))))
theorem xX8 (ax:Int) (ah ai l1:SV) (w:World) (R:Rt) (h:F89_7 R ax ah ai l1 [] w):Calls prog 89 #[.agg #[.int .i64 ax,ah.v,ai.v],l1.v] w R:=
 plC F89_p func89 h
end Go.Proofs.YtaeecpjhfmcliaaGreatDoor
/- Shallow texts of functions, printed by program, each checked by the kernel against the loaded code. No condition. -/
namespace Go.Proofs.YtaeecpjhfmcliaaGreatDoor
open Go.Sh Tryz
def F71_1(R:Rt)(p2 p3:Option Addr)(ds:Ds)(w:World):Prop:=
 zQg p3 λa1=>
 ∃cQ,w.cell? (a1.add 0)=some (.int .i64 cQ)/\
 ∃cA:SV,w.cell? (a1.add 1)=some (cA.v)/\
 ∃eZ:SV,w.cell? (a1.add 2)=some (eZ.v)/\
 zQg p2 λa2=>
 stA prog 35 a2 #[.int .i64 cQ,cA.v,eZ.v] w λw3=>
 zQb prog ds w3 λw4=>
 zQg p2 λa5=>
 ∃ag,w4.cell? (a5.add 0)=some (.int .i64 ag)/\
 ∃ab:SV,w4.cell? (a5.add 1)=some (ab.v)/\
 ∃ae:SV,w4.cell? (a5.add 2)=some (ae.v)/\
 R (.returned (.agg #[.int .i64 ag,ab.v,ae.v])) w4
def F71_2 (R:Rt) (J1:(Int)->World->Prop) (p1 p2 p3:Option Addr) (n4:Int) (ds:Ds) (w:World):Prop:=
 zQg p1 λa6=>
 ∃cD:SV,w.cell? (a6.add 2)=some (cD.v)/\
 Br (decide (n4<(cD.len:Int))) (
 dwE w λw7=>
 ∃S1:World->Prop,S1 w7/\
 zQg p3 λa8=>
 ∃dg:SV,(∀w',S1 w'->w'.cell? (a8.add 2)=some (dg.v))/\
 zQg p1 λa9=>
 ∃cK:SV,(∀w',S1 w'->w'.cell? (a9.add 2)=some (cK.v))/\
 ∃dx,cK.a=some dx/\0<=n4/\n4<(cK.len:Int)/\
 ∃oA,(∀w',S1 w'->w'.cell? ((dx.add (n4.toNat * 2)).add 0)=some (.bool oA))/\
 ∃ci:SV,(∀w',S1 w'->w'.cell? ((dx.add (n4.toNat * 2)).add 1)=some (ci.v))/\
 Calls prog 102 #[.agg #[.bool oA,ci.v]] w7 λe aV=>
 ∃vB:Bool,∃lL:SV,e=.returned (.agg #[.bool vB,lL.v])/\
 S1 aV/\
 alE (.cells #[.bool vB,lL.v] 67) aV λr26 aO=>
 S1 aO/\
 ∃bV:SV,∃aH,(Builtin.append_ #[33,33] 33 #[dg.v,.slice (some ⟨r26,0,none⟩) 1 1]).run prog aO=.ok (bV.v) aH/\
 zQg p3 λf7=>
 st1 (f7.add 2) (bV.v) aH λbp=>
 J1 (IntKind.i64.wrap (n4+1)) bp) (
 F71_1 R p2 p3 ds w)
def xZY(R:Rt)(p1 p2 p3:Option Addr)(n4:Int)(ds:Ds)(w:World):Prop:=
 zQE (λ(J1:(Int)->World->Prop) (s:Int) (w:World)=>F71_2 R J1 p1 p2 p3 s ds w) n4 w
def F71_5(R:Rt)(ax:Int)(ah ai:SV)(ds:Ds)(w:World):Prop:=
 alE (.cells #[.int .i64 ax,ah.v,ai.v] 35) w λr1 bG=>
 alE (.cells #[.int .i64 0,.slice none 0 0,.slice none 0 0] 35) bG λr2 bH=>
 dwE bH λbO=>
 ∃S2:World->Prop,S2 bO/\
 ∃n6,(∀w',S2 w'->w'.cell? (⟨r1,0,none⟩:Addr)=some (.int .i64 n6))/\
 ∃l8:SV,(∀w',S2 w'->w'.cell? ((⟨r1,0,none⟩:Addr).add 1)=some (l8.v))/\
 (
 ∃l9:SV,∃cL,(Builtin.append_ #[32,32] 32 #[.slice none 0 0,l8.v]).run prog bO=.ok (l9.v) cL/\
 S2 cL/\
 alE (.cells #[.int .i64 0,.slice none 0 0,.slice none 0 0] 35) cL λr3 bU=>
 S2 bU/\
 stA prog 35 (⟨r3,0,none⟩:Addr) #[.int .i64 n6,l9.v,.slice none 0 0] bU λct=>
 xZY R (some (⟨r1,0,none⟩:Addr)) (some (⟨r2,0,none⟩:Addr)) (some (⟨r3,0,none⟩:Addr)) 0 ds ct)/\(
 alE (.cells #[.int .i64 0,.slice none 0 0,.slice none 0 0] 35) bO λr3 dX=>
 S2 dX/\
 ∃l9:SV,∃dV,(Builtin.append_ #[32,32] 32 #[.slice none 0 0,l8.v]).run prog dX=.ok (l9.v) dV/\
 S2 dV/\
 stA prog 35 (⟨r3,0,none⟩:Addr) #[.int .i64 n6,l9.v,.slice none 0 0] dV λdy=>
 xZY R (some (⟨r1,0,none⟩:Addr)) (some (⟨r2,0,none⟩:Addr)) (some (⟨r3,0,none⟩:Addr)) 0 ds dy)
theorem F71_p:Pl prog f71 [aS 0 [.int .i64,.slice,.slice]] F71_5:=λR=>
 pc 3 (rest [pS 1,pS 2,pS 3,iS 4] (xZY R) (bk 0 (rest [pS 2,pS 3] (F71_1 R) lf) (lp [iS 4] [pS 1,pS 2,pS 3,iS 4] (F71_2 R) zXL λJ1=>lf)))
theorem xQf (ax:Int) (ah ai:SV) (w:World) (R:Rt) (h:F71_5 R ax ah ai [] w):Calls prog 71 #[.agg #[.int .i64 ax,ah.v,ai.v]] w R:=
 plC F71_p func71 h
def xYt(R:Rt)(nq:Bool)(ah:SV)(ds:Ds)(w:World):Prop:=
 alE (.cells #[.bool nq,ah.v] 67) w λr1 w1=>
 alE (.cells #[.bool false,.slice none 0 0] 67) w1 λr2 w2=>
 dwE w2 λw3=>
 ∃S1:World->Prop,S1 w3/\
 ∃b4,(∀w',S1 w'->w'.cell? (⟨r1,0,none⟩:Addr)=some (.bool b4))/\
 ∃l6:SV,(∀w',S1 w'->w'.cell? ((⟨r1,0,none⟩:Addr).add 1)=some (l6.v))/\
 ∃l7:SV,∃w4,(Builtin.append_ #[38,38] 38 #[.slice none 0 0,l6.v]).run prog w3=.ok (l7.v) w4/\
 S1 w4/\
 stA prog 67 (⟨r2,0,none⟩:Addr) #[.bool b4,l7.v] w4 λw5=>
 zQb prog ds w5 λw6=>
 ∃bL,w6.cell? ((⟨r2,0,none⟩:Addr).add 0)=some (.bool bL)/\
 ∃ab:SV,w6.cell? ((⟨r2,0,none⟩:Addr).add 1)=some (ab.v)/\
 R (.returned (.agg #[.bool bL,ab.v])) w6
theorem F102_p:Pl prog f102 [aS 0 [.bool,.slice]] xYt:=λR=>
 lf
theorem yWU (nq:Bool) (ah:SV) (w:World) (R:Rt) (h:xYt R nq ah [] w):Calls prog 102 #[.agg #[.bool nq,ah.v]] w R:=
 plC F102_p func102 h
end Go.Proofs.YtaeecpjhfmcliaaGreatDoor
/- Shallow texts of functions, printed by program, each checked by the kernel against the loaded code. No condition. -/
namespace Go.Proofs.YtaeecpjhfmcliaaGreatDoor
open Go.Sh Tryz
def F95_1(R:Rt)(p0:Option Addr)(ds:Ds)(w:World):Prop:=
 zQg p0 λa1=>
 Calls prog 137 #[.pointer (some a1)] w λe w2=>
 e=.returned (.tuple #[])/\
 zQb prog ds w2 λw3=>
 R (.returned (.tuple #[])) w3
theorem F95_p:Pl prog f95 [pS 0] F95_1:=λR=>
 lf
theorem xQI (p0:Option Addr) (w:World) (R:Rt) (h:F95_1 R p0 [] w):Calls prog 95 #[.pointer p0] w R:=
 plC F95_p func95 h
def F96_1(R:Rt)(p0:Option Addr)(ds:Ds)(w:World):Prop:=
 zQg p0 λa1=>
 Calls prog 138 #[.pointer (some a1)] w λe w2=>
 e=.returned (.tuple #[])/\
 zQb prog ds w2 λw3=>
 R (.returned (.tuple #[])) w3
theorem F96_p:Pl prog f96 [pS 0] F96_1:=λR=>
 lf
theorem yKW (p0:Option Addr) (w:World) (R:Rt) (u:FrameMode) (h:F96_1 R p0 [] w):CallsD prog 96 #[.pointer p0] u w λe u' w'=>u'=u/\R e w':=
 plD F96_p func96 u h
def xVr(R:Rt)(p0:Option Addr)(ds:Ds)(w:World):Prop:=
 ∃w1,(callFunc 169 #[]).run prog w=.ok (.value (.tuple #[])) w1/\
 zQg p0 λa2=>
 ∃b6:Bool,∃w3,(callFunc 170 #[.pointer (some a2),.int .i32 0,.int .i32 1]).run prog w1=.ok (.value (.bool b6)) w3/\
 Br b6 (
 ∃w4,(callFunc 171 #[]).run prog w3=.ok (.value (.tuple #[])) w4/\
 ∃v9:Value,∃w5,(convert 197 201 (.pointer p0)).run prog w4=.ok (v9) w5/\
 ∃w6,(callFunc 172 #[v9]).run prog w5=.ok (.value (.tuple #[])) w6/\
 zQb prog ds w6 λw7=>
 R (.returned (.tuple #[])) w7) (
 Calls prog 173 #[.pointer p0] w3 λe w8=>
 e=.returned (.tuple #[])/\
 zQb prog ds w8 λw9=>
 R (.returned (.tuple #[])) w9)
theorem F137_p:Pl prog f137 [pS 0] xVr:=λR=>
 lf
theorem yVP (p0:Option Addr) (w:World) (R:Rt) (h:xVr R p0 [] w):Calls prog 137 #[.pointer p0] w R:=
 plC F137_p func137 h
def xJR(R:Rt)(p0:Option Addr)(ds:Ds)(w:World):Prop:=
 zQg p0 λa1=>
 ∃n6,w.cell? a1=some (.int .i32 n6)/\
 ∃v8:Value,∃w2,(convert 197 201 (.pointer p0)).run prog w=.ok (v8) w2/\
 ∃w3,(callFunc 174 #[v8]).run prog w2=.ok (.value (.tuple #[])) w3/\
 ∃w4,(callFunc 169 #[]).run prog w3=.ok (.value (.tuple #[])) w4/\
 zQg p0 λa5=>
 ∃kU:Int,∃w6,(callFunc 175 #[.pointer (some a5),.int .i32 (-1)]).run prog w4=.ok (.value (.int .i32 kU)) w6/\
 Br (kU != 0) (
 Calls prog 176 #[.pointer p0,.int .i32 kU] w6 λe w7=>
 e=.returned (.tuple #[])/\
 ∃w8,(callFunc 171 #[]).run prog w7=.ok (.value (.tuple #[])) w8/\
 zQb prog ds w8 λw9=>
 R (.returned (.tuple #[])) w9) (
 ∃aN,(callFunc 171 #[]).run prog w6=.ok (.value (.tuple #[])) aN/\
 zQb prog ds aN λaV=>
 R (.returned (.tuple #[])) aV)
theorem F138_p:Pl prog f138 [pS 0] xJR:=λR=>
 lf
theorem yWf (p0:Option Addr) (w:World) (R:Rt) (h:xJR R p0 [] w):Calls prog 138 #[.pointer p0] w R:=
 plC F138_p func138 h
def F55_1(R:Rt)(p0:Option Addr)(ds:Ds)(w:World):Prop:=
 ∃b5:Bool,∃w1,(eqS .eql 24 (.tmp 4) (.const (.pointer none)) (.pointer p0) (.pointer none)).run prog w=.ok (.bool b5) w1/\
 Br b5 (
 zQb prog ds w1 λw2=>
 R (.returned (.tuple #[.func (.func 94) #[] #[],.int .i64 9])) w2) (
 zQg p0 λa3=>
 Calls prog 95 #[.pointer (some a3)] w1 λe w4=>
 e=.returned (.tuple #[])/\
 zQg p0 λa5=>
 zQb prog ds w4 λw6=>
 R (.returned (.tuple #[.func (.func 96) #[.pointer (some a5)] #[],.int .i64 0])) w6)
theorem F55_p:Pl prog f55 [pS 0] F55_1:=λR=>
 lf
theorem yYB (p0:Option Addr) (w:World) (R:Rt) (h:F55_1 R p0 [] w):Calls prog 55 #[.pointer p0] w R:=
 plC F55_p func55 h
end Go.Proofs.YtaeecpjhfmcliaaGreatDoor
/- Shallow texts of functions, printed by program, each checked by the kernel against the loaded code. No condition. -/
namespace Go.Proofs.YtaeecpjhfmcliaaGreatDoor
open Go.Sh Tryz
def F11_1(R:Rt)(l6:SV)(p7:Option Addr)(ds:Ds)(w:World):Prop:=
 zQg p7 λa1=>
 ∃eO,w.cell? (a1.add 0)=some (.int .i64 eO)/\
 ∃cj:SV,w.cell? (a1.add 1)=some (cj.v)/\
 ∃ck:SV,w.cell? (a1.add 2)=some (ck.v)/\
 Calls prog 50 #[.agg #[.int .i64 eO,cj.v,ck.v],l6.v] w λe w2=>
 ∃p39:Option Addr,e=.returned (.pointer p39)/\
 zQb prog ds w2 λw3=>
 R (.returned (.tuple #[.pointer p39,.int .i64 0])) w3
def F11_2 (R:Rt) (J1:(SV × Int)->World->Prop) (l6:SV) (p7:Option Addr) (bV:SV) (kP o2:Int) (ds:Ds) (w:World):Prop:=
 Br (decide (o2<kP)) (
 ∃a4,bV.a=some a4/\0<=o2/\o2<(bV.len:Int)/\
 ∃jQ,w.cell? ((a4.add (o2.toNat * 3)).add 0)=some (.int .i64 jQ)/\
 ∃nX,w.cell? ((a4.add (o2.toNat * 3)).add 1)=some (.int .i64 nX)/\
 ∃fK:SV,w.cell? ((a4.add (o2.toNat * 3)).add 2)=some (fK.v)/\
 alE (.cells #[.int .i64 0,.int .i64 0,.slice none 0 0] 90) w λnF w5=>
 stA prog 90 (⟨nF,0,none⟩:Addr) #[.int .i64 jQ,.int .i64 nX,fK.v] w5 λw6=>
 ∃vC,w6.cell? ((⟨nF,0,none⟩:Addr).add 0)=some (.int .i64 vC)/\
 ∃om,w6.cell? ((⟨nF,0,none⟩:Addr).add 1)=some (.int .i64 om)/\
 ∃lM:SV,w6.cell? ((⟨nF,0,none⟩:Addr).add 2)=some (lM.v)/\
 Calls prog 49 #[l6.v,.agg #[.int .i64 vC,.int .i64 om,lM.v]] w6 λe w7=>
 ∃iv:SV,e=.returned (iv.v)/\
 J1 (iv,(IntKind.i64.wrap (o2+1))) w7) (
 F11_1 R l6 p7 ds w)
def F11_3(R:Rt)(l6:SV)(p7:Option Addr)(bV:SV)(kP o2:Int)(ds:Ds)(w:World):Prop:=
 zQE (λ(J1:(SV × Int)->World->Prop) (s:SV × Int) (w:World)=>F11_2 R J1 s.1 p7 bV kP s.2 ds w) (l6,o2) w
def F11_5(R:Rt)(l0 l1:SV)(ds:Ds)(w:World):Prop:=
 alE (.cells #[l0.v,l1.v] 22) w λr15 w8=>
 Calls prog 46 #[.slice (some ⟨r15,0,none⟩) 2 2] w8 λe w9=>
 ∃cO:SV,e=.returned (cO.v)/\
 Calls prog 47 #[cO.v] w9 λe aN=>
 ∃iL:Int,∃cF:SV,∃cG:SV,∃bT:Int,∃b19_2:Bool,∃gz:Bool,e=.returned (.tuple #[.agg #[.int .i64 iL,cF.v,cG.v],.int .i64 bT,.bool b19_2,.bool gz])/\
 alE (.cells #[.int .i64 0,.slice none 0 0,.slice none 0 0] 35) aN λr7 aV=>
 stA prog 35 (⟨r7,0,none⟩:Addr) #[.int .i64 iL,cF.v,cG.v] aV λaO=>
 Br (!gz) (
 zQb prog ds aO λaH=>
 R (.returned (.tuple #[.pointer none,.int .i64 11])) aH) (
 Calls prog 48 #[cO.v] aO λe bq=>
 ∃bV:SV,e=.returned (bV.v)/\
 F11_3 R cO (some (⟨r7,0,none⟩:Addr)) bV (bV.len:Int) 0 ds bq)
theorem F11_p:Pl prog f11 [lS 0,lS 1] F11_5:=λR=>
 pc 6 (rest [lS 6,pS 7,lS 27,iS 28,iS 29] (F11_3 R) (bk 0 (rest [lS 6,pS 7] (F11_1 R) lf) (lp [lS 6,iS 29] [lS 6,pS 7,lS 27,iS 28,iS 29] (F11_2 R) zXL λJ1=>lf)))
theorem xZf (l0 l1:SV) (w:World) (R:Rt) (h:F11_5 R l0 l1 [] w):Calls prog 11 #[l0.v,l1.v] w R:=
 plC F11_p func11 h
def F50_1(R:Rt)(ax:Int)(ah ai l1:SV)(ds:Ds)(w:World):Prop:=
 alE (.cells #[.int .i64 ax,ah.v,ai.v] 35) w λr2 w1=>
 dwE w1 λw2=>
 ∃S1:World->Prop,S1 w2/\
 ∃iK,(∀w',S1 w'->w'.cell? ((⟨r2,0,none⟩:Addr).add 0)=some (.int .i64 iK))/\
 ∃dA:SV,(∀w',S1 w'->w'.cell? ((⟨r2,0,none⟩:Addr).add 1)=some (dA.v))/\
 ∃cE:SV,(∀w',S1 w'->w'.cell? ((⟨r2,0,none⟩:Addr).add 2)=some (cE.v))/\
 ∃dF,(∀w',S1 w'->w'.cell? ((⟨r2,0,none⟩:Addr).add 0)=some (.int .i64 dF))/\
 ∃bW:SV,(∀w',S1 w'->w'.cell? ((⟨r2,0,none⟩:Addr).add 1)=some (bW.v))/\
 ∃bF:SV,(∀w',S1 w'->w'.cell? ((⟨r2,0,none⟩:Addr).add 2)=some (bF.v))/\
 Calls prog 56 #[.agg #[.int .i64 iK,dA.v,cE.v]] w2 λe w3=>
 ∃kE:Int,∃dB:SV,∃dC:SV,e=.returned (.agg #[.int .i64 kE,dB.v,dC.v])/\
 S1 w3/\
 Calls prog 56 #[.agg #[.int .i64 dF,bW.v,bF.v]] w3 λe w4=>
 ∃rB:Int,∃qx:SV,∃qy:SV,e=.returned (.agg #[.int .i64 rB,qx.v,qy.v])/\
 alE (.cells #[.int .i64 rB,qx.v,qy.v] 35) w4 λr9 w5=>
 alE (.cells #[.int .i32 0,.int .u32 0,.int .i64 kE,dB.v,dC.v,.slice none 0 0,.slice (some ⟨r9,0,none⟩) 1 1,l1.v,l1.v,.slice none 0 0,.slice none 0 0] 108) w5 λnS w6=>
 zQb prog ds w6 λw7=>
 R (.returned (.pointer (some (⟨nS,0,none⟩:Addr)))) w7
theorem F50_p:Pl prog f50 [aS 0 [.int .i64,.slice,.slice],lS 1] F50_1:=λR=>
 lf
theorem xXB (ax:Int) (ah ai l1:SV) (w:World) (R:Rt) (h:F50_1 R ax ah ai l1 [] w):Calls prog 50 #[.agg #[.int .i64 ax,ah.v,ai.v],l1.v] w R:=
 plC F50_p func50 h
end Go.Proofs.YtaeecpjhfmcliaaGreatDoor
/- Shallow texts of functions, printed by program, each checked by the kernel against the loaded code. No condition. -/
namespace Go.Proofs.YtaeecpjhfmcliaaGreatDoor
open Go.Sh Tryz
def F43_1(R:Rt)(ax:Int)(ah ai:SV)(ds:Ds)(w:World):Prop:=
 alE (.cells #[.int .i64 ax,ah.v,ai.v] 35) w λr1 w1=>
 ∃dF,w1.cell? ((⟨r1,0,none⟩:Addr).add 0)=some (.int .i64 dF)/\
 ∃bW:SV,w1.cell? ((⟨r1,0,none⟩:Addr).add 1)=some (bW.v)/\
 ∃bF:SV,w1.cell? ((⟨r1,0,none⟩:Addr).add 2)=some (bF.v)/\
 Calls prog 86 #[.agg #[.int .i64 dF,bW.v,bF.v]] w1 λe w2=>
 ∃qz:SV,∃lm:Int,e=.returned (.tuple #[qz.v,.int .i64 lm])/\
 Br (lm != 0) (
 zQb prog ds w2 λw3=>
 R (.returned (.tuple #[.pointer none,.int .i64 lm])) w3) (
 ∃od,w2.cell? ((⟨r1,0,none⟩:Addr).add 0)=some (.int .i64 od)/\
 ∃cR:SV,w2.cell? ((⟨r1,0,none⟩:Addr).add 1)=some (cR.v)/\
 ∃fA:SV,w2.cell? ((⟨r1,0,none⟩:Addr).add 2)=some (fA.v)/\
 alE (.cells #[qz.v,.slice none 0 0] 22) w2 λr16 w4=>
 Calls prog 50 #[.agg #[.int .i64 od,cR.v,fA.v],.slice (some ⟨r16,0,none⟩) 2 2] w4 λe w5=>
 ∃p17:Option Addr,e=.returned (.pointer p17)/\
 zQb prog ds w5 λw6=>
 R (.returned (.tuple #[.pointer p17,.int .i64 0])) w6)
theorem F43_p:Pl prog f43 [aS 0 [.int .i64,.slice,.slice]] F43_1:=λR=>
 lf
theorem xQm (ax:Int) (ah ai:SV) (w:World) (R:Rt) (h:F43_1 R ax ah ai [] w):Calls prog 43 #[.agg #[.int .i64 ax,ah.v,ai.v]] w R:=
 plC F43_p func43 h
end Go.Proofs.YtaeecpjhfmcliaaGreatDoor
/- Shallow texts of functions, printed by program, each checked by the kernel against the loaded code. No condition. -/
namespace Go.Proofs.YtaeecpjhfmcliaaGreatDoor
open Go.Sh Tryz
def F14_1(R:Rt)(p0:Option Addr)(ds:Ds)(w:World):Prop:=
 alE (.cells #[.int .i64 0,.slice none 0 0,.slice none 0 0] 35) w λr2 w1=>
 Calls prog 55 #[.pointer p0] w1 λe w2=>
 ∃gO:Value,∃dp:Int,e=.returned (.tuple #[gO,.int .i64 dp])/\
 fnE gO λfx firstx capx=>
 Br (dp != 0) (
 stA prog 35 (⟨r2,0,none⟩:Addr) #[.int .i64 0,.slice none 0 0,.slice none 0 0] w2 λw3=>
 zQb prog ({ target:=.fn (.func fx) capx,args:=(firstx.toList ++ ([]:List Value)).toArray } :: ds) w3 λw4=>
 ∃ag,w4.cell? ((⟨r2,0,none⟩:Addr).add 0)=some (.int .i64 ag)/\
 ∃ab:SV,w4.cell? ((⟨r2,0,none⟩:Addr).add 1)=some (ab.v)/\
 ∃ae:SV,w4.cell? ((⟨r2,0,none⟩:Addr).add 2)=some (ae.v)/\
 R (.returned (.agg #[.int .i64 ag,ab.v,ae.v])) w4) (
 zQg p0 λa5=>
 ∃gx,w2.cell? ((a5.add 2).add 0)=some (.int .i64 gx)/\
 ∃cZ:SV,w2.cell? ((a5.add 2).add 1)=some (cZ.v)/\
 ∃c8:SV,w2.cell? ((a5.add 2).add 2)=some (c8.v)/\
 Calls prog 56 #[.agg #[.int .i64 gx,cZ.v,c8.v]] w2 λe w6=>
 ∃gw:Int,∃bY:SV,∃c9:SV,e=.returned (.agg #[.int .i64 gw,bY.v,c9.v])/\
 stA prog 35 (⟨r2,0,none⟩:Addr) #[.int .i64 gw,bY.v,c9.v] w6 λw7=>
 zQb prog ({ target:=.fn (.func fx) capx,args:=(firstx.toList ++ ([]:List Value)).toArray } :: ds) w7 λw8=>
 ∃ag,w8.cell? ((⟨r2,0,none⟩:Addr).add 0)=some (.int .i64 ag)/\
 ∃ab:SV,w8.cell? ((⟨r2,0,none⟩:Addr).add 1)=some (ab.v)/\
 ∃ae:SV,w8.cell? ((⟨r2,0,none⟩:Addr).add 2)=some (ae.v)/\
 R (.returned (.agg #[.int .i64 ag,ab.v,ae.v])) w8)
theorem F14_p:Pl prog f14 [pS 0] F14_1:=λR=>
 lf
theorem xZt (p0:Option Addr) (w:World) (R:Rt) (h:F14_1 R p0 [] w):Calls prog 14 #[.pointer p0] w R:=
 plC F14_p func14 h
def F27_1(R:Rt)(p0:Option Addr)(n1:Int)(ds:Ds)(w:World):Prop:=
 alE (.cells #[.int .i64 0,.slice none 0 0,.slice none 0 0] 35) w λr4 w1=>
 Calls prog 55 #[.pointer p0] w1 λe w2=>
 ∃vD:Value,∃jx:Int,e=.returned (.tuple #[vD,.int .i64 jx])/\
 fnE vD λfx firstx capx=>
 Br (jx != 0) (
 stA prog 35 (⟨r4,0,none⟩:Addr) #[.int .i64 0,.slice none 0 0,.slice none 0 0] w2 λw3=>
 zQb prog ({ target:=.fn (.func fx) capx,args:=(firstx.toList ++ ([]:List Value)).toArray } :: ds) w3 λw4=>
 ∃ag,w4.cell? ((⟨r4,0,none⟩:Addr).add 0)=some (.int .i64 ag)/\
 ∃ab:SV,w4.cell? ((⟨r4,0,none⟩:Addr).add 1)=some (ab.v)/\
 ∃ae:SV,w4.cell? ((⟨r4,0,none⟩:Addr).add 2)=some (ae.v)/\
 R (.returned (.tuple #[.agg #[.int .i64 ag,ab.v,ae.v],.int .i64 jx])) w4) (
 Br (decide (n1<0)) (
 stA prog 35 (⟨r4,0,none⟩:Addr) #[.int .i64 0,.slice none 0 0,.slice none 0 0] w2 λw5=>
 zQb prog ({ target:=.fn (.func fx) capx,args:=(firstx.toList ++ ([]:List Value)).toArray } :: ds) w5 λw6=>
 ∃ag,w6.cell? ((⟨r4,0,none⟩:Addr).add 0)=some (.int .i64 ag)/\
 ∃ab:SV,w6.cell? ((⟨r4,0,none⟩:Addr).add 1)=some (ab.v)/\
 ∃ae:SV,w6.cell? ((⟨r4,0,none⟩:Addr).add 2)=some (ae.v)/\
 R (.returned (.tuple #[.agg #[.int .i64 ag,ab.v,ae.v],.int .i64 1])) w6) (
 zQg p0 λa7=>
 ∃eg:SV,w2.cell? (a7.add 6)=some (eg.v)/\
 Br (decide (n1 >= (eg.len:Int))) (
 stA prog 35 (⟨r4,0,none⟩:Addr) #[.int .i64 0,.slice none 0 0,.slice none 0 0] w2 λw8=>
 zQb prog ({ target:=.fn (.func fx) capx,args:=(firstx.toList ++ ([]:List Value)).toArray } :: ds) w8 λw9=>
 ∃ag,w9.cell? ((⟨r4,0,none⟩:Addr).add 0)=some (.int .i64 ag)/\
 ∃ab:SV,w9.cell? ((⟨r4,0,none⟩:Addr).add 1)=some (ab.v)/\
 ∃ae:SV,w9.cell? ((⟨r4,0,none⟩:Addr).add 2)=some (ae.v)/\
 R (.returned (.tuple #[.agg #[.int .i64 ag,ab.v,ae.v],.int .i64 1])) w9) (
 zQg p0 λdx=>
 ∃iH:SV,w2.cell? (dx.add 6)=some (iH.v)/\
 ∃dY,iH.a=some dY/\0<=n1/\n1<(iH.len:Int)/\
 ∃gN,w2.cell? ((dY.add (n1.toNat * 3)).add 0)=some (.int .i64 gN)/\
 ∃cf:SV,w2.cell? ((dY.add (n1.toNat * 3)).add 1)=some (cf.v)/\
 ∃cg:SV,w2.cell? ((dY.add (n1.toNat * 3)).add 2)=some (cg.v)/\
 Calls prog 56 #[.agg #[.int .i64 gN,cf.v,cg.v]] w2 λe aO=>
 ∃eO:Int,∃cj:SV,∃ck:SV,e=.returned (.agg #[.int .i64 eO,cj.v,ck.v])/\
 stA prog 35 (⟨r4,0,none⟩:Addr) #[.int .i64 eO,cj.v,ck.v] aO λaH=>
 zQb prog ({ target:=.fn (.func fx) capx,args:=(firstx.toList ++ ([]:List Value)).toArray } :: ds) aH λbq=>
 ∃ag,bq.cell? ((⟨r4,0,none⟩:Addr).add 0)=some (.int .i64 ag)/\
 ∃ab:SV,bq.cell? ((⟨r4,0,none⟩:Addr).add 1)=some (ab.v)/\
 ∃ae:SV,bq.cell? ((⟨r4,0,none⟩:Addr).add 2)=some (ae.v)/\
 R (.returned (.tuple #[.agg #[.int .i64 ag,ab.v,ae.v],.int .i64 0])) bq)))
theorem F27_p:Pl prog f27 [pS 0,iS 1] F27_1:=λR=>
 lf
theorem xQT (p0:Option Addr) (n1:Int) (w:World) (R:Rt) (h:F27_1 R p0 n1 [] w):Calls prog 27 #[.pointer p0,.int .i64 n1] w R:=
 plC F27_p func27 h
def F22_1(R:Rt)(p0:Option Addr)(ds:Ds)(w:World):Prop:=
 Calls prog 55 #[.pointer p0] w λe w1=>
 ∃gO:Value,∃dp:Int,e=.returned (.tuple #[gO,.int .i64 dp])/\
 fnE gO λfx firstx capx=>
 Br (dp != 0) (
 zQb prog ({ target:=.fn (.func fx) capx,args:=(firstx.toList ++ ([]:List Value)).toArray } :: ds) w1 λw2=>
 R (.returned (.int .i64 0)) w2) (
 zQg p0 λa3=>
 ∃cO:SV,w1.cell? (a3.add 6)=some (cO.v)/\
 zQb prog ({ target:=.fn (.func fx) capx,args:=(firstx.toList ++ ([]:List Value)).toArray } :: ds) w1 λw4=>
 R (.returned (.int .i64 (IntKind.i64.wrap ((cO.len:Int) - 1)))) w4)
theorem F22_p:Pl prog f22 [pS 0] F22_1:=λR=>
 lf
theorem xZp (p0:Option Addr) (w:World) (R:Rt) (h:F22_1 R p0 [] w):Calls prog 22 #[.pointer p0] w R:=
 plC F22_p func22 h
def F30_1(R:Rt)(p0:Option Addr)(ds:Ds)(w:World):Prop:=
 Calls prog 55 #[.pointer p0] w λe w1=>
 ∃gO:Value,∃dp:Int,e=.returned (.tuple #[gO,.int .i64 dp])/\
 fnE gO λfx firstx capx=>
 Br (dp != 0) (
 zQb prog ({ target:=.fn (.func fx) capx,args:=(firstx.toList ++ ([]:List Value)).toArray } :: ds) w1 λw2=>
 R (.returned (.int .i64 0)) w2) (
 zQg p0 λa3=>
 ∃cO:SV,w1.cell? (a3.add 9)=some (cO.v)/\
 zQb prog ({ target:=.fn (.func fx) capx,args:=(firstx.toList ++ ([]:List Value)).toArray } :: ds) w1 λw4=>
 R (.returned (.int .i64 (cO.len:Int))) w4)
theorem F30_p:Pl prog f30 [pS 0] F30_1:=λR=>
 lf
theorem xXN (p0:Option Addr) (w:World) (R:Rt) (h:F30_1 R p0 [] w):Calls prog 30 #[.pointer p0] w R:=
 plC F30_p func30 h
def F29_1(R:Rt)(p0:Option Addr)(ds:Ds)(w:World):Prop:=
 Calls prog 55 #[.pointer p0] w λe w1=>
 ∃gO:Value,∃dp:Int,e=.returned (.tuple #[gO,.int .i64 dp])/\
 fnE gO λfx firstx capx=>
 Br (dp != 0) (
 zQb prog ({ target:=.fn (.func fx) capx,args:=(firstx.toList ++ ([]:List Value)).toArray } :: ds) w1 λw2=>
 R (.returned (.slice none 0 0)) w2) (
 zQg p0 λa3=>
 ∃cO:SV,w1.cell? (a3.add 10)=some (cO.v)/\
 Calls prog 74 #[cO.v] w1 λe w4=>
 ∃dI:SV,e=.returned (dI.v)/\
 zQb prog ({ target:=.fn (.func fx) capx,args:=(firstx.toList ++ ([]:List Value)).toArray } :: ds) w4 λw5=>
 R (.returned (dI.v)) w5)
theorem F29_p:Pl prog f29 [pS 0] F29_1:=λR=>
 lf
theorem xXS (p0:Option Addr) (w:World) (R:Rt) (h:F29_1 R p0 [] w):Calls prog 29 #[.pointer p0] w R:=
 plC F29_p func29 h
def F33_1(R:Rt)(p0:Option Addr)(n1 n2:Int)(cw:SV)(ds:Ds)(w:World):Prop:=
 zQg p0 λa1=>
 ∃jS:SV,w.cell? (a1.add 9)=some (jS.v)/\
 Br (decide (n1<(jS.len:Int))) (
 zQg p0 λa2=>
 ∃pa:SV,w.cell? (a2.add 9)=some (pa.v)/\
 ∃a3,pa.a=some a3/\0<=n1/\n1<(pa.len:Int)/\
 ∃bD,w.cell? ((a3.add (n1.toNat * 3)).add 0)=some (.int .i64 bD)/\
 ∃bE,w.cell? ((a3.add (n1.toNat * 3)).add 1)=some (.int .i64 bE)/\
 ∃lN:SV,w.cell? ((a3.add (n1.toNat * 3)).add 2)=some (lN.v)/\
 Calls prog 76 #[.agg #[.int .i64 bD,.int .i64 bE,lN.v],cw.v,.int .i64 n2] w λe w4=>
 ∃yp:SV,e=.returned (yp.v)/\
 Calls prog 51 #[yp.v] w4 λe w5=>
 ∃fL:SV,∃aw:SV,e=.returned (.agg #[fL.v,aw.v])/\
 alE (.cells #[.slice none 0 0,.slice none 0 0] 63) w5 λaL w6=>
 stA prog 63 (⟨aL,0,none⟩:Addr) #[fL.v,aw.v] w6 λw7=>
 dwE w7 λw8=>
 0<=(0:Int)/\(0:Int)<(2:Int)/\
 ∃jU:SV,w8.cell? ((⟨aL,0,none⟩:Addr).add ((0:Int).toNat * 1))=some (jU.v)/\
 0<=(1:Int)/\(1:Int)<(2:Int)/\
 ∃kV:SV,w8.cell? ((⟨aL,0,none⟩:Addr).add ((1:Int).toNat * 1))=some (kV.v)/\
 zQb prog ds w8 λw9=>
 R (.returned (.tuple #[jU.v,kV.v,.int .i64 0])) w9) (
 Calls prog 51 #[cw.v] w λe aN=>
 ∃fL:SV,∃aw:SV,e=.returned (.agg #[fL.v,aw.v])/\
 alE (.cells #[.slice none 0 0,.slice none 0 0] 63) aN λaL aV=>
 stA prog 63 (⟨aL,0,none⟩:Addr) #[fL.v,aw.v] aV λaO=>
 dwE aO λaH=>
 0<=(0:Int)/\(0:Int)<(2:Int)/\
 ∃jU:SV,aH.cell? ((⟨aL,0,none⟩:Addr).add ((0:Int).toNat * 1))=some (jU.v)/\
 0<=(1:Int)/\(1:Int)<(2:Int)/\
 ∃kV:SV,aH.cell? ((⟨aL,0,none⟩:Addr).add ((1:Int).toNat * 1))=some (kV.v)/\
 zQb prog ds aH λbq=>
 R (.returned (.tuple #[jU.v,kV.v,.int .i64 0])) bq)
def F33_2 (R:Rt) (J1:(SV × Int)->World->Prop) (p0:Option Addr) (n1 n2:Int) (cw nU:SV) (qK iW:Int) (ds:Ds) (w:World):Prop:=
 Br (decide (iW<qK)) (
 ∃jz,nU.a=some jz/\0<=iW/\iW<(nU.len:Int)/\
 ∃eR,w.cell? ((jz.add (iW.toNat * 3)).add 0)=some (.int .i64 eR)/\
 ∃eV,w.cell? ((jz.add (iW.toNat * 3)).add 1)=some (.int .i64 eV)/\
 ∃lO:SV,w.cell? ((jz.add (iW.toNat * 3)).add 2)=some (lO.v)/\
 alE (.cells #[.int .i64 0,.int .i64 0,.slice none 0 0] 90) w λnS bG=>
 stA prog 90 (⟨nS,0,none⟩:Addr) #[.int .i64 eR,.int .i64 eV,lO.v] bG λbH=>
 ∃iw,bH.cell? ((⟨nS,0,none⟩:Addr).add 0)=some (.int .i64 iw)/\
 ∃lP,bH.cell? ((⟨nS,0,none⟩:Addr).add 1)=some (.int .i64 lP)/\
 ∃lQ:SV,bH.cell? ((⟨nS,0,none⟩:Addr).add 2)=some (lQ.v)/\
 Calls prog 49 #[cw.v,.agg #[.int .i64 iw,.int .i64 lP,lQ.v]] bH λe bO=>
 ∃l56:SV,e=.returned (l56.v)/\
 J1 (l56,(IntKind.i64.wrap (iW+1))) bO) (
 F33_1 R p0 n1 n2 cw ds w)
def F33_3(R:Rt)(p0:Option Addr)(n1 n2:Int)(cw nU:SV)(qK iW:Int)(ds:Ds)(w:World):Prop:=
 zQE (λ(J1:(SV × Int)->World->Prop) (s:SV × Int) (w:World)=>F33_2 R J1 p0 n1 n2 s.1 nU qK s.2 ds w) (cw,iW) w
def F33_5(R:Rt)(p0:Option Addr)(n1 n2:Int)(ds:Ds)(w:World):Prop:=
 Calls prog 55 #[.pointer p0] w λe cL=>
 ∃vE:Value,∃ir:Int,e=.returned (.tuple #[vE,.int .i64 ir])/\
 fnE vE λfx firstx capx=>
 Br (ir != 0) (
 zQb prog ({ target:=.fn (.func fx) capx,args:=(firstx.toList ++ ([]:List Value)).toArray } :: ds) cL λbU=>
 R (.returned (.tuple #[.slice none 0 0,.slice none 0 0,.int .i64 ir])) bU) (
 Br (decide (n1<0)) (
 zQb prog ({ target:=.fn (.func fx) capx,args:=(firstx.toList ++ ([]:List Value)).toArray } :: ds) cL λct=>
 R (.returned (.tuple #[.slice none 0 0,.slice none 0 0,.int .i64 1])) ct) (
 zQg p0 λo4=>
 ∃kf:SV,cL.cell? (o4.add 9)=some (kf.v)/\
 Br (decide (n1 > (kf.len:Int))) (
 zQb prog ({ target:=.fn (.func fx) capx,args:=(firstx.toList ++ ([]:List Value)).toArray } :: ds) cL λdV=>
 R (.returned (.tuple #[.slice none 0 0,.slice none 0 0,.int .i64 1])) dV) (
 Br (decide (n2<0)) (
 zQb prog ({ target:=.fn (.func fx) capx,args:=(firstx.toList ++ ([]:List Value)).toArray } :: ds) cL λdy=>
 R (.returned (.tuple #[.slice none 0 0,.slice none 0 0,.int .i64 1])) dy) (
 zQg p0 λnl=>
 ∃kH:SV,cL.cell? (nl.add 7)=some (kH.v)/\
 zQg p0 λxF=>
 ∃vF:SV,cL.cell? (xF.add 9)=some (vF.v)/\
 0<=n1/\n1.toNat<=vF.cap/\0<=n1.toNat/\
 F33_3 R p0 n1 n2 kH ⟨(if vF.cap=0 then vF.a else vF.a.map (λx=>x.add (0 * 3))),(n1.toNat - 0),(vF.cap - 0)⟩ (((n1.toNat - 0):Nat):Int) 0 ({ target:=.fn (.func fx) capx,args:=(firstx.toList ++ ([]:List Value)).toArray } :: ds) cL))))
theorem F33_p:Pl prog f33 [pS 0,iS 1,iS 2] F33_5:=λR=>
 pc 9 (rest [pS 0,iS 1,iS 2,lS 11,lS 48,iS 49,iS 50] (F33_3 R) (bk 0 (rest [pS 0,iS 1,iS 2,lS 11] (F33_1 R) lf) (lp [lS 11,iS 50] [pS 0,iS 1,iS 2,lS 11,lS 48,iS 49,iS 50] (F33_2 R) zXL λJ1=>lf)))
theorem yYR (p0:Option Addr) (n1 n2:Int) (w:World) (R:Rt) (h:F33_5 R p0 n1 n2 [] w):Calls prog 33 #[.pointer p0,.int .i64 n1,.int .i64 n2] w R:=
 plC F33_p func33 h
end Go.Proofs.YtaeecpjhfmcliaaGreatDoor
/- Shallow texts of functions, printed by program, each checked by the kernel against the loaded code. No condition. -/
namespace Go.Proofs.YtaeecpjhfmcliaaGreatDoor
open Go.Sh Tryz
def F35_1(R:Rt)(p0:Option Addr)(ds:Ds)(w:World):Prop:=
 Calls prog 55 #[.pointer p0] w λe w1=>
 ∃gO:Value,∃dp:Int,e=.returned (.tuple #[gO,.int .i64 dp])/\
 fnE gO λfx firstx capx=>
 Br (dp != 0) (
 zQb prog ({ target:=.fn (.func fx) capx,args:=(firstx.toList ++ ([]:List Value)).toArray } :: ds) w1 λw2=>
 R (.returned (.int .i64 dp)) w2) (
 zQg p0 λa3=>
 ∃dg:SV,w1.cell? (a3.add 5)=some (dg.v)/\
 Br (decide ((dg.len:Int) >= 8)) (
 zQb prog ({ target:=.fn (.func fx) capx,args:=(firstx.toList ++ ([]:List Value)).toArray } :: ds) w1 λw4=>
 R (.returned (.int .i64 3)) w4) (
 dwE w1 λw5=>
 ∃S1:World->Prop,S1 w5/\
 zQg p0 λa6=>
 ∃dU:SV,(∀w',S1 w'->w'.cell? (a6.add 5)=some (dU.v))/\
 zQg p0 λa7=>
 ∃dM,(∀w',S1 w'->w'.cell? ((a7.add 2).add 0)=some (.int .i64 dM))/\
 ∃bh:SV,(∀w',S1 w'->w'.cell? ((a7.add 2).add 1)=some (bh.v))/\
 ∃bi:SV,(∀w',S1 w'->w'.cell? ((a7.add 2).add 2)=some (bi.v))/\
 Calls prog 56 #[.agg #[.int .i64 dM,bh.v,bi.v]] w5 λe w8=>
 ∃bK:Int,∃aP:SV,∃aQ:SV,e=.returned (.agg #[.int .i64 bK,aP.v,aQ.v])/\
 S1 w8/\
 alE (.cells #[.int .i64 bK,aP.v,aQ.v] 35) w8 λr32 w9=>
 S1 w9/\
 ∃iH:SV,∃aN,(Builtin.append_ #[106,106] 106 #[dU.v,.slice (some ⟨r32,0,none⟩) 1 1]).run prog w9=.ok (iH.v) aN/\
 zQg p0 λdY=>
 st1 (dY.add 5) (iH.v) aN λaO=>
 zQb prog ({ target:=.fn (.func fx) capx,args:=(firstx.toList ++ ([]:List Value)).toArray } :: ds) aO λaH=>
 R (.returned (.int .i64 0)) aH))
theorem F35_p:Pl prog f35 [pS 0] F35_1:=λR=>
 lf
theorem xZu (p0:Option Addr) (w:World) (R:Rt) (h:F35_1 R p0 [] w):Calls prog 35 #[.pointer p0] w R:=
 plC F35_p func35 h
def F80_1(R:Rt)(p0:Option Addr)(ds:Ds)(w:World):Prop:=
 alE (.cells #[.int .i64 0,.slice none 0 0,.slice none 0 0] 35) w λr2 w1=>
 zQg p0 λa2=>
 ∃l9:SV,w1.cell? (a2.add 5)=some (l9.v)/\
 Br ((l9.len:Int) == 0) (
 stA prog 35 (⟨r2,0,none⟩:Addr) #[.int .i64 0,.slice none 0 0,.slice none 0 0] w1 λw3=>
 zQb prog ds w3 λw4=>
 ∃ag,w4.cell? ((⟨r2,0,none⟩:Addr).add 0)=some (.int .i64 ag)/\
 ∃ab:SV,w4.cell? ((⟨r2,0,none⟩:Addr).add 1)=some (ab.v)/\
 ∃ae:SV,w4.cell? ((⟨r2,0,none⟩:Addr).add 2)=some (ae.v)/\
 R (.returned (.tuple #[.agg #[.int .i64 ag,ab.v,ae.v],.int .i64 9])) w4) (
 zQg p0 λa5=>
 ∃dI:SV,w1.cell? (a5.add 5)=some (dI.v)/\
 ∃a6,dI.a=some a6/\0<=(IntKind.i64.wrap ((l9.len:Int) - 1))/\(IntKind.i64.wrap ((l9.len:Int) - 1))<(dI.len:Int)/\
 ∃dN,w1.cell? ((a6.add ((IntKind.i64.wrap ((l9.len:Int) - 1)).toNat * 3)).add 0)=some (.int .i64 dN)/\
 ∃db:SV,w1.cell? ((a6.add ((IntKind.i64.wrap ((l9.len:Int) - 1)).toNat * 3)).add 1)=some (db.v)/\
 ∃fM:SV,w1.cell? ((a6.add ((IntKind.i64.wrap ((l9.len:Int) - 1)).toNat * 3)).add 2)=some (fM.v)/\
 alE (.cells #[.int .i64 0,.slice none 0 0,.slice none 0 0] 35) w1 λr5 w7=>
 stA prog 35 (⟨r5,0,none⟩:Addr) #[.int .i64 dN,db.v,fM.v] w7 λw8=>
 zQg p0 λa9=>
 ∃dU:SV,w8.cell? (a9.add 5)=some (dU.v)/\
 0<=(IntKind.i64.wrap ((l9.len:Int) - 1))/\(IntKind.i64.wrap ((l9.len:Int) - 1)).toNat<=dU.cap/\0<=(IntKind.i64.wrap ((l9.len:Int) - 1)).toNat/\
 zQg p0 λdx=>
 st1 (dx.add 5) (.slice (if dU.cap=0 then dU.a else dU.a.map (λx=>x.add (0 * 3))) ((IntKind.i64.wrap ((l9.len:Int) - 1)).toNat - 0) (dU.cap - 0)) w8 λaV=>
 ∃jQ,aV.cell? ((⟨r5,0,none⟩:Addr).add 0)=some (.int .i64 jQ)/\
 ∃lR:SV,aV.cell? ((⟨r5,0,none⟩:Addr).add 1)=some (lR.v)/\
 ∃fK:SV,aV.cell? ((⟨r5,0,none⟩:Addr).add 2)=some (fK.v)/\
 stA prog 35 (⟨r2,0,none⟩:Addr) #[.int .i64 jQ,lR.v,fK.v] aV λaO=>
 zQb prog ds aO λaH=>
 ∃ag,aH.cell? ((⟨r2,0,none⟩:Addr).add 0)=some (.int .i64 ag)/\
 ∃ab:SV,aH.cell? ((⟨r2,0,none⟩:Addr).add 1)=some (ab.v)/\
 ∃ae:SV,aH.cell? ((⟨r2,0,none⟩:Addr).add 2)=some (ae.v)/\
 R (.returned (.tuple #[.agg #[.int .i64 ag,ab.v,ae.v],.int .i64 0])) aH)
theorem F80_p:Pl prog f80 [pS 0] F80_1:=λR=>
 lf
theorem yYG (p0:Option Addr) (w:World) (R:Rt) (h:F80_1 R p0 [] w):Calls prog 80 #[.pointer p0] w R:=
 plC F80_p func80 h
def F36_1(R:Rt)(p0:Option Addr)(ds:Ds)(w:World):Prop:=
 Calls prog 55 #[.pointer p0] w λe w1=>
 ∃rL:Value,∃ez:Int,e=.returned (.tuple #[rL,.int .i64 ez])/\
 fnE rL λfx firstx capx=>
 Br (ez != 0) (
 zQb prog ({ target:=.fn (.func fx) capx,args:=(firstx.toList ++ ([]:List Value)).toArray } :: ds) w1 λw2=>
 R (.returned (.int .i64 ez)) w2) (
 Calls prog 80 #[.pointer p0] w1 λe w3=>
 ∃pW:Int,∃hH:SV,∃hZ:SV,∃gc:Int,e=.returned (.tuple #[.agg #[.int .i64 pW,hH.v,hZ.v],.int .i64 gc])/\
 alE (.cells #[.int .i64 0,.slice none 0 0,.slice none 0 0] 35) w3 λr5 w4=>
 stA prog 35 (⟨r5,0,none⟩:Addr) #[.int .i64 pW,hH.v,hZ.v] w4 λw5=>
 Br (gc != 0) (
 zQb prog ({ target:=.fn (.func fx) capx,args:=(firstx.toList ++ ([]:List Value)).toArray } :: ds) w5 λw6=>
 R (.returned (.int .i64 gc)) w6) (
 Calls prog 79 #[.pointer p0] w5 λe w7=>
 e=.returned (.tuple #[])/\
 zQb prog ({ target:=.fn (.func fx) capx,args:=(firstx.toList ++ ([]:List Value)).toArray } :: ds) w7 λw8=>
 R (.returned (.int .i64 0)) w8))
theorem F36_p:Pl prog f36 [pS 0] F36_1:=λR=>
 lf
theorem yYz (p0:Option Addr) (w:World) (R:Rt) (h:F36_1 R p0 [] w):Calls prog 36 #[.pointer p0] w R:=
 plC F36_p func36 h
def F37_1(R:Rt)(p0:Option Addr)(ds:Ds)(w:World):Prop:=
 Calls prog 55 #[.pointer p0] w λe w1=>
 ∃v8_0:Value,∃lm:Int,e=.returned (.tuple #[v8_0,.int .i64 lm])/\
 fnE v8_0 λfx firstx capx=>
 Br (lm != 0) (
 zQb prog ({ target:=.fn (.func fx) capx,args:=(firstx.toList ++ ([]:List Value)).toArray } :: ds) w1 λw2=>
 R (.returned (.int .i64 lm)) w2) (
 Calls prog 80 #[.pointer p0] w1 λe w3=>
 ∃pX:Int,∃ia:SV,∃ib:SV,∃ir:Int,e=.returned (.tuple #[.agg #[.int .i64 pX,ia.v,ib.v],.int .i64 ir])/\
 alE (.cells #[.int .i64 0,.slice none 0 0,.slice none 0 0] 35) w3 λr5 w4=>
 stA prog 35 (⟨r5,0,none⟩:Addr) #[.int .i64 pX,ia.v,ib.v] w4 λw5=>
 Br (ir != 0) (
 zQb prog ({ target:=.fn (.func fx) capx,args:=(firstx.toList ++ ([]:List Value)).toArray } :: ds) w5 λw6=>
 R (.returned (.int .i64 ir)) w6) (
 ∃jT,w5.cell? ((⟨r5,0,none⟩:Addr).add 0)=some (.int .i64 jT)/\
 ∃ci:SV,w5.cell? ((⟨r5,0,none⟩:Addr).add 1)=some (ci.v)/\
 ∃fN:SV,w5.cell? ((⟨r5,0,none⟩:Addr).add 2)=some (fN.v)/\
 zQg p0 λa7=>
 stA prog 35 (a7.add 2) #[.int .i64 jT,ci.v,fN.v] w5 λw8=>
 zQb prog ({ target:=.fn (.func fx) capx,args:=(firstx.toList ++ ([]:List Value)).toArray } :: ds) w8 λw9=>
 R (.returned (.int .i64 0)) w9))
theorem F37_p:Pl prog f37 [pS 0] F37_1:=λR=>
 lf
theorem xX6 (p0:Option Addr) (w:World) (R:Rt) (h:F37_1 R p0 [] w):Calls prog 37 #[.pointer p0] w R:=
 plC F37_p func37 h
def F20_1(R:Rt)(p0:Option Addr)(ds:Ds)(w:World):Prop:=
 Calls prog 55 #[.pointer p0] w λe w1=>
 ∃gO:Value,∃dp:Int,e=.returned (.tuple #[gO,.int .i64 dp])/\
 fnE gO λfx firstx capx=>
 Br (dp != 0) (
 zQb prog ({ target:=.fn (.func fx) capx,args:=(firstx.toList ++ ([]:List Value)).toArray } :: ds) w1 λw2=>
 R (.returned (.int .i64 0)) w2) (
 zQg p0 λa3=>
 ∃cO:SV,w1.cell? (a3.add 5)=some (cO.v)/\
 zQb prog ({ target:=.fn (.func fx) capx,args:=(firstx.toList ++ ([]:List Value)).toArray } :: ds) w1 λw4=>
 R (.returned (.int .i64 (cO.len:Int))) w4)
theorem F20_p:Pl prog f20 [pS 0] F20_1:=λR=>
 lf
theorem yYs (p0:Option Addr) (w:World) (R:Rt) (h:F20_1 R p0 [] w):Calls prog 20 #[.pointer p0] w R:=
 plC F20_p func20 h
def F84_1(R:Rt)(p0:Option Addr)(bC cr:Int)(cy:SV)(ds:Ds)(w:World):Prop:=
 alE (.cells #[.int .i64 bC,.int .i64 cr,cy.v] 90) w λr3 w1=>
 dwE w1 λw2=>
 ∃S1:World->Prop,S1 w2/\
 zQg p0 λa3=>
 ∃l8:SV,(∀w',S1 w'->w'.cell? (a3.add 9)=some (l8.v))/\
 ∃il,(∀w',S1 w'->w'.cell? ((⟨r3,0,none⟩:Addr).add 0)=some (.int .i64 il))/\
 ∃ez,(∀w',S1 w'->w'.cell? ((⟨r3,0,none⟩:Addr).add 1)=some (.int .i64 ez))/\
 ∃i9:SV,(∀w',S1 w'->w'.cell? ((⟨r3,0,none⟩:Addr).add 2)=some (i9.v))/\
 alE (.cells #[.int .i64 il,.int .i64 ez,i9.v] 90) w2 λdJ w4=>
 S1 w4/\
 ∃cw:SV,∃w5,(Builtin.append_ #[87,87] 87 #[l8.v,.slice (some ⟨dJ,0,none⟩) 1 1]).run prog w4=.ok (cw.v) w5/\
 zQg p0 λa6=>
 st1 (a6.add 9) (cw.v) w5 λw7=>
 dwE w7 λw8=>
 zQg p0 λa9=>
 ∃dv:SV,w8.cell? (a9.add 8)=some (dv.v)/\
 ∃dH,w8.cell? ((⟨r3,0,none⟩:Addr).add 0)=some (.int .i64 dH)/\
 ∃bT,w8.cell? ((⟨r3,0,none⟩:Addr).add 1)=some (.int .i64 bT)/\
 ∃cS:SV,w8.cell? ((⟨r3,0,none⟩:Addr).add 2)=some (cS.v)/\
 Calls prog 49 #[dv.v,.agg #[.int .i64 dH,.int .i64 bT,cS.v]] w8 λe aN=>
 ∃dZ:SV,e=.returned (dZ.v)/\
 zQg p0 λdY=>
 st1 (dY.add 8) (dZ.v) aN λaO=>
 zQb prog ds aO λaH=>
 R (.returned (.tuple #[])) aH
theorem F84_p:Pl prog f84 [pS 0,aS 1 [.int .i64,.int .i64,.slice]] F84_1:=λR=>
 lf
theorem xXs (p0:Option Addr) (bC cr:Int) (cy:SV) (w:World) (R:Rt) (h:F84_1 R p0 bC cr cy [] w):Calls prog 84 #[.pointer p0,.agg #[.int .i64 bC,.int .i64 cr,cy.v]] w R:=
 plC F84_p func84 h
def F79_1(R:Rt)(p0:Option Addr)(ds:Ds)(w:World):Prop:=
 dwE w λw1=>
 ∃S1:World->Prop,S1 w1/\
 zQg p0 λa2=>
 ∃l8:SV,(∀w',S1 w'->w'.cell? (a2.add 6)=some (l8.v))/\
 zQg p0 λa3=>
 ∃ik:SV,(∀w',S1 w'->w'.cell? (a3.add 6)=some (ik.v))/\
 ∃a4,l8.a=some a4/\0<=(IntKind.i64.wrap ((ik.len:Int) - 1))/\(IntKind.i64.wrap ((ik.len:Int) - 1))<(l8.len:Int)/\
 ∃kJ,(∀w',S1 w'->w'.cell? ((a4.add ((IntKind.i64.wrap ((ik.len:Int) - 1)).toNat * 3)).add 0)=some (.int .i64 kJ))/\
 ∃lT:SV,(∀w',S1 w'->w'.cell? ((a4.add ((IntKind.i64.wrap ((ik.len:Int) - 1)).toNat * 3)).add 1)=some (lT.v))/\
 ∃lU:SV,(∀w',S1 w'->w'.cell? ((a4.add ((IntKind.i64.wrap ((ik.len:Int) - 1)).toNat * 3)).add 2)=some (lU.v))/\
 alE (.cells #[.int .i64 0,.slice none 0 0,.slice none 0 0] 35) w1 λr2 w5=>
 S1 w5/\
 stA prog 35 (⟨r2,0,none⟩:Addr) #[.int .i64 kJ,lT.v,lU.v] w5 λw6=>
 dwE w6 λw7=>
 ∃gw,w7.cell? ((⟨r2,0,none⟩:Addr).add 0)=some (.int .i64 gw)/\
 ∃bY:SV,w7.cell? ((⟨r2,0,none⟩:Addr).add 1)=some (bY.v)/\
 ∃c9:SV,w7.cell? ((⟨r2,0,none⟩:Addr).add 2)=some (c9.v)/\
 zQg p0 λa8=>
 ∃jX,w7.cell? ((a8.add 2).add 0)=some (.int .i64 jX)/\
 ∃ce:SV,w7.cell? ((a8.add 2).add 1)=some (ce.v)/\
 ∃cU:SV,w7.cell? ((a8.add 2).add 2)=some (cU.v)/\
 Calls prog 72 #[.agg #[.int .i64 gw,bY.v,c9.v],.agg #[.int .i64 jX,ce.v,cU.v]] w7 λe w9=>
 ∃kK:SV,∃ed:Int,e=.returned (.tuple #[kK.v,.int .i64 ed])/\
 zQg p0 λdx=>
 ∃iV:SV,w9.cell? (dx.add 5)=some (iV.v)/\
 Br (decide ((iV.len:Int) > 0)) (
 zQb prog ds w9 λaV=>
 R (.returned (.tuple #[])) aV) (
 Br ((kK.len:Int) == 0) (
 zQb prog ds w9 λaO=>
 R (.returned (.tuple #[])) aO) (
 dwE w9 λaH=>
 ∃S3:World->Prop,S3 aH/\
 zQg p0 λf7=>
 ∃nI:SV,(∀w',S3 w'->w'.cell? (f7.add 8)=some (nI.v))/\
 ∃jz,nI.a=some jz/\0<=(1:Int)/\(1:Int)<(nI.len:Int)/\
 ∃nH:SV,(∀w',S3 w'->w'.cell? (jz.add ((1:Int).toNat * 1))=some (nH.v))/\
 zQg p0 λiG=>
 ∃vG,(∀w',S3 w'->w'.cell? ((iG.add 2).add 0)=some (.int .i64 vG))/\
 ∃lV:SV,(∀w',S3 w'->w'.cell? ((iG.add 2).add 1)=some (lV.v))/\
 ∃lW:SV,(∀w',S3 w'->w'.cell? ((iG.add 2).add 2)=some (lW.v))/\
 Calls prog 112 #[.agg #[.int .i64 vG,lV.v,lW.v],kK.v] aH λe bH=>
 ∃yq:SV,e=.returned (yq.v)/\
 S3 bH/\
 Calls prog 111 #[.int .u8 99,yq.v] bH λe bO=>
 ∃rz:SV,e=.returned (rz.v)/\
 S3 bO/\
 Calls prog 84 #[.pointer p0,.agg #[.int .i64 1,.int .i64 (nH.len:Int),rz.v]] bO λe cL=>
 e=.returned (.tuple #[])/\
 dwE cL λbU=>
 ∃S4:World->Prop,S4 bU/\
 zQg p0 λa21=>
 ∃pd:SV,(∀w',S4 w'->w'.cell? (a21.add 6)=some (pd.v))/\
 zQg p0 λo4=>
 ∃dK,(∀w',S4 w'->w'.cell? ((o4.add 2).add 0)=some (.int .i64 dK))/\
 ∃bA:SV,(∀w',S4 w'->w'.cell? ((o4.add 2).add 1)=some (bA.v))/\
 ∃fJ:SV,(∀w',S4 w'->w'.cell? ((o4.add 2).add 2)=some (fJ.v))/\
 Calls prog 56 #[.agg #[.int .i64 dK,bA.v,fJ.v]] bU λe dV=>
 ∃vH:Int,∃lX:SV,∃lY:SV,e=.returned (.agg #[.int .i64 vH,lX.v,lY.v])/\
 S4 dV/\
 alE (.cells #[.int .i64 vH,lX.v,lY.v] 35) dV λr64 dy=>
 S4 dy/\
 ∃jW:SV,∃gj,(Builtin.append_ #[106,106] 106 #[pd.v,.slice (some ⟨r64,0,none⟩) 1 1]).run prog dy=.ok (jW.v) gj/\
 zQg p0 λxF=>
 st1 (xF.add 6) (jW.v) gj λgQ=>
 dwE gQ λdW=>
 ∃S5:World->Prop,S5 dW/\
 zQg p0 λrF=>
 ∃nr:SV,(∀w',S5 w'->w'.cell? (rF.add 10)=some (nr.v))/\
 zQg p0 λo5=>
 ∃o0:SV,(∀w',S5 w'->w'.cell? (o5.add 9)=some (o0.v))/\
 alE (.cells #[.int .i64 (o0.len:Int)] 3) dW λr78 gn=>
 S5 gn/\
 ∃iX:SV,∃gk,(Builtin.append_ #[52,52] 52 #[nr.v,.slice (some ⟨r78,0,none⟩) 1 1]).run prog gn=.ok (iX.v) gk/\
 zQg p0 λa33=>
 st1 (a33.add 10) (iX.v) gk λfX=>
 zQb prog ds fX λi5=>
 R (.returned (.tuple #[])) i5))
theorem F79_p:Pl prog f79 [pS 0] F79_1:=λR=>
 lf
theorem xXQ (p0:Option Addr) (w:World) (R:Rt) (h:F79_1 R p0 [] w):Calls prog 79 #[.pointer p0] w R:=
 plC F79_p func79 h
def F81_1(R:Rt)(p0:Option Addr)(n1:Int)(ds:Ds)(w:World):Prop:=
 Br (decide (n1 >= 1)) (
 zQg p0 λa1=>
 ∃cD:SV,w.cell? ((a1.add 2).add 2)=some (cD.v)/\
 zQb prog ds w λw2=>
 R (.returned (.bool (decide (n1<=(cD.len:Int))))) w2) (
 zQb prog ds w λw3=>
 R (.returned (.bool false)) w3)
theorem F81_p:Pl prog f81 [pS 0,iS 1] F81_1:=λR=>
 lf
theorem xXI (p0:Option Addr) (n1:Int) (w:World) (R:Rt) (h:F81_1 R p0 n1 [] w):Calls prog 81 #[.pointer p0,.int .i64 n1] w R:=
 plC F81_p func81 h
def F77_1(R:Rt)(p0:Option Addr)(eE:Bool)(bg:SV)(ds:Ds)(w:World):Prop:=
 alE (.cells #[.bool eE,bg.v] 67) w λr3 w1=>
 dwE w1 λw2=>
 ∃S1:World->Prop,S1 w2/\
 zQg p0 λa3=>
 ∃n9,(∀w',S1 w'->w'.cell? (a3.add 2)=some (.int .i64 n9))/\
 zQg p0 λa4=>
 ∃bR:SV,(∀w',S1 w'->w'.cell? ((a4.add 2).add 1)=some (bR.v))/\
 ∃vI,(∀w',S1 w'->w'.cell? ((⟨r3,0,none⟩:Addr).add 0)=some (.bool vI))/\
 ∃fv:SV,(∀w',S1 w'->w'.cell? ((⟨r3,0,none⟩:Addr).add 1)=some (fv.v))/\
 alE (.cells #[.bool vI,fv.v] 67) w2 λr16 w5=>
 S1 w5/\
 Calls prog 106 #[.agg #[.int .i64 n9,bR.v,.slice (some ⟨r16,0,none⟩) 1 1]] w5 λe w6=>
 ∃iF:Int,e=.returned (.int .i64 iF)/\
 zQb prog ds w6 λw7=>
 R (.returned (.int .i64 iF)) w7
theorem F77_p:Pl prog f77 [pS 0,aS 1 [.bool,.slice]] F77_1:=λR=>
 lf
theorem xQb (p0:Option Addr) (eE:Bool) (bg:SV) (w:World) (R:Rt) (h:F77_1 R p0 eE bg [] w):Calls prog 77 #[.pointer p0,.agg #[.bool eE,bg.v]] w R:=
 plC F77_p func77 h
end Go.Proofs.YtaeecpjhfmcliaaGreatDoor
/- Shallow texts of functions, printed by program, each checked by the kernel against the loaded code. No condition. -/
namespace Go.Proofs.YtaeecpjhfmcliaaGreatDoor
open Go.Sh Tryz
def F34_1(R:Rt)(p0:Option Addr)(eE:Bool)(bg:SV)(ds:Ds)(w:World):Prop:=
 alE (.cells #[.bool eE,bg.v] 67) w λr3 w1=>
 Calls prog 55 #[.pointer p0] w1 λe w2=>
 ∃oB:Value,∃eb:Int,e=.returned (.tuple #[oB,.int .i64 eb])/\
 fnE oB λfx firstx capx=>
 Br (eb != 0) (
 zQb prog ({ target:=.fn (.func fx) capx,args:=(firstx.toList ++ ([]:List Value)).toArray } :: ds) w2 λw3=>
 R (.returned (.tuple #[.int .i64 0,.int .i64 eb])) w3) (
 zQg p0 λa4=>
 ∃dw:SV,w2.cell? ((a4.add 2).add 2)=some (dw.v)/\
 Br (decide ((dw.len:Int) >= 300)) (
 zQb prog ({ target:=.fn (.func fx) capx,args:=(firstx.toList ++ ([]:List Value)).toArray } :: ds) w2 λw5=>
 R (.returned (.tuple #[.int .i64 0,.int .i64 3])) w5) (
 ∃oC,w2.cell? ((⟨r3,0,none⟩:Addr).add 0)=some (.bool oC)/\
 ∃bx:SV,w2.cell? ((⟨r3,0,none⟩:Addr).add 1)=some (bx.v)/\
 Calls prog 77 #[.pointer p0,.agg #[.bool oC,bx.v]] w2 λe w6=>
 ∃gb:Int,e=.returned (.int .i64 gb)/\
 Br (gb != 0) (
 zQb prog ({ target:=.fn (.func fx) capx,args:=(firstx.toList ++ ([]:List Value)).toArray } :: ds) w6 λw7=>
 R (.returned (.tuple #[.int .i64 0,.int .i64 gb])) w7) (
 dwE w6 λw8=>
 ∃S1:World->Prop,S1 w8/\
 zQg p0 λa9=>
 ∃iC:SV,(∀w',S1 w'->w'.cell? ((a9.add 2).add 2)=some (iC.v))/\
 ∃b38,(∀w',S1 w'->w'.cell? (⟨r3,0,none⟩:Addr)=some (.bool b38))/\
 ∃bI:SV,(∀w',S1 w'->w'.cell? ((⟨r3,0,none⟩:Addr).add 1)=some (bI.v))/\
 Calls prog 78 #[bI.v] w8 λe aN=>
 ∃nI:SV,e=.returned (nI.v)/\
 S1 aN/\
 alE (.cells #[.bool b38,nI.v] 67) aN λr43 aV=>
 S1 aV/\
 ∃yr:SV,∃aO,(Builtin.append_ #[33,33] 33 #[iC.v,.slice (some ⟨r43,0,none⟩) 1 1]).run prog aV=.ok (yr.v) aO/\
 zQg p0 λlq=>
 st1 ((lq.add 2).add 2) (yr.v) aO λbq=>
 Calls prog 79 #[.pointer p0] bq λe bp=>
 e=.returned (.tuple #[])/\
 zQg p0 λiG=>
 ∃l54:SV,bp.cell? ((iG.add 2).add 2)=some (l54.v)/\
 zQb prog ({ target:=.fn (.func fx) capx,args:=(firstx.toList ++ ([]:List Value)).toArray } :: ds) bp λbH=>
 R (.returned (.tuple #[.int .i64 (l54.len:Int),.int .i64 0])) bH)))
theorem F34_p:Pl prog f34 [pS 0,aS 1 [.bool,.slice]] F34_1:=λR=>
 lf
theorem xXV (p0:Option Addr) (eE:Bool) (bg:SV) (w:World) (R:Rt) (h:F34_1 R p0 eE bg [] w):Calls prog 34 #[.pointer p0,.agg #[.bool eE,bg.v]] w R:=
 plC F34_p func34 h
def F38_1(R:Rt)(p0:Option Addr)(n1:Int)(ga:Bool)(bJ:SV)(ds:Ds)(w:World):Prop:=
 alE (.cells #[.bool ga,bJ.v] 67) w λr5 w1=>
 Calls prog 55 #[.pointer p0] w1 λe w2=>
 ∃vJ:Value,∃ei:Int,e=.returned (.tuple #[vJ,.int .i64 ei])/\
 fnE vJ λfx firstx capx=>
 Br (ei != 0) (
 zQb prog ({ target:=.fn (.func fx) capx,args:=(firstx.toList ++ ([]:List Value)).toArray } :: ds) w2 λw3=>
 R (.returned (.int .i64 ei)) w3) (
 Calls prog 81 #[.pointer p0,.int .i64 n1] w2 λe w4=>
 ∃u7:Bool,e=.returned (.bool u7)/\
 Br (!u7) (
 zQb prog ({ target:=.fn (.func fx) capx,args:=(firstx.toList ++ ([]:List Value)).toArray } :: ds) w4 λw5=>
 R (.returned (.int .i64 4)) w5) (
 ∃oA,w4.cell? ((⟨r5,0,none⟩:Addr).add 0)=some (.bool oA)/\
 ∃ci:SV,w4.cell? ((⟨r5,0,none⟩:Addr).add 1)=some (ci.v)/\
 Calls prog 77 #[.pointer p0,.agg #[.bool oA,ci.v]] w4 λe w6=>
 ∃cp:Int,e=.returned (.int .i64 cp)/\
 Br (cp != 0) (
 zQb prog ({ target:=.fn (.func fx) capx,args:=(firstx.toList ++ ([]:List Value)).toArray } :: ds) w6 λw7=>
 R (.returned (.int .i64 cp)) w7) (
 dwE w6 λw8=>
 ∃S1:World->Prop,S1 w8/\
 zQg p0 λa9=>
 ∃iH:SV,(∀w',S1 w'->w'.cell? ((a9.add 2).add 2)=some (iH.v))/\
 ∃u6,(∀w',S1 w'->w'.cell? (⟨r5,0,none⟩:Addr)=some (.bool u6))/\
 ∃iI:SV,(∀w',S1 w'->w'.cell? ((⟨r5,0,none⟩:Addr).add 1)=some (iI.v))/\
 Calls prog 78 #[iI.v] w8 λe aN=>
 ∃bI:SV,e=.returned (bI.v)/\
 S1 aN/\
 ∃dY,iH.a=some dY/\0<=(IntKind.i64.wrap (n1 - 1))/\(IntKind.i64.wrap (n1 - 1))<(iH.len:Int)/\
 stA prog 67 (dY.add ((IntKind.i64.wrap (n1 - 1)).toNat * 2)) #[.bool u6,bI.v] aN λaO=>
 Calls prog 79 #[.pointer p0] aO λe aH=>
 e=.returned (.tuple #[])/\
 zQb prog ({ target:=.fn (.func fx) capx,args:=(firstx.toList ++ ([]:List Value)).toArray } :: ds) aH λbq=>
 R (.returned (.int .i64 0)) bq)))
theorem F38_p:Pl prog f38 [pS 0,iS 1,aS 2 [.bool,.slice]] F38_1:=λR=>
 lf
theorem xXm (p0:Option Addr) (n1:Int) (ga:Bool) (bJ:SV) (w:World) (R:Rt) (h:F38_1 R p0 n1 ga bJ [] w):Calls prog 38 #[.pointer p0,.int .i64 n1,.agg #[.bool ga,bJ.v]] w R:=
 plC F38_p func38 h
def F39_1(R:Rt)(p0:Option Addr)(n1:Int)(b2:Bool)(ds:Ds)(w:World):Prop:=
 Calls prog 55 #[.pointer p0] w λe w1=>
 ∃oB:Value,∃eb:Int,e=.returned (.tuple #[oB,.int .i64 eb])/\
 fnE oB λfx firstx capx=>
 Br (eb != 0) (
 zQb prog ({ target:=.fn (.func fx) capx,args:=(firstx.toList ++ ([]:List Value)).toArray } :: ds) w1 λw2=>
 R (.returned (.int .i64 eb)) w2) (
 Calls prog 81 #[.pointer p0,.int .i64 n1] w1 λe w3=>
 ∃b20:Bool,e=.returned (.bool b20)/\
 Br (!b20) (
 zQb prog ({ target:=.fn (.func fx) capx,args:=(firstx.toList ++ ([]:List Value)).toArray } :: ds) w3 λw4=>
 R (.returned (.int .i64 4)) w4) (
 zQg p0 λa5=>
 ∃dU:SV,w3.cell? ((a5.add 2).add 2)=some (dU.v)/\
 ∃a6,dU.a=some a6/\0<=(IntKind.i64.wrap (n1 - 1))/\(IntKind.i64.wrap (n1 - 1))<(dU.len:Int)/\
 st1 (a6.add ((IntKind.i64.wrap (n1 - 1)).toNat * 2)) (.bool b2) w3 λw7=>
 Calls prog 79 #[.pointer p0] w7 λe w8=>
 e=.returned (.tuple #[])/\
 zQb prog ({ target:=.fn (.func fx) capx,args:=(firstx.toList ++ ([]:List Value)).toArray } :: ds) w8 λw9=>
 R (.returned (.int .i64 0)) w9))
theorem F39_p:Pl prog f39 [pS 0,iS 1,bS 2] F39_1:=λR=>
 lf
theorem xXx (p0:Option Addr) (n1:Int) (b2:Bool) (w:World) (R:Rt) (h:F39_1 R p0 n1 b2 [] w):Calls prog 39 #[.pointer p0,.int .i64 n1,.bool b2] w R:=
 plC F39_p func39 h
def F40_1(R:Rt)(p0:Option Addr)(n1:Int)(s2:ByteArray)(iP gA:Int)(nt:ByteArray)(ds:Ds)(w:World):Prop:=
 alE (.cells #[.int .i64 iP,.int .i64 gA,.string nt] 73) w λr7 w1=>
 Calls prog 55 #[.pointer p0] w1 λe w2=>
 ∃vK:Value,∃gB:Int,e=.returned (.tuple #[vK,.int .i64 gB])/\
 fnE vK λfx firstx capx=>
 Br (gB != 0) (
 zQb prog ({ target:=.fn (.func fx) capx,args:=(firstx.toList ++ ([]:List Value)).toArray } :: ds) w2 λw3=>
 R (.returned (.int .i64 gB)) w3) (
 zQg p0 λa4=>
 ∃bV:SV,w2.cell? ((a4.add 2).add 1)=some (bV.v)/\
 Calls prog 82 #[bV.v,.string s2] w2 λe w5=>
 ∃cQ:Int,∃vL:Bool,e=.returned (.tuple #[.int .i64 cQ,.bool vL])/\
 Br (!vL) (
 zQb prog ({ target:=.fn (.func fx) capx,args:=(firstx.toList ++ ([]:List Value)).toArray } :: ds) w5 λw6=>
 R (.returned (.int .i64 4)) w6) (
 Calls prog 81 #[.pointer p0,.int .i64 n1] w5 λe w7=>
 ∃u6:Bool,e=.returned (.bool u6)/\
 Br (!u6) (
 zQb prog ({ target:=.fn (.func fx) capx,args:=(firstx.toList ++ ([]:List Value)).toArray } :: ds) w7 λw8=>
 R (.returned (.int .i64 4)) w8) (
 dwE w7 λw9=>
 zQg p0 λdx=>
 ∃sP:SV,w9.cell? ((dx.add 2).add 1)=some (sP.v)/\
 ∃dY,sP.a=some dY/\0<=cQ/\cQ<(sP.len:Int)/\
 ∃vM,w9.cell? ((dY.add (cQ.toNat * 4)).add 0)=some (.string vM)/\
 ∃vN,w9.cell? ((dY.add (cQ.toNat * 4)).add 1)=some (.int .i64 vN)/\
 ∃vO,w9.cell? ((dY.add (cQ.toNat * 4)).add 2)=some (.int .i64 vO)/\
 ∃vP,w9.cell? ((dY.add (cQ.toNat * 4)).add 3)=some (.bool vP)/\
 zQg p0 λkR=>
 ∃kx,w9.cell? (kR.add 2)=some (.int .i64 kx)/\
 ∃oD,w9.cell? ((⟨r7,0,none⟩:Addr).add 0)=some (.int .i64 oD)/\
 ∃kL,w9.cell? ((⟨r7,0,none⟩:Addr).add 1)=some (.int .i64 kL)/\
 ∃vQ,w9.cell? ((⟨r7,0,none⟩:Addr).add 2)=some (.string vQ)/\
 Calls prog 83 #[.agg #[.string vM,.int .i64 vN,.int .i64 vO,.bool vP],.int .i64 kx,.agg #[.int .i64 oD,.int .i64 kL,.string vQ]] w9 λe aH=>
 ∃pY:Int,∃pZ:Int,∃qa:ByteArray,∃lP:Int,e=.returned (.tuple #[.agg #[.int .i64 pY,.int .i64 pZ,.string qa],.int .i64 lP])/\
 stA prog 73 (⟨r7,0,none⟩:Addr) #[.int .i64 pY,.int .i64 pZ,.string qa] aH λbq=>
 Br (lP != 0) (
 zQb prog ({ target:=.fn (.func fx) capx,args:=(firstx.toList ++ ([]:List Value)).toArray } :: ds) bq λbp=>
 R (.returned (.int .i64 lP)) bp) (
 dwE bq λbG=>
 zQg p0 λrA=>
 ∃jW:SV,bG.cell? ((rA.add 2).add 2)=some (jW.v)/\
 ∃jy,jW.a=some jy/\0<=(IntKind.i64.wrap (n1 - 1))/\(IntKind.i64.wrap (n1 - 1))<(jW.len:Int)/\
 ∃np:SV,bG.cell? ((jy.add ((IntKind.i64.wrap (n1 - 1)).toNat * 2)).add 1)=some (np.v)/\
 ∃vR,bG.cell? ((⟨r7,0,none⟩:Addr).add 0)=some (.int .i64 vR)/\
 ∃vT,bG.cell? ((⟨r7,0,none⟩:Addr).add 1)=some (.int .i64 vT)/\
 ∃vU,bG.cell? ((⟨r7,0,none⟩:Addr).add 2)=some (.string vU)/\
 ∃kW,np.a=some kW/\0<=cQ/\cQ<(np.len:Int)/\
 stA prog 73 (kW.add (cQ.toNat * 3)) #[.int .i64 vR,.int .i64 vT,.string vU] bG λbU=>
 Calls prog 79 #[.pointer p0] bU λe ct=>
 e=.returned (.tuple #[])/\
 zQb prog ({ target:=.fn (.func fx) capx,args:=(firstx.toList ++ ([]:List Value)).toArray } :: ds) ct λdX=>
 R (.returned (.int .i64 0)) dX))))
theorem F40_p:Pl prog f40 [pS 0,iS 1,sS 2,aS 3 [.int .i64,.int .i64,.str]] F40_1:=λR=>
 lf
theorem yYv (p0:Option Addr) (n1:Int) (s2:ByteArray) (iP gA:Int) (nt:ByteArray) (w:World) (R:Rt) (h:F40_1 R p0 n1 s2 iP gA nt [] w):Calls prog 40 #[.pointer p0,.int .i64 n1,.string s2,.agg #[.int .i64 iP,.int .i64 gA,.string nt]] w R:=
 plC F40_p func40 h
def F41_1(R:Rt)(ds:Ds)(w:World):Prop:=
 zQb prog ds w λw1=>
 R (.returned (.int .i64 0)) w1
def F41_2 (R:Rt) (J1:(Int)->World->Prop) (p0:Option Addr) (sQ:SV) (iW o3:Int) (ds:Ds) (w:World):Prop:=
 Br (decide (o3<iW)) (
 ∃a2,sQ.a=some a2/\0<=o3/\o3<(sQ.len:Int)/\
 ∃oD,w.cell? ((a2.add (o3.toNat * 3)).add 0)=some (.int .i64 oD)/\
 ∃kL,w.cell? ((a2.add (o3.toNat * 3)).add 1)=some (.int .i64 kL)/\
 ∃lZ:SV,w.cell? ((a2.add (o3.toNat * 3)).add 2)=some (lZ.v)/\
 alE (.cells #[.int .i64 0,.int .i64 0,.slice none 0 0] 90) w λr6 w3=>
 stA prog 90 (⟨r6,0,none⟩:Addr) #[.int .i64 oD,.int .i64 kL,lZ.v] w3 λw4=>
 ∃vV,w4.cell? ((⟨r6,0,none⟩:Addr).add 0)=some (.int .i64 vV)/\
 ∃vW,w4.cell? ((⟨r6,0,none⟩:Addr).add 1)=some (.int .i64 vW)/\
 ∃mc:SV,w4.cell? ((⟨r6,0,none⟩:Addr).add 2)=some (mc.v)/\
 Calls prog 84 #[.pointer p0,.agg #[.int .i64 vV,.int .i64 vW,mc.v]] w4 λe w5=>
 e=.returned (.tuple #[])/\
 J1 (IntKind.i64.wrap (o3+1)) w5) (
 F41_1 R ds w)
def F41_3(R:Rt)(p0:Option Addr)(sQ:SV)(iW o3:Int)(ds:Ds)(w:World):Prop:=
 zQE (λ(J1:(Int)->World->Prop) (s:Int) (w:World)=>F41_2 R J1 p0 sQ iW s ds w) o3 w
def F41_5(R:Rt)(p0:Option Addr)(ds:Ds)(w:World):Prop:=
 Calls prog 55 #[.pointer p0] w λe w6=>
 ∃rL:Value,∃ez:Int,e=.returned (.tuple #[rL,.int .i64 ez])/\
 fnE rL λfx firstx capx=>
 Br (ez != 0) (
 zQb prog ({ target:=.fn (.func fx) capx,args:=(firstx.toList ++ ([]:List Value)).toArray } :: ds) w6 λw7=>
 R (.returned (.int .i64 ez)) w7) (
 zQg p0 λa8=>
 ∃dg:SV,w6.cell? (a8.add 5)=some (dg.v)/\
 Br (decide ((dg.len:Int) > 0)) (
 zQb prog ({ target:=.fn (.func fx) capx,args:=(firstx.toList ++ ([]:List Value)).toArray } :: ds) w6 λw9=>
 R (.returned (.int .i64 9)) w9) (
 zQg p0 λdx=>
 ∃eg:SV,w6.cell? (dx.add 8)=some (eg.v)/\
 ∃dY,eg.a=some dY/\0<=(1:Int)/\(1:Int)<(eg.len:Int)/\
 ∃bV:SV,w6.cell? (dY.add ((1:Int).toNat * 1))=some (bV.v)/\
 Br ((bV.len:Int) == 0) (
 zQb prog ({ target:=.fn (.func fx) capx,args:=(firstx.toList ++ ([]:List Value)).toArray } :: ds) w6 λaO=>
 R (.returned (.int .i64 0)) aO) (
 dwE w6 λaH=>
 ∃S1:World->Prop,S1 aH/\
 zQg p0 λf7=>
 ∃kh:SV,(∀w',S1 w'->w'.cell? (f7.add 8)=some (kh.v))/\
 ∃jz,kh.a=some jz/\0<=(1:Int)/\(1:Int)<(kh.len:Int)/\
 ∃iC:SV,(∀w',S1 w'->w'.cell? (jz.add ((1:Int).toNat * 1))=some (iC.v))/\
 zQg p0 λiG=>
 ∃og,(∀w',S1 w'->w'.cell? ((iG.add 2).add 0)=some (.int .i64 og))/\
 ∃fH:SV,(∀w',S1 w'->w'.cell? ((iG.add 2).add 1)=some (fH.v))/\
 ∃fI:SV,(∀w',S1 w'->w'.cell? ((iG.add 2).add 2)=some (fI.v))/\
 Calls prog 85 #[.agg #[.int .i64 og,fH.v,fI.v]] aH λe bH=>
 ∃kH:SV,e=.returned (kH.v)/\
 S1 bH/\
 Calls prog 84 #[.pointer p0,.agg #[.int .i64 1,.int .i64 (iC.len:Int),kH.v]] bH λe bO=>
 e=.returned (.tuple #[])/\
 zQg p0 λkW=>
 ∃nU:SV,bO.cell? (kW.add 8)=some (nU.v)/\
 Calls prog 48 #[nU.v] bO λe bU=>
 ∃sQ:SV,e=.returned (sQ.v)/\
 F41_3 R p0 sQ (sQ.len:Int) 0 ({ target:=.fn (.func fx) capx,args:=(firstx.toList ++ ([]:List Value)).toArray } :: ds) bU)))
theorem F41_p:Pl prog f41 [pS 0] F41_5:=λR=>
 pc 11 (rest [pS 0,lS 49,iS 50,iS 51] (F41_3 R) (bk 0 (rest [] (F41_1 R) lf) (lp [iS 51] [pS 0,lS 49,iS 50,iS 51] (F41_2 R) zXL λJ1=>lf)))
theorem xX4 (p0:Option Addr) (w:World) (R:Rt) (h:F41_5 R p0 [] w):Calls prog 41 #[.pointer p0] w R:=
 plC F41_p func41 h
end Go.Proofs.YtaeecpjhfmcliaaGreatDoor
