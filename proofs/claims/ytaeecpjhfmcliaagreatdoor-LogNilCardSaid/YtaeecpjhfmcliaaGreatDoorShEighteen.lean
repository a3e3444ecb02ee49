import Derived.Test.YtaeecpjhfmcliaaGreatDoorShSeventeen
import Derived.Lib.SlicesCompact
/- Plain laws: texts in their order, sorted; runs of equal texts as one; the set of a list. No program in sight. -/
set_option linter.unusedVariables false
set_option linter.unusedSimpArgs false
namespace Go.Sh
theorem zQM{a b:ByteArray}(h:a.data.toList=b.data.toList):a=b:=by
 cases a;cases b
 simp only at h
 congr 1
 exact Array.toList_inj.1 h
def bLe(a b:ByteArray):Bool:=decide (a.data.toList<=b.data.toList)
def srt(l:List ByteArray):List ByteArray:=l.mergeSort bLe
def yXg:Option ByteArray->List ByteArray->List ByteArray
 | _,[]=>[]
 | p,x :: r=>if p=some x then yXg p r else x :: yXg (some x) r
def cpt(l:List ByteArray):List ByteArray:=yXg none l
def setS(l:List ByteArray):List ByteArray:=cpt (srt l)
end Go.Sh
