/- Plain data: equality, sizes, marks. No program is named; no condition. -/
import Derived.Test.YtmcpigcpachdkaaPS
namespace Go.Proofs.Ytmcpigcpachdkaa
open Go.RowKit
set_option linter.unusedVariables false
set_option linter.unusedSimpArgs false
theorem notF {b:Bool} (h:(!b)=false):b=true:=by cases b<;>simp_all
theorem notT {b:Bool} (h:(!b)=true):b=false:=by cases b<;>simp_all
theorem neT {b:Bool} (h:b=false):¬ b=true:=by rw [h];decide
theorem ndT {p:Prop} [Decidable p] (h:p):(!decide p)=false:=by rw [decide_eq_true h];rfl
theorem ndF {p:Prop} [Decidable p] (h:¬ p):(!decide p)=true:=by rw [decide_eq_false h];rfl
section
variable {α:Type}
theorem getD_of_lt {xs:List α} {i:Nat} {z:α} (h:i < xs.length):xs.getD i z=xs[i]:=by simp [List.getD,h]
theorem take_snoc {xs:List α} {i:Nat} {z:α} (h:i < xs.length):xs.take (i+1)=xs.take i++[xs.getD i z]:=by rw [List.take_succ_eq_append_getElem h,getD_of_lt h]
theorem getD_mem {xs:List α} {i:Nat} {z:α} (h:i < xs.length):xs.getD i z∈xs:=by rw [getD_of_lt h];exact List.getElem_mem h
theorem take_all {xs:List α} {i:Nat} (h:xs.length≤i):xs.take i=xs:=List.take_of_length_le h
def ctL (c:α→Nat):List α→Nat
 | []=>0
 | x::l=>c x+ctL c l
def mkL (f:α→Int→α) (c:α→Nat):Int→List α→List α
 | _,[]=>[]
 | k,x::l=>f x k::mkL f c (k+c x) l
end
def Sh.ct:(s:Sh)→s.D→Nat
 | .pair a b,x=>a.ct x.1+b.ct x.2
 | .st _ a,x=>a.ct x
 | .sl _ a,xs=>ctL a.ct xs
 | .fn0 _,_ | .fn _ _,_ | .pt _,_=>0
 | _,_=>1
def Sh.mk:(s:Sh)→s.D→Int→s.D
 | .int _,_,k=>k
 | .bool _,b,_=>b
 | .u8 _,_,k=>IntKind.u8.wrap k
 | .str _,b,_=>b
 | .pair a b,x,k=>(a.mk x.1 k,b.mk x.2 (k+a.ct x.1))
 | .st _ a,x,k=>a.mk x k
 | .sl _ a,xs,k=>mkL a.mk a.ct k xs
 | .fn0 _,x,_ | .fn _ _,x,_ | .pt _,x,_=>x
def Sh.sz:(s:Sh)→s.D→Nat
 | .pair a b,x=>a.sz x.1+b.sz x.2
 | .st _ a,x=>a.sz x
 | .sl _ a,xs=>List.length (α:=a.D) xs+ctL a.sz xs
 | _,_=>0
def Sh.mx:Sh→Nat
 | .pair a b=>a.mx+b.mx
 | .st _ a=>a.mx
 | .sl _ a=>a.mx
 | _=>1
def idD (s:Sh) (x:s.D):s.D:=x
end Go.Proofs.Ytmcpigcpachdkaa
