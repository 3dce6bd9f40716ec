/- Walking a function that changes arguments in place: entry and end. No program is named; no condition. -/
import Derived.Test.YtgeonngfipikeaaGreatPT
namespace Go.Proofs.YtgeonngfipikeaaGreat
open Go.RowKit
set_option linter.unusedVariables false
set_option linter.unusedSimpArgs false
def hdrs:(s:Sh)→List Value→List Value
 | .pair a b,cs=>hdrs a (cs.take a.size)++hdrs b (cs.drop a.size)
 | .st _ a,cs=>hdrs a cs
 | .sl _ _,cs=>cs
 | _,_=>[]
def ptr0:Value→Value
 | .pointer (some a)=>.pointer (some ⟨a.block,0,none⟩)
 | u=>u
def Kd.hdrs (s:Sh) (u:Value):Kd→List Value
 | .io=>Go.Proofs.YtgeonngfipikeaaGreat.hdrs s u.cells.toList
 | .bx _ _=>[ptr0 u]
 | _=>[]
def hdrsA:List Kd→(l:List Sh)→List Value→List Value
 | k::ks,s::l,u::us=>k.hdrs s u++hdrsA ks l us
 | _,_,_=>[]
def Sum.hd (S:Sum) (us:List Value) (k:Nat):Value:=(hdrsA S.kinds S.dom us).getD k undef
section
variable {P:Program} {w0:World} {Z0:Nat→Prop} {L:List Nat} {N:Nat} {K:List Nat} {σ:St} {a:Act} {w:World} {Z:Nat→Prop} {E:Env}
end
end Go.Proofs.YtgeonngfipikeaaGreat
