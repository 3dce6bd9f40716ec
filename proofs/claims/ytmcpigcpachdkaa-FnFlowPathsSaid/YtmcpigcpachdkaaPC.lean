/- What each operation does to what is known of a state: a reader of temporaries and blocks that yields a value and writes. No program is named; no condition. -/
import Derived.Test.YtmcpigcpachdkaaPB
namespace Go.Proofs.Ytmcpigcpachdkaa
open Go.RowKit
set_option linter.unusedVariables false
set_option linter.unusedSimpArgs false
inductive RM (α:Type) where
 | ret (a:α)
 | tmp (t:Nat) (k:AV→RM α)
 | obj (o:Nat) (k:Ob→RM α)
 | need (p:Prop) (k:RM α)
 | fail
def AllP:List Prop→Prop
 | []=>True
 | p::l=>p∧AllP l
theorem AllP.append:∀ {l l':List Prop},AllP (l++l')→AllP l∧AllP l'
 | [],_,h=>⟨trivial,h⟩
 | _::_,_,h=>⟨⟨h.1,(AllP.append h.2).1⟩,(AllP.append h.2).2⟩
namespace RM
variable {α β:Type}
def bind:RM α→(α→RM β)→RM β
 | .ret a,f=>f a
 | .tmp t k,f=>.tmp t fun v=>(k v).bind f
 | .obj o k,f=>.obj o fun v=>(k v).bind f
 | .need p k,f=>.need p (k.bind f)
 | .fail,_=>.fail
def run:RM α→St→Option α
 | .ret a,_=>some a
 | .tmp t k,σ=>(k (σ.tmp t)).run σ
 | .obj o k, σ => match σ.obj o with
  | some x=>(k x).run σ
  | none=>none
 | .need _ k,σ=>k.run σ
 | .fail,_=>none
def obl:RM α→St→List Prop
 | .ret _,_=>[]
 | .tmp t k,σ=>(k (σ.tmp t)).obl σ
 | .obj o k, σ => match σ.obj o with
  | some x=>(k x).obl σ
  | none=>[]
 | .need p k,σ=>p::k.obl σ
 | .fail,_=>[]
def reads:RM α→St→List (Bool×Nat)
 | .ret _,_=>[]
 | .tmp t k,σ=>(false,t)::(k (σ.tmp t)).reads σ
 | .obj o k, σ => (true, o) :: match σ.obj o with
  | some x=>(k x).reads σ
  | none=>[]
 | .need _ k,σ=>k.reads σ
 | .fail,_=>[]
def _root_.Go.Proofs.Ytmcpigcpachdkaa.St.like (σ σ':St):Bool×Nat→Prop
 | (false,t)=>σ'.tmp t=σ.tmp t
 | (true,o)=>σ'.obj o=σ.obj o
theorem run_congr:∀ {m:RM α} {σ σ':St},(∀ l∈m.reads σ,σ.like σ' l)→m.run σ'=m.run σ∧m.obl σ'=m.obl σ∧m.reads σ'=m.reads σ
 | .ret _,_,_,_=>⟨rfl,rfl,rfl⟩
 | .tmp t k, σ, σ', h => by
  have h0:σ'.tmp t=σ.tmp t:=h (false,t) (by simp [reads])
  have:=run_congr (m:=k (σ.tmp t)) (σ:=σ) (σ':=σ') fun l hl=>h l (by simp [reads,hl])
  simp only [run,obl,reads,h0,this.1,this.2.1,this.2.2,and_self]
 | .obj o k, σ, σ', h => by
  have h0:σ'.obj o=σ.obj o:=h (true,o) (by simp [reads])
  cases hx:σ.obj o with
  | none=>simp [run,obl,reads,h0,hx]
  | some x =>
   have:=run_congr (m:=k x) (σ:=σ) (σ':=σ') fun l hl=>h l (by simp [reads,hx,hl])
   simp only [run,obl,reads,h0,hx,this.1,this.2.1,this.2.2,and_self]
 | .need p k, σ, σ', h => by
  have:=run_congr (m:=k) (σ:=σ) (σ':=σ') h
  simp only [run,obl,reads,this.1,this.2.1,this.2.2,and_self]
 | .fail,_,_,_=>⟨rfl,rfl,rfl⟩
theorem run_bind {σ:St} {f:α→RM β} {b:β}:∀ {m:RM α},(m.bind f).run σ=some b→∃ a,m.run σ=some a∧(f a).run σ=some b
 | .ret a,h=>⟨a,rfl,h⟩
 | .tmp t k,h=>run_bind (m:=k (σ.tmp t)) h
 | .obj o k, h => by
  simp only [bind,run] at h ⊢
  cases hx:σ.obj o with
  | none=>rw [hx] at h;cases h
  | some x=>rw [hx] at h;exact run_bind (m:=k x) h
 | .need _ k,h=>run_bind (m:=k) h
 | .fail,h=>by cases h
theorem obl_bind {σ:St} {f:α→RM β} {a:α}:∀ {m:RM α},AllP ((m.bind f).obl σ)→m.run σ=some a→AllP (m.obl σ)∧AllP ((f a).obl σ)
 | .ret a,h,e=>by cases e;exact ⟨trivial,h⟩
 | .tmp t k,h,e=>obl_bind (m:=k (σ.tmp t)) h e
 | .obj o k, h, e => by
  simp only [bind,run,obl] at h e ⊢
  cases hx:σ.obj o with
  | none=>rw [hx] at e;cases e
  | some x=>rw [hx] at h e;exact obl_bind (m:=k x) h e
 | .need p k, h, e => by
  have:=obl_bind (m:=k) h.2 e
  exact ⟨⟨h.1,this.1⟩,this.2⟩
 | .fail,_,e=>by cases e
end RM
def orFail {α:Type}:Option α→RM α
 | some a=>.ret a
 | none=>.fail
theorem orFail_run {α:Type} {x:Option α} {σ:St} {a:α} (h:(orFail x).run σ=some a):x=some a:=by
 cases x with
 | none=>cases h
 | some b=>exact h
structure Eff where
 res:AV
 obs:List (Nat×Option Ob)
def pureRun {α:Type} (P:Program):Sem α→Option α
 | .pure a=>some a
 | .program k=>pureRun P (k P)
 | .mark _ k=>pureRun P k
 | _=>none
theorem pureRun_run {α:Type} {P:Program} {w:World}:∀ {m:Sem α} {a:α},pureRun P m=some a→m.run P w=.ok a w
 | .pure _,_,h=>by cases h;rfl
 | .program k,_,h=>pureRun_run (m:=k P) h
 | .mark _ k,_,h=>pureRun_run (m:=k) h
 | .load ..,_,h | .store ..,_,h | .new ..,_,h | .shape ..,_,h | .freeze ..,_,h | .frozen ..,_,h | .getObj ..,_,h | .setObj ..,_,h | .choose ..,_,h | .sys ..,_,h | .halt ..,_,h=>by cases h
def constP:Value→PV
 | .agg cs=>.ag (cs.toList.map .v)
 | u=>.c (.v u)
def constA:Value→AV
 | .tuple vs=>.tu (vs.toList.map constP)
 | u=>.p (constP u)
def evalO:Operand→RM AV
 | .tmp t=>.tmp t .ret
 | .const u=>.ret (constA u)
 | .func f=>.ret (.p (.c (.cl f .cnil)))
 | .global _=>.fail
def asP:AV→RM PV
 | .p x=>.ret x
 | .tu _=>.fail
def asC:AV→RM CV
 | .p (.c x)=>.ret x
 | _=>.fail
def PV.cells:PV→List CV
 | .c x=>[x]
 | .ag l=>l
def evalP (x:Operand):RM PV:=(evalO x).bind asP
def evalC (x:Operand):RM CV:=(evalO x).bind asC
def evalCells (x:Operand):RM (List CV):=(evalP x).bind fun p=>.ret p.cells
def exactCs:List CV→Option (List Value)
 | []=>some []
 | .v u :: l => match exactCs l with
  | some vs=>some (u::vs)
  | none=>none
 | _::_=>none
def exactA:AV→Option Value
 | .p (.c (.v u))=>some u
 | .p (.ag l) => match exactCs l with
  | some vs=>some (.agg vs.toArray)
  | none=>none
 | _=>none
def exactTmps:List Operand→RM (List (Nat×Value))
 | []=>.ret []
 | .tmp t::l=>.tmp t fun a=>(orFail (exactA a)).bind fun u=>(exactTmps l).bind fun r=>.ret ((t,u)::r)
 | _::l=>exactTmps l
def rhoOf (env:List (Nat×Value)):Operand→Value
 | .tmp t=>(look env t).getD undef
 | .const u=>u
 | .global g=>.pointer (some ⟨g,0,none⟩)
 | .func f=>.func (.func f) #[] #[]
def Next.val?:Next→Option Value
 | .value v=>some v
 | _=>none
def pureM (P:Program) (o:Oper):RM AV :=
 (exactTmps o.op.operands.toList).bind fun env=>orFail (((pureRun P (execOp (rhoOf env) o)).bind Next.val?).map constA)
def CV.list:CV→List CV
 | .ccons a b=>a::b.list
 | _=>[]
def CV.chain:List CV→CV
 | []=>.cnil
 | c::l=>.ccons c (CV.chain l)
def CV.isList:CV→Bool
 | .cnil=>true
 | .ccons _ b=>b.isList
 | _=>false
def kC (f:Nat):CV:=bif f.beq 4294967295 then .v (.slice none 0 0) else .cl f .cnil
def Sh.cvs (dp:Bool):(s:Sh)→s.D→List CV
 | .int _,n=>[.v (.int .i64 n)]
 | .bool _,b=>[.v (.bool b)]
 | .u8 _,n=>[.v (.int .u8 n)]
 | .str _,b=>[.v (.string b)]
 | .pair a b,x=>a.cvs dp x.1++b.cvs dp x.2
 | .st _ a,x=>a.cvs dp x
 | .sl _ a,xs=>[bif dp then .un else .ro a xs]
 | .fn0 f,_=>[kC f]
 | .fn f a,x=>[.cl f (CV.chain (a.cvs dp x))]
 | .pt a,x=>[.pr a x 0]
def castD {a b:Sh} (h:a=b) (x:a.D):b.D:=h ▸ x
def castL {a b:Sh} (h:a=b) (xs:List a.D):List b.D:=h ▸ xs
def intC:List CV→RM Int
 | [.v (.int .i64 n)]=>.ret n
 | _=>.fail
def boolC:List CV→RM Bool
 | [.v (.bool n)]=>.ret n
 | _=>.fail
def u8C:List CV→RM Int
 | [.v (.int .u8 n)]=>.need (0≤n∧n < 256) (.ret n)
 | _=>.fail
def strC:List CV→RM ByteArray
 | [.v (.string n)]=>.ret n
 | _=>.fail
def slC (own:Bool) (a:Sh):List CV→RM (List a.D)
 | [.ro a' xs]=>if h:a'.beq a=true then .ret (castL (Sh.eq_of_beq h) xs) else .fail
 | [.v (.slice none 0 0)]=>.ret []
 | [.sl r] => bif own then .obj r fun
   | .row _ a' xs=>if h:a'.beq a=true then .ret (castL (Sh.eq_of_beq h) xs) else .fail
   | _=>.fail
  else .fail
 | _=>.fail
def slO (a:Sh):List CV→RM (List a.D×List Nat)
 | [.v (.slice none 0 0)]=>.ret ([],[])
 | [.sl r] => .obj r fun
   | .row dp a' xs=>if h:a'.beq a=true then bif dp || a.plain then .ret (castL (Sh.eq_of_beq h) xs,[r]) else .fail else .fail
   | _=>.fail
 | _=>.fail
def rdC (own:Bool):(s:Sh)→List CV→RM s.D
 | .int _,cs=>intC cs
 | .bool _,cs=>boolC cs
 | .u8 _,cs=>u8C cs
 | .str _,cs=>strC cs
 | .pair a b,cs=>(rdC own a (cs.take a.size)).bind fun x=>(rdC own b (cs.drop a.size)).bind fun y=>.ret (x,y)
 | .st _ a,cs=>rdC own a cs
 | .sl _ a,cs=>slC own a cs
 | .fn0 f, cs => match cs with
  | [.cl f' .cnil]=>bif f'.beq f && !f.beq 4294967295 then .ret () else .fail
  | [.v (.slice none 0 0)]=>bif f.beq 4294967295 then .ret () else .fail
  | _=>.fail
 | .fn f a, cs => match cs with
  | [.cl f' c]=>bif f'.beq f && c.isList then rdC own a c.list else .fail
  | _=>.fail
 | .pt a, cs => match cs with
  | [.pr s x k]=>bif k.beq 0 then if h:s.beq a=true then .ret (castD (b:=a) (Sh.eq_of_beq h) x) else .fail else .fail
  | [.ptr o k] => bif own && k.beq 0 then .obj o fun
    | .bx _ ds=>bif ds.length.beq a.size then rdC own a ds else .fail
    | _=>.fail
   else .fail
  | _=>.fail
def owC:(s:Sh)→List CV→RM (s.D×List Nat)
 | .int _,cs=>(intC cs).bind fun x=>.ret (x,[])
 | .bool _,cs=>(boolC cs).bind fun x=>.ret (x,[])
 | .u8 _,cs=>(u8C cs).bind fun x=>.ret (x,[])
 | .str _,cs=>(strC cs).bind fun x=>.ret (x,[])
 | .pair a b,cs=>(owC a (cs.take a.size)).bind fun x=>(owC b (cs.drop a.size)).bind fun y=>.ret ((x.1,y.1),x.2++y.2)
 | .st _ a,cs=>owC a cs
 | .sl _ a,cs=>slO a cs
 | .fn0 _,_ | .fn _ _,_ | .pt _,_=>.fail
@[reducible] def Dom:List Sh→Type
 | []=>Unit
 | s::l=>s.D×Dom l
structure Md where
 ids:List Nat:=[]
 frz:Bool:=false
 dp:Bool:=true
 hint:Option AV:=none
 key:Option Nat:=none
 nw:Bool:=false
inductive Kd where
 | rd
 | io
 | tk
 | bx (t off:Nat)
structure Sum where
 fid:Nat
 dom:List Sh
 cod:List Sh
 dp:Bool
 fz:Bool:=false
 kinds:List Kd:=[]
 ali:Option Nat:=none
 upd:Dom dom→Dom dom:=id
 pre:Dom dom→Prop
 g:Dom dom→Dom cod
 prim:Option (Md→List PV→RM Eff):=none
def PV.isAg:PV→Bool
 | .c _=>false
 | .ag _=>true
def rdArgs (own:Bool):(l:List Sh)→List PV→RM (Dom l)
 | [],[]=>.ret ()
 | s::l,p::ps=>bif p.isAg==s.agg then (rdC own s p.cells).bind fun x=>(rdArgs own l ps).bind fun y=>.ret (x,y) else .fail
 | _,_=>.fail
def evalArgs:List Operand→RM (List PV)
 | []=>.ret []
 | x::l=>(evalP x).bind fun c=>(evalArgs l).bind fun r=>.ret (c::r)
def resC (dp:Bool):(s:Sh)→s.D→List Nat→List CV×List (Nat×Option Ob)×List Nat
 | .int _,n,ids=>([.v (.int .i64 n)],[],ids)
 | .bool _,b,ids=>([.v (.bool b)],[],ids)
 | .u8 _,n,ids=>([.v (.int .u8 n)],[],ids)
 | .str _,b,ids=>([.v (.string b)],[],ids)
 | .pair a b,x,ids=>((resC dp a x.1 ids).1++(resC dp b x.2 (resC dp a x.1 ids).2.2).1,(resC dp b x.2 (resC dp a x.1 ids).2.2).2.1++(resC dp a x.1 ids).2.1,(resC dp b x.2 (resC dp a x.1 ids).2.2).2.2)
 | .st _ a,x,ids=>resC dp a x ids
 | .sl _ a,xs,ids=>([.sl (ids.headD 0)],[(ids.headD 0,some (.row dp a xs))],ids.tail)
 | .fn0 _,_,ids | .fn _ _,_,ids | .pt _,_,ids=>([.un],[],ids)
def Sh.pv (s:Sh) (cs:List CV):PV:=bif s.agg then .ag cs else .c (cs.headD .un)
def Sh.cnt:Sh→Nat
 | .pair a b=>a.cnt+b.cnt
 | .st _ a=>a.cnt
 | .sl _ _=>1
 | _=>0
def cntP:List Sh→Nat
 | []=>0
 | s::l=>s.cnt+cntP l
def frzP:(l:List Sh)→Dom l→List PV
 | [],_=>[]
 | s::l,x=>s.pv (s.cvs false x.1)::frzP l x.2
def resP (dp:Bool):(l:List Sh)→Dom l→List Nat→List PV×List (Nat×Option Ob)
 | [],_,_=>([],[])
 | s::l,x,ids=>(s.pv (resC dp s x.1 ids).1::(resP dp l x.2 (resC dp s x.1 ids).2.2).1,(resP dp l x.2 (resC dp s x.1 ids).2.2).2++(resC dp s x.1 ids).2.1)
def tupA:List PV→AV
 | [x]=>.p x
 | l=>.tu l
def Sum.call (S:Sum) (md:Md) (css:List PV):RM Eff :=
 (rdArgs S.dp S.dom css).bind fun x => .need (S.pre x)
  (bif S.fz then (bif S.dp then .fail else .ret ⟨tupA (frzP S.cod (S.g x)),[]⟩) else bif md.frz then .ret ⟨tupA (frzP S.cod (S.g x)),[]⟩ else bif Nat.ble (cntP S.cod) md.ids.length then .ret ⟨tupA (resP S.dp S.cod (S.g x) md.ids).1,(resP S.dp S.cod (S.g x) md.ids).2⟩ else .fail)
def CV.one:CV→Bool
 | .v u=>u.oneCell'
 | .un=>false
 | _=>true
def nodupB:List Nat→Bool
 | []=>true
 | i::l=>(l.all fun j=>!i.beq j) && nodupB l
def gone (ids:List Nat):List (Nat×Option Ob):=ids.map fun i=>(i,none)
def bxArg (s:Sh) (t off:Nat):PV→RM (s.D×List Nat×List Nat)
 | .c (.ptr o k) => bif k.beq off then .obj o fun
   | .bx t' cs=>bif t'.beq t then (owC s cs).bind fun y=>.ret (y.1,o::y.2,[]) else .fail
   | _=>.fail
  else .fail
 | _=>.fail
def ioArg (s:Sh) (p:PV):Kd→RM (s.D×List Nat×List Nat)
 | .rd=>bif s.data && p.isAg==s.agg then (rdC true s p.cells).bind fun x=>.ret (x,[],p.ids) else .fail
 | .io=>bif p.isAg==s.agg && p.cells.all CV.one then (owC s p.cells).bind fun y=>.ret (y.1,y.2,[]) else .fail
 | .tk=>bif p.isAg==s.agg && p.cells.all CV.one then (owC s p.cells).bind fun y=>.ret (y.1,y.2,[]) else .fail
 | .bx t off=>bxArg s t off p
def ioArgs:List Kd→(l:List Sh)→List PV→RM (Dom l×List Nat×List Nat)
 | [],[],[]=>.ret ((),[],[])
 | k::ks,s::l,p::ps=>(ioArg s p k).bind fun x=>(ioArgs ks l ps).bind fun y=>.ret ((x.1,y.1),x.2.1++y.2.1,x.2.2++y.2.2)
 | _,_,_=>.fail
def ioC:(s:Sh)→List CV→s.D→List (Nat×Option Ob)
 | .pair a b,cs,x=>ioC b (cs.drop a.size) x.2++ioC a (cs.take a.size) x.1
 | .st _ a,cs,x=>ioC a cs x
 | .sl _ a, cs, xs => match cs with
  | [.sl r]=>[(r,some (.row true a xs))]
  | _=>[]
 | _,_,_=>[]
def ioBack (s:Sh) (p:PV) (x:s.D) (ids:List Nat):Kd→List (Nat×Option Ob)×List Nat
 | .rd | .tk=>([],ids)
 | .io=>(ioC s p.cells x,ids)
 | .bx t _ => match p with
  | .c (.ptr o _)=>((o,some (.bx t (resC true s x ids).1))::(resC true s x ids).2.1,(resC true s x ids).2.2)
  | _=>([],ids)
def ioBacks:List Kd→(l:List Sh)→List PV→Dom l→List Nat→List (Nat×Option Ob)×List Nat
 | k::ks,s::l,p::ps,x,ids=>((ioBacks ks l ps x.2 (ioBack s p x.1 ids k).2).1++(ioBack s p x.1 ids k).1,(ioBacks ks l ps x.2 (ioBack s p x.1 ids k).2).2)
 | _,_,_,_,ids=>([],ids)
def cntB:List Kd→List Sh→Nat
 | .bx _ _::ks,s::l=>s.cnt+cntB ks l
 | _::ks,_::l=>cntB ks l
 | _,_=>0
def memN (i:Nat) (l:List Nat):Bool:=l.any fun j=>i.beq j
def Sum.resG (S:Sum) (css:List PV) (y:Dom S.cod) (ids:List Nat):AV×List (Nat×Option Ob):=match S.ali with
 | some j=>(.p (css.getD j (.c .un)),[])
 | none=>(tupA (resP true S.cod y ids).1,(resP true S.cod y ids).2)
def Sum.callG (S:Sum) (md:Md) (css:List PV):RM Eff :=
 (ioArgs S.kinds S.dom css).bind fun x => bif nodupB x.2.1 && (x.2.2.all fun i => !memN i x.2.1) && Nat.ble (cntB S.kinds S.dom + cntP S.cod) md.ids.length then .need (S.pre x.1)
  (.ret ⟨(S.resG css (S.g x.1) (ioBacks S.kinds S.dom css (S.upd x.1) md.ids).2).1,(S.resG css (S.g x.1) (ioBacks S.kinds S.dom css (S.upd x.1) md.ids).2).2++(ioBacks S.kinds S.dom css (S.upd x.1) md.ids).1++gone x.2.1⟩) else .fail
def infoSize (P:Program) (t:TypeId):Option Nat:=(P.info? t).map (·.size)
def isAggT (P:Program) (t:TypeId):Option Bool:=(P.underlying t).map fun d=>match d with | .struct _=>true | .array _ _=>true | _=>false
def fieldOf (P:Program) (s:TypeId) (f:Nat):Option (Nat×TypeId):=match P.underlying s with
 | some (.struct fs)=>(fs[f]?).map fun x=>(x.offset,x.type)
 | _=>none
def zeroCells (P:Program) (t:TypeId):Option (List Value):=((P.info? t).bind (·.zero)).map fun z=>z.cells.toList
def cut (l:List CV) (c n:Nat):RM (List CV):=bif Nat.ble (c+n) l.length then .ret ((l.drop c).take n) else .fail
def asPV (agg:Bool) (l:List CV):RM PV:=bif agg then .ret (.ag l) else match l with
 | [x]=>.ret (.c x)
 | _=>.fail
def loadM (P:Program) (t:TypeId) (x:Operand):RM Eff :=
 (evalC x).bind fun c => (orFail (infoSize P t)).bind fun n => (orFail (isAggT P t)).bind fun ag =>
  (match c with
   | .ptr o k => .obj o fun
    | .bx _ cs=>cut cs k n
    | _=>.fail
   | .pr s x k=>cut (s.cvs false x) k n
   | .pe r i k m => .obj r fun
    | .row dp s xs=>bif m.beq s.size then .need (i < xs.length) (cut (s.cvs dp (xs.getD i s.z)) k n) else .fail
    | .op s xs j cs=>bif m.beq s.size then .need (i=j) (cut cs k n) else .fail
    | _=>.fail
   | _=>.fail:RM (List CV)).bind fun l=>(asPV ag l).bind fun p=>.ret ⟨.p p,[]⟩
def put (l:List CV) (c:Nat) (cs:List CV):List CV:=l.take c++cs++l.drop (c+cs.length)
def updC (dp:Bool):(s:Sh)→s.D→Nat→List CV→RM s.D
 | .pair a b, x, k, cs => bif Nat.ble (k + cs.length) a.size then (updC dp a x.1 k cs).bind fun y => .ret (y, x.2)
  else bif Nat.ble a.size k then (updC dp b x.2 (k - a.size) cs).bind fun y=>.ret (x.1,y)
  else .fail
 | .st t a,x,k,cs=>updC dp a x k cs
 | .sl t a,_,k,cs=>bif !dp && k.beq 0 then rdC false (.sl t a) cs else .fail
 | .int t,_,k,cs=>bif k.beq 0 then rdC false (.int t) cs else .fail
 | .bool t,_,k,cs=>bif k.beq 0 then rdC false (.bool t) cs else .fail
 | .u8 t,_,k,cs=>bif k.beq 0 then rdC false (.u8 t) cs else .fail
 | .str t,_,k,cs=>bif k.beq 0 then rdC false (.str t) cs else .fail
 | .fn0 _,_,_,_ | .fn _ _,_,_,_ | .pt _,_,_,_=>.fail
def takeC (dp:Bool) (s:Sh) (cs:List CV):RM (s.D×List Nat):=bif dp then owC s cs else (rdC false s cs).bind fun x=>.ret (x,[])
def storeM (P:Program) (t:TypeId) (x v:Operand):RM Eff :=
 (evalC x).bind fun c => (evalCells v).bind fun cs => (orFail (infoSize P t)).bind fun n => bif cs.length.beq n && cs.all CV.one then
  match c with
   | .ptr o k => .obj o fun
    | .bx t' l=>bif Nat.ble (k+cs.length) l.length then .ret ⟨.p (.c .un),[(o,some (.bx t' (put l k cs)))]⟩ else .fail
    | _=>.fail
   | .pe r i k m => .obj r fun
    | .row dp s xs => bif m.beq s.size && Nat.ble (k + cs.length) s.size then .need (i < xs.length)
      (bif n.beq s.size then (takeC dp s cs).bind fun y => bif nodupB (r :: y.2) then .ret ⟨.p (.c .un), (r, some (.row dp s (xs.set i y.1))) :: gone y.2⟩ else .fail
       else (updC dp s (xs.getD i s.z) k cs).bind fun y=>.ret ⟨.p (.c .un),[(r,some (.row dp s (xs.set i y)))]⟩) else .fail
    | .op s xs j l=>bif m.beq s.size && Nat.ble (k+cs.length) s.size && l.length.beq s.size then .need (i=j) (.ret ⟨.p (.c .un),[(r,some (.op s xs j (put l k cs)))]⟩) else .fail
    | _=>.fail
   | _=>.fail
  else .fail
def newId (md:Md) (k:Nat→RM Eff):RM Eff:=match md.ids with
 | id::_=>k id
 | []=>.fail
def allocM (P:Program) (md:Md) (t:TypeId):RM Eff :=
 newId md fun id=>(orFail (zeroCells P t)).bind fun z=>.ret ⟨.p (.c (.ptr id 0)),[(id,some (.bx t (z.map .v)))]⟩
def boxM (md:Md) (t:TypeId) (x:Operand):RM Eff :=
 newId md fun id=>(evalCells x).bind fun cs=>bif cs.all CV.one then .ret ⟨.p (.c (.ptr id 0)),[(id,some (.bx t cs))]⟩ else .fail
def placesOf (P:Program) (t:TypeId):Option (List (Nat×Nat)):=match P.underlying t with
 | some (.struct fs)=>fs.toList.mapM (fun f=>(P.info? f.type).map fun i=>(f.offset,i.size))
 | _=>none
def fillM (places:List (Nat×Nat)):List (Nat×Operand)→List CV→RM (List CV)
 | [],l=>.ret l
 | (i, x) :: ps, l => (orFail places[i]?).bind fun f => (evalCells x).bind fun cs =>
  bif cs.length.beq f.2 && Nat.ble (f.1+cs.length) l.length && cs.all CV.one then fillM places ps (put l f.1 cs) else .fail
def buildM (P:Program) (t:TypeId) (parts:List (Nat×Operand)):RM Eff :=
 (orFail (zeroCells P t)).bind fun z=>(orFail (placesOf P t)).bind fun pl=>(fillM pl parts (z.map .v)).bind fun l=>.ret ⟨.p (.ag l),[]⟩
abbrev Gam:=List (Nat×Sh×Nat)
def elemsM (dp:Bool) (s:Sh):Nat→List (Nat×Operand)→RM (List s.D×List Nat)
 | _,[]=>.ret ([],[])
 | k,(i,x)::ps=>bif i.beq k then (evalCells x).bind fun cs=>bif cs.length.beq s.size && cs.all CV.one then (takeC dp s cs).bind fun y=>(elemsM dp s (k+1) ps).bind fun r=>.ret (y.1::r.1,y.2++r.2) else .fail else .fail
def buildSliceM (Γ:Gam) (md:Md) (t:TypeId) (len:Nat) (parts:List (Nat×Operand)):RM Eff :=
 newId md fun id=>(orFail (look Γ t)).bind fun e=>bif parts.length.beq len && Nat.ble (len*e.1.size) 1000 then (elemsM md.dp e.1 0 parts).bind fun y =>
  bif nodupB y.2 then .ret ⟨.p (.c (.sl id)),(id,some (.row md.dp e.1 y.1))::gone y.2⟩ else .fail else .fail
def makeSliceM (Γ:Gam) (md:Md) (t:TypeId) (l c:Operand):RM Eff :=
 newId md fun id=>(orFail (look Γ t)).bind fun e=>(evalC l).bind fun x=>(evalC c).bind fun y=>match x,y with
  | .v (.int .i64 n), .v (.int .i64 n') => bif e.1.data then .need (0 ≤ n ∧ n' = n ∧ n * e.2 ≤ 140737488355328)
    (.ret ⟨.p (.c (.sl id)),[(id,some (.row md.dp e.1 (List.replicate n.toNat e.1.z)))]⟩) else .fail
  | _,_=>.fail
def srcM (dp:Bool) (s:Sh):CV→RM (List s.D×List Nat)
 | .v (.slice none 0 0)=>.ret ([],[])
 | .ro s' ys=>bif !dp || s.plain then (if h:s'.beq s=true then .ret (castL (Sh.eq_of_beq h) ys,[]) else .fail) else .fail
 | .sl r => .obj r fun
  | .row dp' s' ys => if h : s'.beq s = true then
    (bif s.plain then .ret (castL (Sh.eq_of_beq h) ys,[]) else bif dp then (bif dp' then .ret (castL (Sh.eq_of_beq h) ys,[r]) else .fail) else bif dp' then .fail else .ret (castL (Sh.eq_of_beq h) ys,[]))
    else .fail
  | _=>.fail
 | _=>.fail
def appendM (Γ:Gam) (md:Md) (t:TypeId) (x y:Operand):RM Eff :=
 newId md fun id=>(orFail (look Γ t)).bind fun e=>(evalC x).bind fun a=>(evalC y).bind fun b=>match a with
  | .v (.slice none 0 0) => (srcM md.dp e.1 b).bind fun ys => .need (ys.1.length * e.2 ≤ 140737488355328)
    (.ret ⟨.p (.c (.sl id)),(id,some (.row md.dp e.1 ys.1))::gone ys.2⟩)
  | .sl r => .obj r fun
   | .row dp s xs => if h : s.beq e.1 = true then (srcM dp e.1 b).bind fun ys => bif ys.2.all fun i => !i.beq r then .need ((xs.length + ys.1.length) * e.2 ≤ 140737488355328)
     (.ret ⟨.p (.c (.sl id)),(id,some (.row dp e.1 (castL (Sh.eq_of_beq h) xs++ys.1)))::gone (r::ys.2)⟩) else .fail else .fail
   | _=>.fail
  | _=>.fail
def appendZM (P:Program) (Γ:Gam) (md:Md) (t t':TypeId) (x y:Operand):RM Eff :=
 newId md fun id=>(orFail (look Γ t)).bind fun e=>match P.underlying t' with
  | some (.int .i64) => (evalC x).bind fun a => (evalC y).bind fun b => match a, b with
   | .v (.slice none 0 0), .v (.int .i64 n) => bif e.1.data then .need (0 < n ∧ n * e.2 ≤ 140737488355328)
     (.ret ⟨.p (.c (.sl id)),[(id,some (.row md.dp e.1 (List.replicate n.toNat e.1.z)))]⟩) else .fail
   | _,_=>.fail
  | _=>.fail
def lenM (P:Program) (o:Oper) (t:TypeId) (x:Operand):RM Eff :=
 match P.underlying t with
 | some (.slice _) => (evalC x).bind fun c => match c with
  | .ro _ xs=>.ret ⟨.p (.c (.v (.int .i64 xs.length))),[]⟩
  | .sl r => .obj r fun
   | .row _ _ xs=>.ret ⟨.p (.c (.v (.int .i64 xs.length))),[]⟩
   | .op _ xs _ _=>.ret ⟨.p (.c (.v (.int .i64 xs.length))),[]⟩
   | _=>.fail
  | .v (.slice none 0 0)=>.ret ⟨.p (.c (.v (.int .i64 0))),[]⟩
  | _=>.fail
 | _=>(pureM P o).bind fun v=>.ret ⟨v,[]⟩
def optInt (d:Int):Option Operand→RM Int
 | none=>.ret d
 | some x => (evalC x).bind fun c => match c with
  | .v (.int _ n)=>.ret n
  | _=>.fail
def sliceM (P:Program) (md:Md) (t:TypeId) (x:Operand) (lo hi:Option Operand):RM Eff :=
 match P.underlying t with
 | some (.slice e) => (orFail (infoSize P e)).bind fun n => (evalC x).bind fun c => match c with
  | .ro s xs => bif n.beq s.size then (optInt 0 lo).bind fun l => (optInt xs.length hi).bind fun h => .need (0 ≤ l ∧ l ≤ h ∧ h ≤ xs.length)
    (.ret ⟨.p (.c (.ro s ((xs.take h.toNat).drop l.toNat))),[]⟩) else .fail
  | .sl r => .obj r fun
   | .row dp s xs => newId md fun id => bif n.beq s.size then (match lo with
     | none => (optInt xs.length hi).bind fun h => .need (0 ≤ h ∧ h ≤ xs.length)
       (.ret ⟨.p (.c (.sl id)),(id,some (.row dp s (xs.take h.toNat)))::gone [r]⟩)
     | some _ => bif hi.isNone then (optInt 0 lo).bind fun l => .need (0 ≤ l ∧ l ≤ xs.length)
       (.ret ⟨.p (.c (.sl id)),(id,some (.row dp s (xs.drop l.toNat)))::gone [r]⟩) else .fail) else .fail
   | _=>.fail
  | .v (.slice none 0 0)=>(optInt 0 lo).bind fun l=>(optInt 0 hi).bind fun h=>.need (0≤l∧l≤h∧h≤0) (.ret ⟨.p (.c (.v (.slice none 0 0))),[]⟩)
  | _=>.fail
 | _=>.fail
def clipM (P:Program) (md:Md) (t:TypeId) (x hi mx:Operand):RM Eff :=
 match P.underlying t with
 | some (.slice e) => (orFail (infoSize P e)).bind fun n => (evalC x).bind fun c => match c with
  | .sl r => .obj r fun
   | .row dp s xs => newId md fun id => bif n.beq s.size then (optInt 0 (some hi)).bind fun h => (optInt 0 (some mx)).bind fun m => .need (h = xs.length ∧ m = xs.length)
     (.ret ⟨.p (.c (.sl id)),(id,some (.row dp s xs))::gone [r]⟩) else .fail
   | _=>.fail
  | _=>.fail
 | _=>.fail
def fieldAddrM (P:Program) (s:TypeId) (x:Operand) (f:Nat):RM Eff :=
 (orFail (fieldOf P s f)).bind fun q => (orFail (infoSize P q.2)).bind fun n => bif n.beq 0 then .fail else (evalC x).bind fun c => match c with
  | .ptr o k=>.ret ⟨.p (.c (.ptr o (k+q.1))),[]⟩
  | .pr s x k=>.ret ⟨.p (.c (.pr s x (k+q.1))),[]⟩
  | .pe r i k m=>.ret ⟨.p (.c (.pe r i (k+q.1) m)),[]⟩
  | _=>.fail
def nilCheckM (x:Operand):RM Eff:=(evalC x).bind fun c=>match c with
 | .ptr o k=>.ret ⟨.p (.c (.ptr o k)),[]⟩
 | .pr s x k=>.ret ⟨.p (.c (.pr s x k)),[]⟩
 | .pe r i k m=>.ret ⟨.p (.c (.pe r i k m)),[]⟩
 | _=>.fail
def fieldM (P:Program) (s:TypeId) (x:Operand) (f:Nat):RM Eff :=
 (orFail (fieldOf P s f)).bind fun q => (orFail (infoSize P q.2)).bind fun n => (orFail (isAggT P q.2)).bind fun ag => (evalP x).bind fun p => match p with
  | .ag l=>(cut l q.1 n).bind fun cs=>(asPV ag cs).bind fun p=>.ret ⟨.p p,[]⟩
  | _=>.fail
def indexAddrM (P:Program) (t:TypeId) (x ix:Operand):RM Eff :=
 match P.underlying t with
 | some (.slice e) => (orFail (infoSize P e)).bind fun n => (evalC x).bind fun c => (evalC ix).bind fun d => match d with
  | .v (.int _ i) => match c with
   | .ro s xs=>bif n.beq s.size then .need (0≤i∧i < xs.length) (.ret ⟨.p (.c (.pr s (xs.getD i.toNat s.z) 0)),[]⟩) else .fail
   | .sl r => .obj r fun
    | .row _ s xs=>bif n.beq s.size then .need (0≤i∧i < xs.length) (.ret ⟨.p (.c (.pe r i.toNat 0 s.size)),[]⟩) else .fail
    | .op s xs _ _=>bif n.beq s.size then .need (0≤i∧i < xs.length) (.ret ⟨.p (.c (.pe r i.toNat 0 s.size)),[]⟩) else .fail
    | _=>.fail
   | _=>.fail
  | _=>.fail
 | _=>.fail
def extractM (x:Operand) (i:Nat):RM Eff :=
 (evalO x).bind fun a => match a with
  | .tu l=>(orFail l[i]?).bind fun p=>.ret ⟨.p p,[]⟩
  | _=>.fail
def capsM:List Operand→RM CV
 | []=>.ret .cnil
 | x::l=>(evalC x).bind fun c=>(capsM l).bind fun r=>.ret (.ccons c r)
def frzE (e:Eff):Eff:=match e.res with
 | .p (.c (.sl r)) => match look e.obs r with
  | some (some (.row _ s xs))=>⟨.p (.c (.ro s xs)),(r,none)::e.obs⟩
  | _=>e
 | _=>e
def bodied (P:Program) (f:FuncId):Bool:=match P.funcs[f]? with
 | some fn => !(fn.name == "runtime.NumGoroutine") && !fn.body.isNone
 | none=>false
def allEq:List Int→List Int→Bool
 | [],[]=>true
 | a::l,b::l'=>decide (a=b) && allEq l l'
 | _,_=>false
def intsOf:List CV→Option (List Int)
 | []=>some []
 | .v (.int .i64 n) :: l => match intsOf l with
  | some ns=>some (n::ns)
  | none=>none
 | _::_=>none
def eqFieldsOK (P:Program):List Field→Nat→Bool
 | [],_=>true
 | f :: fs, k => (match P.underlying f.type with | some (.int .i64) => true | _ => false) && f.offset.beq k && !(f.name == "_") && eqFieldsOK P fs (k + 1)
def structEqM (P:Program) (neg:Bool) (t:TypeId) (x y:Operand):RM Eff:=match P.underlying t with
 | some (.struct fs) => bif !(P.stoodInHeld t) && !(P.eqGuardType P.depth t) && eqFieldsOK P fs.toList 0 then (evalP x).bind fun p => (evalP y).bind fun q => match p, q with
  | .ag l,.ag l'=>(orFail (intsOf l)).bind fun as=>(orFail (intsOf l')).bind fun bs=>bif as.length.beq fs.toList.length && bs.length.beq fs.toList.length then .ret ⟨.p (.c (.v (.bool (bif neg then !allEq as bs else allEq as bs)))),[]⟩ else .fail
  | _,_=>.fail
  else .fail
 | _=>.fail
def nilM (P:Program) (o:Oper) (t:TypeId) (x y:Operand):RM Eff :=
 match P.underlying t with
 | some (.slice _) => (evalC y).bind fun d => match d with
  | .v (.slice none 0 0) => (evalC x).bind fun c => match c with
   | .ro _ xs=>.ret ⟨.p (.c (.nb xs.length)),[]⟩
   | .sl r => .obj r fun
    | .row _ _ xs=>.ret ⟨.p (.c (.nb xs.length)),[]⟩
    | _=>.fail
   | .v (.slice none 0 0)=>.ret ⟨.p (.c (.v (.bool true))),[]⟩
   | _=>.fail
  | _=>.fail
 | some (.struct _)=>structEqM P false t x y
 | _=>(pureM P o).bind fun v=>.ret ⟨v,[]⟩
def arithM (P:Program) (o:Oper) (md:Md) (op:BinOp) (x y:Operand):RM Eff:=bif md.nw then (evalC x).bind fun c=>(evalC y).bind fun d=>match c,d with
 | .v (.int .i64 a), .v (.int .i64 b) => (match op with
  | .add=>.need (I64 (a+b)) (.ret ⟨.p (.c (.v (.int .i64 (a+b)))),[]⟩)
  | .sub=>.need (I64 (a - b)) (.ret ⟨.p (.c (.v (.int .i64 (a - b)))),[]⟩)
  | .mul=>.need (I64 (a*b)) (.ret ⟨.p (.c (.v (.int .i64 (a*b)))),[]⟩)
  | .quo=>.need (b≠0∧I64 (a.tdiv b)) (.ret ⟨.p (.c (.v (.int .i64 (a.tdiv b)))),[]⟩)
  | _=>.fail)
 | _,_=>.fail
 else (pureM P o).bind fun v=>.ret ⟨v,[]⟩
def divM (op:BinOp) (x y:Operand):RM Eff:=(evalC x).bind fun c=>(evalC y).bind fun d=>match c,d with
 | .v (.int k a), .v (.int k' b) => bif decide (k = k') then .need (b ≠ 0) (match op with
  | .quo=>.ret ⟨.p (.c (.v (.int k (k.wrap (a.tdiv b))))),[]⟩
  | .rem=>.ret ⟨.p (.c (.v (.int k (a.tmod b)))),[]⟩
  | _=>.fail) else .fail
 | _,_=>.fail
def shiftM (op:BinOp) (x y:Operand):RM Eff:=(evalC x).bind fun c=>(evalC y).bind fun d=>match c,d with
 | .v (.int k a), .v (.int _ b) => .need (0 ≤ b) (match op with
  | .shl=>.ret ⟨.p (.c (.v (.int k (k.wrap (a*2 ^ (min b.toNat k.bits)))))),[]⟩
  | .shr=>.ret ⟨.p (.c (.v (.int k (a.fdiv (2 ^ (min b.toNat k.bits)))))),[]⟩
  | _=>.fail)
 | _,_=>.fail
def mapKind (P:Program) (t:TypeId):Option Bool:=match P.underlying t with
 | some (.map k e) => (match P.underlying k with
  | some (.int .i64) => (match (P.info? e).bind (·.zero) with
   | some (.int .i64 n)=>bif decide (n=0) then some false else none
   | some (.bool b)=>bif b then none else some true
   | _=>none)
  | _=>none)
 | _=>none
def midx:List (Int×Int)→Int→Option Nat
 | [],_=>none
 | p::l,n=>bif decide (n=p.1) then some 0 else (midx l n).map (·+1)
def mget (es:List (Int×Int)) (n:Int):Option Int:=(midx es n).map fun j=>(es.getD j (0,0)).2
def mset (es:List (Int×Int)) (n v:Int):List (Int×Int):=match midx es n with
 | some j=>es.set j (n,v)
 | none=>es++[(n,v)]
def makeMapM (P:Program) (md:Md) (t:TypeId):RM Eff:=newId md fun id=>(orFail (mapKind P t)).bind fun bo=>.ret ⟨.p (.c (.sl id)),[(id,some (.mp bo []))]⟩
def lookupM (P:Program) (t:TypeId) (m k:Operand) (ok:Bool):RM Eff:=(evalC m).bind fun
 | .sl r => .obj r fun
  | .mp bo es => (orFail (mapKind P t)).bind fun bo' => bif bo == bo' then (evalC k).bind fun
   | .v (.int .i64 n)=>.ret ⟨bif ok then .tu [.c (.v (valV bo ((mget es n).getD 0))),.c (.v (.bool (mget es n).isSome))] else .p (.c (.v (valV bo ((mget es n).getD 0)))),[]⟩
   | _=>.fail
   else .fail
  | _=>.fail
 | _=>.fail
def mapUpdM (P:Program) (t:TypeId) (m k v:Operand):RM Eff:=(evalC m).bind fun
 | .sl r => .obj r fun
  | .mp bo es => (orFail (mapKind P t)).bind fun bo' => bif bo == bo' then (evalC k).bind fun
   | .v (.int .i64 n) => (evalC v).bind fun
    | .v (.int .i64 x)=>bif bo then .fail else .need (I64 n) (.ret ⟨.p (.c .un),[(r,some (.mp bo (mset es n x)))]⟩)
    | .v (.bool b)=>bif bo then .need (I64 n) (.ret ⟨.p (.c .un),[(r,some (.mp bo (mset es n (bif b then 1 else 0))))]⟩) else .fail
    | _=>.fail
   | _=>.fail
   else .fail
  | _=>.fail
 | _=>.fail
def callM (P:Program) (T:List (Nat×Sum)) (md:Md) (f:Nat) (qs:List PV):RM Eff :=
 bif bodied P f then (orFail (look T (md.key.getD f))).bind fun S=>bif S.fid.beq f then (match S.prim with
  | some r=>r md qs
  | none=>bif S.kinds.isEmpty then S.call md qs else S.callG md qs) else .fail else .fail
def opM (P:Program) (Γ:Gam) (T:List (Nat×Sum)) (md:Md) (o:Oper):RM Eff :=
 match o.op with
 | .move x=>(evalO x).bind fun v=>.ret ⟨v,[]⟩
 | .assign x=>(evalO x).bind fun v=>.ret ⟨v,[]⟩
 | .pick c a b => (evalC c).bind fun d => match d with
  | .v (.bool t)=>(evalO (bif t then a else b)).bind fun v=>.ret ⟨v,[]⟩
  | _=>.fail
 | .alloc t=>allocM P md t
 | .box t x=>boxM md t x
 | .build t parts=>buildM P t parts.toList
 | .buildSlice t len parts=>buildSliceM Γ md t len parts.toList
 | .load t x=>loadM P t x
 | .store t x v=>storeM P t x v
 | .makeSlice t l c=>makeSliceM Γ md t l c
 | .slice t x lo hi none=>sliceM P md t x lo hi
 | .slice t x none (some hi) (some mx)=>clipM P md t x hi mx
 | .fieldAddr s x f=>fieldAddrM P s x f
 | .nilCheck x=>nilCheckM x
 | .field s x f=>fieldM P s x f
 | .indexAddr t x i=>indexAddrM P t x i
 | .extract x i=>extractM x i
 | .makeFunc (.func f) first caps=>bif first.isEmpty then (capsM caps.toList).bind fun c=>.ret ⟨.p (.c (.cl f c)),[]⟩ else .fail
 | .call c => match c.callee with
  | .builtin .append => match c.args.toList, c.argTypes.toList with
   | [x,y],[t,t']=>bif t.beq t' then appendM Γ md t x y else appendZM P Γ md t t' x y
   | _,_=>.fail
  | .builtin .len => match c.args.toList, c.argTypes.toList with
   | [x],[t]=>lenM P o t x
   | _,_=>.fail
  | .builtin .cap=>(pureM P o).bind fun v=>.ret ⟨v,[]⟩
  | .builtin .min=>(pureM P o).bind fun v=>.ret ⟨v,[]⟩
  | .builtin .max=>(pureM P o).bind fun v=>.ret ⟨v,[]⟩
  | .value f => (evalC f).bind fun v => match v with
   | .cl f c'=>bif c'.isList then (evalArgs c.args.toList).bind fun ps=>callM P T md f (ps++c'.list.map .c) else .fail
   | _=>.fail
  | _=>.fail
 | .makeMap t none=>makeMapM P md t
 | .lookup t m k ok=>lookupM P t m k ok
 | .mapUpdate t m k v=>mapUpdM P t m k v
 | .insert t m k v=>mapUpdM P t m k v
 | .binOp .eql t x y _=>nilM P o t x y
 | .binOp .neq t x y _ => match P.underlying t with
  | some (.struct _)=>structEqM P true t x y
  | _=>(pureM P o).bind fun v=>.ret ⟨v,[]⟩
 | .binOp .add _ x y _=>arithM P o md .add x y
 | .binOp .sub _ x y _=>arithM P o md .sub x y
 | .binOp .mul _ x y _=>arithM P o md .mul x y
 | .binOp .quo _ x y _=>bif md.nw then arithM P o md .quo x y else divM .quo x y
 | .binOp .rem _ x y _=>divM .rem x y
 | .binOp .shl _ x y _=>shiftM .shl x y
 | .binOp .shr _ x y _=>shiftM .shr x y
 | .binOp ..=>(pureM P o).bind fun v=>.ret ⟨v,[]⟩
 | .unOp ..=>(pureM P o).bind fun v=>.ret ⟨v,[]⟩
 | .convert ..=>(pureM P o).bind fun v=>.ret ⟨v,[]⟩
 | _=>.fail
end Go.Proofs.Ytmcpigcpachdkaa
