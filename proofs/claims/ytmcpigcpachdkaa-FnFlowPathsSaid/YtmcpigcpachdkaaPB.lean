/- What a walk knows of a state: values of temporaries, blocks of the call's own, frozen memory; and how that stands to the state itself ('Rel'). No program is named; no condition. -/
import Derived.Test.YtmcpigcpachdkaaPA
import Derived.MapKept
namespace Go.Proofs.Ytmcpigcpachdkaa
open Go.RowKit
set_option linter.unusedVariables false
set_option linter.unusedSimpArgs false
inductive CV where
 | un
 | v (u:Value)
 | ptr (o c:Nat)
 | sl (r:Nat)
 | pe (r i c n:Nat)
 | ro (s:Sh) (xs:List s.D)
 | pr (s:Sh) (x:s.D) (c:Nat)
 | cl (f:Nat) (c:CV)
 | cnil
 | ccons (a b:CV)
 | nb (n:Nat)
inductive PV where
 | c (x:CV)
 | ag (l:List CV)
inductive AV where
 | p (x:PV)
 | tu (l:List PV)
inductive Ob where
 | bx (t:TypeId) (cs:List CV)
 | row (dp:Bool) (s:Sh) (xs:List s.D)
 | pin (r:Nat) (u:Value)
 | op (s:Sh) (xs:List s.D) (i:Nat) (cs:List CV)
 | mp (bo:Bool) (es:List (Int×Int))
structure St where
 tm:List (Nat×AV)
 ob:List (Nat×Option Ob)
def look {α:Type}:List (Nat×α)→Nat→Option α
 | [],_=>none
 | (k,a)::l,n=>bif k.beq n then some a else look l n
def St.tmp (σ:St) (t:Nat):AV:=(look σ.tm t).getD (.p (.c .un))
def St.obj (σ:St) (o:Nat):Option Ob:=(look σ.ob o).getD none
structure Env where
 hdr:Nat→Value
 fp:Nat→List Nat
mutual
def CV.den (E:Env) (Z:Nat→Prop) (w:World):CV→Value→Prop
 | .un,_=>True
 | .v u',u=>u=u'
 | .ptr o c,u=>∃ b,E.hdr o=.pointer (some ⟨b,0,none⟩)∧u=.pointer (some ⟨b,c,none⟩)
 | .sl r,u=>u=E.hdr r
 | .pe r i c n,u=>∃ g off l cap,E.hdr r=.slice (some ⟨g,off,none⟩) l cap∧u=.pointer (some ⟨g,off+(i*n+c),none⟩)
 | .ro s xs,u=>(Sh.sl 0 s).rd w Z [u] xs
 | .pr s x c,u=>∃ b off cs,u=.pointer (some ⟨b,off+c,none⟩)∧Z b∧s.rd w Z cs x∧∀ j v,cs[j]?=some v→w.cell? ⟨b,off+j,none⟩=some v
 | .cl f c,u=>∃ vs:List Value,u=.func (.func f) #[] vs.toArray∧CV.denL E Z w c vs
 | .cnil,_=>False
 | .ccons _ _,_=>False
 | .nb n,u=>∃ b,u=.bool b∧(b=true→n=0)
def CV.denL (E:Env) (Z:Nat→Prop) (w:World):CV→List Value→Prop
 | .cnil,vs=>vs=[]
 | .ccons a b,vs=>∃ x xs,vs=x::xs∧CV.den E Z w a x∧CV.denL E Z w b xs
 | _,_=>False
end
def CV.ids:CV→List Nat
 | .ptr o _=>[o]
 | .sl r=>[r]
 | .pe r _ _ _=>[r]
 | .cl _ c=>c.ids
 | .ccons a b=>a.ids++b.ids
 | _=>[]
def dens (E:Env) (Z:Nat→Prop) (w:World):List CV→List Value→Prop
 | [],[]=>True
 | c::cs,v::vs=>c.den E Z w v∧dens E Z w cs vs
 | _,_=>False
def PV.den (E:Env) (Z:Nat→Prop) (w:World):PV→Value→Prop
 | .c x,u=>x.den E Z w u
 | .ag l,u=>∃ vs:List Value,u=.agg vs.toArray∧dens E Z w l vs
def pdens (E:Env) (Z:Nat→Prop) (w:World):List PV→List Value→Prop
 | [],[]=>True
 | c::cs,v::vs=>c.den E Z w v∧pdens E Z w cs vs
 | _,_=>False
def AV.den (E:Env) (Z:Nat→Prop) (w:World):AV→Value→Prop
 | .p x,u=>x.den E Z w u
 | .tu l,u=>∃ vs:List Value,u=.tuple vs.toArray∧pdens E Z w l vs
def PV.ids:PV→List Nat
 | .c x=>x.ids
 | .ag l=>l.flatMap CV.ids
def AV.ids:AV→List Nat
 | .p x=>x.ids
 | .tu l=>l.flatMap PV.ids
def Ob.ids:Ob→List Nat
 | .bx _ cs=>cs.flatMap CV.ids
 | .row _ _ _=>[]
 | .pin r _=>[r]
 | .op _ _ _ cs=>cs.flatMap CV.ids
 | .mp _ _=>[]
def Bx (w:World) (b:Nat) (t:TypeId) (cs:List Value):Prop:=w.heap[b]?=some (.cells cs.toArray t (0,0))
def Els (Z:Nat→Prop) (w:World) (dp:Bool) (s:Sh) (vs:List (List Value)) (xs:List s.D) (Fs:List (List Nat)):Prop :=
 if dp then Ow2 (s.ow w) vs xs Fs else Rd2 (s.rd w Z) vs xs∧Fs=[]
def valV (bo:Bool) (n:Int):Value:=bif bo then .bool (decide (n=1)) else .int .i64 n
def Ob.den (E:Env) (Z:Nat→Prop) (w:World):Ob→Value→List Nat→Prop
 | .bx t cs,h,F=>∃ b vs,h=.pointer (some ⟨b,0,none⟩)∧F=[b]∧Bx w b t vs∧dens E Z w cs vs
 | .row dp s xs,h,F=>∃ vs Fs,ownsRw w 0 s.ty s.size h xs.length vs.flatten∧Els Z w dp s vs xs Fs∧F=Value.blk h++Fs.flatten
 | .pin r u,h,F=>h=.bool false∧E.hdr r=u∧F=[]
 | .op s xs i cs,h,F=>∃ (vs:List (List Value)) (us:List Value) (Fs:List (List Nat)),ownsRw w 0 s.ty s.size h xs.length vs.flatten∧(i < xs.length∧vs.length=xs.length∧vs[i]?=some us∧us.length=s.size)∧dens E Z w cs us∧Ow2 (s.ow w) (vs.eraseIdx i) (xs.eraseIdx i) Fs∧F=Value.blk h++Fs.flatten
 | .mp bo es,h,F=>∃ (b:Nat) (ms:Array MapEntry) (clock:Nat),h=.map (some b)∧F=[b]∧w.heap[b]?=some (.map ms clock)∧ms.toList.map (fun e=>(e.key,e.val))=es.map (fun p=>(Value.int .i64 p.1,valV bo p.2))∧Go.MapKept.Stamped ms clock∧∀ p∈es,I64 p.1
section
variable {E E':Env} {Z Z':Nat→Prop} {w w':World} {K:List Nat}
theorem cell_keep {p:Addr} (h:w'.heap[p.block]?=w.heap[p.block]?):w'.cell? p=w.cell? p:=World.cell?_of_block (w:=w) h
mutual
theorem CV.keep (hE:∀ i∈K,E'.hdr i=E.hdr i) (hZ:∀ b,Z b→Z' b) (hw:∀ b,Z b→w'.heap[b]?=w.heap[b]?):∀ {c:CV} {u:Value},c.den E Z w u→(∀ i∈c.ids,i∈K)→c.den E' Z' w' u
 | .un,_,_,_=>trivial
 | .v _,_,h,_=>h
 | .ptr o _,_,h,k=>by obtain ⟨b,h1,h2⟩:=h;exact ⟨b,(hE o (k o (by simp [CV.ids]))).trans h1,h2⟩
 | .sl r,_,h,k=>(show _=_ from h).trans (hE r (k r (by simp [CV.ids]))).symm
 | .pe r _ _ _,_,h,k=>by obtain ⟨g,off,n,cap,h1,h2⟩:=h;exact ⟨g,off,n,cap,(hE r (k r (by simp [CV.ids]))).trans h1,h2⟩
 | .ro s xs,_,h,_=>(Sh.sl 0 s).rd_keep h hZ fun p hp=>cell_keep (hw _ hp)
 | .pr s x _, _, h, _ => by
  obtain ⟨b,off,cs,h1,h2,h3,h4⟩:=h
  exact ⟨b,off,cs,h1,hZ b h2,s.rd_keep h3 hZ fun p hp=>cell_keep (hw _ hp),fun j v hj=>(cell_keep (hw b h2)).trans (h4 j v hj)⟩
 | .cl f c,_,h,k=>by obtain ⟨vs,h1,h2⟩:=h;exact ⟨vs,h1,CV.keepL hE hZ hw h2 k⟩
 | .cnil,_,h,_=>h.elim
 | .ccons _ _,_,h,_=>h.elim
 | .nb _,_,h,_=>h
theorem CV.keepL (hE:∀ i∈K,E'.hdr i=E.hdr i) (hZ:∀ b,Z b→Z' b) (hw:∀ b,Z b→w'.heap[b]?=w.heap[b]?):∀ {c:CV} {vs:List Value},c.denL E Z w vs→(∀ i∈c.ids,i∈K)→c.denL E' Z' w' vs
 | .cnil,_,h,_=>h
 | .ccons a b, _, h, k => by
  obtain ⟨x,xs,rfl,h1,h2⟩:=h
  exact ⟨x,xs,rfl,CV.keep hE hZ hw h1 fun i hi=>k i (by simp [CV.ids,hi]),CV.keepL hE hZ hw h2 fun i hi=>k i (by simp [CV.ids,hi])⟩
 | .un,_,h,_ | .v _,_,h,_ | .ptr _ _,_,h,_ | .sl _,_,h,_ | .pe _ _ _ _,_,h,_ | .ro _ _,_,h,_ | .pr _ _ _,_,h,_ | .cl _ _,_,h,_ | .nb _,_,h,_=>h.elim
end
theorem dens.keep (hE:∀ i∈K,E'.hdr i=E.hdr i) (hZ:∀ b,Z b→Z' b) (hw:∀ b,Z b→w'.heap[b]?=w.heap[b]?):∀ {cs:List CV} {vs:List Value},dens E Z w cs vs→(∀ i∈cs.flatMap CV.ids,i∈K)→dens E' Z' w' cs vs
 | [],[],_,_=>trivial
 | _::_,_::_,h,k=>⟨CV.keep hE hZ hw h.1 fun i hi=>k i (by simp [hi]),dens.keep hE hZ hw h.2 fun i hi=>k i (by rw [List.flatMap_cons];exact List.mem_append.2 (.inr hi))⟩
theorem PV.keep (hE:∀ i∈K,E'.hdr i=E.hdr i) (hZ:∀ b,Z b→Z' b) (hw:∀ b,Z b→w'.heap[b]?=w.heap[b]?):∀ {c:PV} {u:Value},c.den E Z w u→(∀ i∈c.ids,i∈K)→c.den E' Z' w' u
 | .c _,_,h,k=>CV.keep hE hZ hw h k
 | .ag _,_,h,k=>by obtain ⟨vs,h1,h2⟩:=h;exact ⟨vs,h1,h2.keep hE hZ hw k⟩
theorem pdens.keep (hE:∀ i∈K,E'.hdr i=E.hdr i) (hZ:∀ b,Z b→Z' b) (hw:∀ b,Z b→w'.heap[b]?=w.heap[b]?):∀ {cs:List PV} {vs:List Value},pdens E Z w cs vs→(∀ i∈cs.flatMap PV.ids,i∈K)→pdens E' Z' w' cs vs
 | [],[],_,_=>trivial
 | _::_,_::_,h,k=>⟨PV.keep hE hZ hw h.1 fun i hi=>k i (by simp [hi]),pdens.keep hE hZ hw h.2 fun i hi=>k i (by rw [List.flatMap_cons];exact List.mem_append.2 (.inr hi))⟩
theorem AV.keep (hE:∀ i∈K,E'.hdr i=E.hdr i) (hZ:∀ b,Z b→Z' b) (hw:∀ b,Z b→w'.heap[b]?=w.heap[b]?):∀ {c:AV} {u:Value},c.den E Z w u→(∀ i∈c.ids,i∈K)→c.den E' Z' w' u
 | .p _,_,h,k=>PV.keep hE hZ hw h k
 | .tu _,_,h,k=>by obtain ⟨vs,h1,h2⟩:=h;exact ⟨vs,h1,h2.keep hE hZ hw k⟩
theorem dens.len:∀ {cs:List CV} {vs:List Value},dens E Z w cs vs→vs.length=cs.length
 | [],[],_=>rfl
 | _::_,_::_,h=>by simp [dens.len h.2]
theorem ownsRw_keep {B:Nat} {e:TypeId} {k:Nat} {v:Value} {n:Nat} {xs:List Value} (h:ownsRw w B e k v n xs) (e':∀ b∈Value.blk v,w'.heap[b]?=w.heap[b]?):ownsRw w' B e k v n xs:=by
 refine ⟨h.1,?_⟩
 rcases h.2 with h | ⟨g,off,cap,cur,hv,hb,hg,h⟩
 ·exact .inl h
 ·exact .inr ⟨g,off,cap,cur,hv,hb,by rw [e' g (by rw [hv];simp [Value.blk,Value.ownBlock])];exact hg,h⟩
theorem Els.keep {dp:Bool} {s:Sh} {vs:List (List Value)} {xs:List s.D} {Fs:List (List Nat)} (h:Els Z w dp s vs xs Fs) (hZ:∀ b,Z b→Z' b) (hw:∀ b,Z b→w'.heap[b]?=w.heap[b]?) (hF:∀ b∈Fs.flatten,w'.heap[b]?=w.heap[b]?):Els Z' w' dp s vs xs Fs:=by
 unfold Els at *
 cases dp
 ·simp only [Bool.false_eq_true, if_false] at *
  exact ⟨h.1.imp fun c x h=>s.rd_keep h hZ fun p hp=>cell_keep (hw _ hp),h.2⟩
 ·simp only [if_true] at *
  exact h.keep fun c x F hF' ho=>s.ow_keep ho fun b hb=>hF b (hF' b hb)
theorem Ob.keep (hE:∀ i∈K,E'.hdr i=E.hdr i) (hZ:∀ b,Z b→Z' b) (hw:∀ b,Z b→w'.heap[b]?=w.heap[b]?):∀ {x:Ob} {h:Value} {F:List Nat},x.den E Z w h F→(∀ i∈x.ids,i∈K)→(∀ b∈F,w'.heap[b]?=w.heap[b]?)→x.den E' Z' w' h F
 | .bx t cs, _, _, h, k, e => by
  obtain ⟨b,vs,rfl,rfl,h3,h4⟩:=h
  exact ⟨b,vs,rfl,rfl,(e b (by simp)).trans h3,h4.keep hE hZ hw k⟩
 | .row dp s xs, _, _, h, k, e => by
  obtain ⟨vs,Fs,h1,h2,rfl⟩:=h
  exact ⟨vs,Fs,ownsRw_keep h1 fun b hb=>e b (List.mem_append.2 (.inl hb)),h2.keep hZ hw fun b hb=>e b (List.mem_append.2 (.inr hb)),rfl⟩
 | .pin r _,_,_,h,k,e=>⟨h.1,(hE r (k r (by simp [Ob.ids]))).trans h.2.1,h.2.2⟩
 | .op s xs i cs, _, _, h, k, e => by
  obtain ⟨vs,us,Fs,h1,h2,h3,h4,rfl⟩:=h
  exact ⟨vs,us,Fs,ownsRw_keep h1 fun b hb=>e b (List.mem_append.2 (.inl hb)),h2,h3.keep hE hZ hw k,h4.keep fun c x F hF' ho=>s.ow_keep ho fun b hb=>e b (List.mem_append.2 (.inr (hF' b hb))),rfl⟩
 | .mp bo es, _, _, h, k, e => by
  obtain ⟨b,ms,clock,rfl,rfl,h3,h4⟩:=h
  exact ⟨b,ms,clock,rfl,rfl,(e b (by simp)).trans h3,h4⟩
end
structure RelE (w0:World) (Z0:Nat→Prop) (L:List Nat) (N:Nat) (K:List Nat) (σ:St) (a:Act) (w:World) (E:Env) (Z:Nat→Prop):Prop where
 defers:a.defers=[]
 size:a.tmps.size=N
 tmp:∀ t,(σ.tmp t).den E Z w (a.tmps.getD t undef)
 tids:∀ t,∀ i∈(σ.tmp t).ids,i∈K
 obj:∀ o x,σ.obj o=some x→x.den E Z w (E.hdr o) (E.fp o)
 oids:∀ o x,σ.obj o=some x→o∈K∧∀ i∈x.ids,i∈K
 nodup:∀ o x,σ.obj o=some x→(E.fp o).Nodup
 apart:∀ o x o' x',σ.obj o=some x→σ.obj o'=some x'→o≠o'→∀ b∈E.fp o,b ∉ E.fp o'
 free:∀ o x,σ.obj o=some x→∀ b∈E.fp o,b < w.heap.size∧¬ Z b∧(w0.heap.size≤b∨b∈L)
 znew:∀ b,Z b→Z0 b∨w0.heap.size≤b∨b∈L
 zlt:∀ b,Z b→b < w.heap.size
 frame:SameBut L w0 w
 hone:∀ i∈K,(E.hdr i).oneCell'=true
def NewOb (σ:St) (E:Env) (w:World) (M:Nat→Prop) (K':List Nat) (E':Env) (Z':Nat→Prop) (w':World) (o:Nat) (x:Ob):Prop :=
 x.den E' Z' w' (E'.hdr o) (E'.fp o)∧(E'.fp o).Nodup∧(o∈K'∧∀ i∈x.ids,i∈K') ∧
 ∀ b∈E'.fp o,b < w'.heap.size∧¬ Z' b∧(w.heap.size≤b∨∃ m y,σ.obj m=some y∧M m∧b∈E.fp m)
theorem RelE.step {w0:World} {Z0:Nat→Prop} {L:List Nat} {N:Nat} {K K':List Nat} {σ σ':St} {a a':Act} {w w':World} {E E':Env} {Z Z':Nat→Prop} {M:Nat→Prop} (h:RelE w0 Z0 L N K σ a w E Z)
  (hos:w'.os=w.os) (htape:w'.tape=w.tape) (hout:w'.output=w.output) (hsz:w.heap.size≤w'.heap.size)
  (hblk:∀ b,b < w.heap.size→(∀ o x,σ.obj o=some x→M o→b ∉ E.fp o)→w'.heap[b]?=w.heap[b]?)
  (hK:∀ i∈K,i∈K') (hone:∀ i∈K',i∈K∨(E'.hdr i).oneCell'=true) (hhdr:∀ i∈K,E'.hdr i=E.hdr i) (hfp:∀ o x,σ.obj o=some x→¬ M o→E'.fp o=E.fp o)
  (hZ:∀ b,Z b→Z' b) (hZn:∀ b,Z' b→Z b∨(b < w'.heap.size∧(w.heap.size≤b∨∃ m y,σ.obj m=some y∧M m∧b∈E.fp m)))
  (hobj:∀ o x,σ'.obj o=some x→(¬ M o∧σ.obj o=some x)∨NewOb σ E w M K' E' Z' w' o x)
  (hnew:∀ o x o' x',σ'.obj o=some x→σ'.obj o'=some x'→o≠o'→¬ (¬ M o∧σ.obj o=some x)→¬ (¬ M o'∧σ.obj o'=some x')→∀ b∈E'.fp o,b ∉ E'.fp o')
  (hd:a'.defers=[]) (hn:a'.tmps.size=N)
  (htmp:∀ t,(σ'.tmp t=σ.tmp t∧a'.tmps.getD t undef=a.tmps.getD t undef)∨((σ'.tmp t).den E' Z' w' (a'.tmps.getD t undef)∧∀ i∈(σ'.tmp t).ids,i∈K')) :
  RelE w0 Z0 L N K' σ' a' w' E' Z':=by
 have hzw:∀ b,Z b→w'.heap[b]?=w.heap[b]?:=fun b hb=>hblk b (h.zlt b hb) fun o x ho _ hf=>(h.free o x ho b hf).2.1 hb
 have hkeep:∀ o x,σ.obj o=some x→¬ M o→∀ b∈E.fp o,w'.heap[b]?=w.heap[b]?:=fun o x ho hm b hb =>
  hblk b (h.free o x ho b hb).1 fun o' x' ho' hm' hf=>by
   by_cases e:o=o'
   ·subst e;exact hm hm'
   ·exact h.apart o x o' x' ho ho' e b hb hf
 have hz':∀ b,Z' b→∀ o x,σ.obj o=some x→¬ M o→b ∉ E.fp o:=fun b hb o x ho hm hf=>by
  have hfr:=h.free o x ho b hf
  rcases hZn b hb with hb | ⟨_,hb | ⟨m,y,hy,hMm,hf'⟩⟩
  ·exact hfr.2.1 hb
  ·omega
  ·by_cases e : o = m
   ·subst e;exact hm hMm
   ·exact h.apart o x m y ho hy e b hf hf'
 have hcases:∀ o x,σ'.obj o=some x→(¬ M o∧σ.obj o=some x)∨(¬ (¬ M o∧σ.obj o=some x)∧NewOb σ E w M K' E' Z' w' o x):=fun o x ho=>by
  by_cases hc:¬ M o∧σ.obj o=some x
  ·exact .inl hc
  ·exact .inr ⟨hc,(hobj o x ho).resolve_left hc⟩
 -- new blocks and those of an object that stays
 have hstay:∀ o x o' x',σ.obj o=some x→¬ M o→NewOb σ E w M K' E' Z' w' o' x'→∀ b∈E'.fp o',b ∉ E.fp o:=fun o x o' x' ho hm hN b hb hf=>by
  have hfr:=h.free o x ho b hf
  rcases (hN.2.2.2 b hb).2.2 with hb' | ⟨m,y,hy,hMm,hf'⟩
  ·omega
  ·by_cases e : o = m
   ·subst e;exact hm hMm
   ·exact h.apart o x m y ho hy e b hf hf'
 refine ⟨hd,hn,fun t=>?_,fun t=>?_,fun o x ho=>?_,fun o x ho=>?_,fun o x ho=>?_,fun o x o' x' ho ho' hne b hb hb'=>?_,fun o x ho b hb=>?_,fun b hb=>?_,fun b hb=>?_,?_,fun i hi=>?_⟩
 ·rcases htmp t with ⟨e1, e2⟩ | h'
  ·rw [e1,e2];exact AV.keep hhdr hZ hzw (h.tmp t) (h.tids t)
  ·exact h'.1
 ·rcases htmp t with ⟨e1, e2⟩ | h'
  ·rw [e1];exact fun i hi=>hK i (h.tids t i hi)
  ·exact h'.2
 ·rcases hcases o x ho with ⟨hm, ho'⟩ | ⟨_, hN⟩
  ·rw [hfp o x ho' hm, hhdr o (h.oids o x ho').1]
   exact Ob.keep hhdr hZ hzw (h.obj o x ho') (h.oids o x ho').2 (hkeep o x ho' hm)
  ·exact hN.1
 ·rcases hcases o x ho with ⟨hm, ho'⟩ | ⟨_, hN⟩
  ·exact ⟨hK o (h.oids o x ho').1,fun i hi=>hK i ((h.oids o x ho').2 i hi)⟩
  ·exact hN.2.2.1
 ·rcases hcases o x ho with ⟨hm, ho'⟩ | ⟨_, hN⟩
  ·rw [hfp o x ho' hm];exact h.nodup o x ho'
  ·exact hN.2.1
 ·rcases hcases o x ho with ⟨hm, ho1⟩ | ⟨hc, hN⟩ <;> rcases hcases o' x' ho' with ⟨hm', ho1'⟩ | ⟨hc', hN'⟩
  ·rw [hfp o x ho1 hm] at hb; rw [hfp o' x' ho1' hm'] at hb'
   exact h.apart o x o' x' ho1 ho1' hne b hb hb'
  ·rw [hfp o x ho1 hm] at hb
   exact hstay o x o' x' ho1 hm hN' b hb' hb
  ·rw [hfp o' x' ho1' hm'] at hb'
   exact hstay o' x' o x ho1' hm' hN b hb hb'
  ·exact hnew o x o' x' ho ho' hne hc hc' b hb hb'
 ·rcases hcases o x ho with ⟨hm, ho'⟩ | ⟨_, hN⟩
  ·rw [hfp o x ho' hm] at hb
   have hfr:=h.free o x ho' b hb
   exact ⟨by omega,fun hz=>hz' b hz o x ho' hm hb,hfr.2.2⟩
  ·have := hN.2.2.2 b hb
   refine ⟨this.1,this.2.1,?_⟩
   rcases this.2.2 with h1 | ⟨m,y,hy,_,hf⟩
   ·left;have:=h.frame.size;omega
   ·exact (h.free m y hy b hf).2.2
 ·rcases hZn b hb with hb | ⟨_, hb | ⟨m, y, hy, _, hf⟩⟩
  ·exact h.znew b hb
  ·have:=h.frame.size;exact .inr (.inl (by omega))
  ·exact .inr (h.free m y hy b hf).2.2
 ·rcases hZn b hb with hb | hb
  ·have:=h.zlt b hb;omega
  ·exact hb.1
 ·refine ⟨hos.trans h.frame.1, htape.trans h.frame.2.1, hout.trans h.frame.2.2.1, Nat.le_trans h.frame.size hsz, fun b hb hL => ?_⟩
  rw [hblk b (Nat.lt_of_lt_of_le hb h.frame.size) fun o x ho _ hf=>by
   rcases (h.free o x ho b hf).2.2 with h' | h'
   ·omega
   ·exact hL h']
  exact h.frame.2.2.2.2 b hb hL
 ·rcases hone i hi with hk | hk
  ·rw [hhdr i hk];exact h.hone i hk
  ·exact hk
end Go.Proofs.Ytmcpigcpachdkaa
