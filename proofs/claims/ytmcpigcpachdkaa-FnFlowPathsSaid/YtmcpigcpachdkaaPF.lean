/- Operations that make or turn blocks of the call's own: what is known afterwards holds. No program is named; no condition. -/
import Derived.Test.YtmcpigcpachdkaaPE
namespace Go.Proofs.Ytmcpigcpachdkaa
open Go.RowKit
set_option linter.unusedVariables false
set_option linter.unusedSimpArgs false
def Env.set (E:Env) (id:Nat) (h:Value) (F:List Nat):Env:=⟨fun i=>if i=id then h else E.hdr i,fun i=>if i=id then F else E.fp i⟩
theorem look_gone {l:List Nat} {o:Nat} {x:Option Ob} (h:look (gone l) o=some x):x=none∧o∈l:=by
 induction l with
 | nil=>cases h
 | cons i l ih =>
  simp only [gone,List.map_cons,look] at h
  by_cases e:i=o
  ·subst e;rw [Nat.beq_refl,cond_true] at h;cases h;exact ⟨rfl,by simp⟩
  ·rw [beq_ne e,cond_false] at h;have:=ih h;exact ⟨this.1,by simp [this.2]⟩
theorem look_gone_none {l:List Nat} {o:Nat} (h:look (gone l) o=none):o ∉ l:=by
 induction l with
 | nil=>simp
 | cons i l ih =>
  simp only [gone,List.map_cons,look] at h
  by_cases e:i=o
  ·subst e;rw [Nat.beq_refl,cond_true] at h;cases h
  ·rw [beq_ne e, cond_false] at h
   have:=ih h
   simp only [List.mem_cons,not_or]
   exact ⟨fun h=>e h.symm,this⟩
theorem app_turn {σ:St} {d:Option Nat} {av:AV} {id:Nat} {ob:Ob} {cons:List Nat} {o:Nat} {x:Ob} (h:(σ.app d ⟨av,(id,some ob)::gone cons⟩).obj o=some x):(o=id∧x=ob)∨(o≠id∧o ∉ cons∧σ.obj o=some x):=by
 rw [app_obj] at h
 simp only [look] at h
 by_cases e:id=o
 ·subst e;rw [Nat.beq_refl,cond_true] at h;simp only [Option.some.injEq] at h;exact .inl ⟨rfl,h.symm⟩
 ·rw [beq_ne e, cond_false] at h
  right
  cases hl:look (gone cons) o with
  | none=>rw [hl] at h;exact ⟨fun h=>e h.symm,look_gone_none hl,h⟩
  | some y=>rw [hl] at h;have:=look_gone hl;rw [this.1] at h;cases h
section
variable {P:Program} {w0:World} {Z0:Nat→Prop} {L:List Nat} {N:Nat} {K:List Nat} {σ:St} {a:Act} {w:World} {E:Env} {Z:Nat→Prop}
theorem RelE.turn (h:RelE w0 Z0 L N K σ a w E Z) {id:Nat} (hid:id ∉ K) {cons:List Nat} (hcons:∀ m∈cons,∃ y,σ.obj m=some y) {w':World} (hos:w'.os=w.os) (htape:w'.tape=w.tape) (hout:w'.output=w.output) (hsz:w.heap.size≤w'.heap.size)
  (hblk:∀ b,b < w.heap.size→(∀ m∈cons,b ∉ E.fp m)→w'.heap[b]?=w.heap[b]?) {ob:Ob} {hd:Value} {F:List Nat} (hden:ob.den (E.set id hd F) Z w' hd F) (hnd:F.Nodup)
  (hF:∀ b∈F,b < w'.heap.size∧(w.heap.size≤b∨∃ m∈cons,b∈E.fp m)) (hone:hd.oneCell'=true) (hoi:∀ i∈ob.ids,i∈K) {av:AV} {v:Value} {d:Option Nat} (hav:av.den (E.set id hd F) Z w' v) (havi:∀ i∈av.ids,i∈id::K)
  (hdst:∀ d',d=some d'→d' < N):RelE w0 Z0 L N (id::K) (σ.app d ⟨av,(id,some ob)::gone cons⟩) (a.put d v) w' (E.set id hd F) Z:=by
 have hset:∀ i,i≠id→(E.set id hd F).hdr i=E.hdr i∧(E.set id hd F).fp i=E.fp i:=fun i hi=>by simp [Env.set,hi]
 have hK:∀ i∈K,i≠id:=fun i hi e=>hid (e ▸ hi)
 have hself:(E.set id hd F).hdr id=hd∧(E.set id hd F).fp id=F:=by simp [Env.set]
 have hlive:∀ o x,σ.obj o=some x→o≠id:=fun o x ho=>hK o (h.oids o x ho).1
 refine h.step (M:=fun m=>m∈cons) hos htape hout hsz (fun b hb hn=>hblk b hb fun m hm=>?_) (fun i hi=>by simp [hi]) (fun i hi=>?_) (fun i hi=>(hset i (hK i hi)).1) (fun o x ho _=>(hset o (hlive o x ho)).2) (fun _ h=>h) (fun _ h=>.inl h)
  (fun o x ho=>?_) (fun o x o' x' ho ho' hne hc hc'=>?_) (by rw [put_defers];exact h.defers) (by rw [put_size];exact h.size) (fun t=>?_)
 ·obtain ⟨y,hy⟩:=hcons m hm;exact hn m y hy hm
 ·rcases List.mem_cons.1 hi with rfl | hi
  ·right;rw [hself.1];exact hone
  ·exact .inl hi
 ·rcases app_turn ho with ⟨rfl, rfl⟩ | ⟨h1, h2, h3⟩
  ·right
   refine ⟨by rw [hself.1,hself.2];exact hden,by rw [hself.2];exact hnd,⟨by simp,fun i hi=>by simp [hoi i hi]⟩,fun b hb=>?_⟩
   rw [hself.2] at hb
   have:=hF b hb
   refine ⟨this.1,?_,?_⟩
   ·rcases this.2 with h1 | ⟨m, hm, hb⟩
    ·intro hz;have:=h.zlt b hz;omega
    ·obtain ⟨y,hy⟩:=hcons m hm;exact (h.free m y hy b hb).2.1
   ·rcases this.2 with h1 | ⟨m, hm, hb⟩
    ·exact .inl h1
    ·obtain ⟨y,hy⟩:=hcons m hm;exact .inr ⟨m,y,hy,hm,hb⟩
  ·exact .inl ⟨h2,h3⟩
 ·rcases app_turn ho with ⟨rfl, rfl⟩ | ⟨h1, h2, h3⟩
  ·rcases app_turn ho' with ⟨rfl, rfl⟩ | ⟨h1', h2', h3'⟩
   ·exact absurd rfl hne
   ·exact absurd ⟨h2',h3'⟩ hc'
  ·exact absurd ⟨h2,h3⟩ hc
 ·rw [app_tmp, put_get (by rw [h.size]; exact hdst)]
  by_cases ht:d=some t
  ·right;simp only [ht,if_true];exact ⟨hav,havi⟩
  ·left;simp [ht]
theorem RelE.upd (h:RelE w0 Z0 L N K σ a w E Z) {o:Nat} {x x':Ob} (ho:σ.obj o=some x) {cons:List Nat} (hcons:∀ m∈cons,∃ y,σ.obj m=some y) (hoc:o ∉ cons) {w':World} (hos:w'.os=w.os) (htape:w'.tape=w.tape) (hout:w'.output=w.output) (hsz:w.heap.size≤w'.heap.size)
  (hblk:∀ b,b < w.heap.size→b ∉ E.fp o→(∀ m∈cons,b ∉ E.fp m)→w'.heap[b]?=w.heap[b]?) {F:List Nat} (hden:x'.den (E.set o (E.hdr o) F) Z w' (E.hdr o) F) (hnd:F.Nodup)
  (hF:∀ b∈F,b < w'.heap.size∧(b∈E.fp o∨∃ m∈cons,b∈E.fp m)) (hoi:∀ i∈x'.ids,i∈K) {d:Option Nat} {v:Value} (hdst:∀ d',d=some d'→d' < N) :
  RelE w0 Z0 L N K (σ.app d ⟨.p (.c .un),(o,some x')::gone cons⟩) (a.put d v) w' (E.set o (E.hdr o) F) Z:=by
 have hhdr:∀ i,(E.set o (E.hdr o) F).hdr i=E.hdr i:=fun i=>by
  by_cases e:i=o
  ·subst e;simp [Env.set]
  ·simp [Env.set,e]
 have hself:(E.set o (E.hdr o) F).fp o=F:=by simp [Env.set]
 refine h.step (M:=fun m=>m=o∨m∈cons) hos htape hout hsz (fun b hb hn=>hblk b hb (hn o x ho (.inl rfl)) fun m hm=>?_) (fun i hi=>hi) (fun i hi=>.inl hi) (fun i hi=>hhdr i) (fun m y hm hn=>?_) (fun _ h=>h) (fun _ h=>.inl h)
  (fun m y hm=>?_) (fun m y m' y' hm hm' hne hc hc'=>?_) (by rw [put_defers];exact h.defers) (by rw [put_size];exact h.size) (fun t=>?_)
 ·obtain ⟨y,hy⟩:=hcons m hm;exact hn m y hy (.inr hm)
 ·have : m ≠ o := fun e => hn (.inl e)
  simp [Env.set,this]
 ·rcases app_turn hm with ⟨rfl, rfl⟩ | ⟨h1, h2, h3⟩
  ·right
   refine ⟨by rw [hhdr,hself];exact hden,by rw [hself];exact hnd,⟨(h.oids m x ho).1,hoi⟩,fun b hb=>?_⟩
   rw [hself] at hb
   have:=hF b hb
   rcases this.2 with h1 | ⟨m',hm',hb⟩
   ·exact ⟨this.1,(h.free m x ho b h1).2.1,.inr ⟨m,x,ho,.inl rfl,h1⟩⟩
   ·obtain ⟨y,hy⟩:=hcons m' hm';exact ⟨this.1,(h.free m' y hy b hb).2.1,.inr ⟨m',y,hy,.inr hm',hb⟩⟩
  ·exact .inl ⟨by simp [h1,h2],h3⟩
 ·rcases app_turn hm with ⟨rfl, rfl⟩ | ⟨h1, h2, h3⟩
  ·rcases app_turn hm' with ⟨rfl, rfl⟩ | ⟨h1', h2', h3'⟩
   ·exact absurd rfl hne
   ·exact absurd ⟨by simp [h1',h2'],h3'⟩ hc'
  ·exact absurd ⟨by simp [h1,h2],h3⟩ hc
 ·rw [app_tmp, put_get (by rw [h.size]; exact hdst)]
  by_cases ht:d=some t
  ·right;simp only [ht,if_true];exact ⟨trivial,by simp [AV.ids,PV.ids,CV.ids]⟩
  ·left;simp [ht]
def Ends (P:Program) (w0:World) (Z0:Nat→Prop) (L:List Nat) (N:Nat) (K:List Nat) (σ:St) (a:Act) (w:World) (o:Oper) (e:Eff):Prop :=
 ∀ Q,o.wp P a w (fun a' w'=>∃ v,a'=a.put o.dst v∧Post w0 Z0 L N K σ a o.dst e v w') Q
theorem more_post {K' ids:List Nat} {σ':St} {a':Act} {w':World} {E':Env} {Z':Nat→Prop} (h:RelE w0 Z0 L N K' σ' a' w' E' Z') (hk:∀ i∈K',i∈ids++K):∃ E'' Z'',RelE w0 Z0 L N (ids++K) σ' a' w' E'' Z'':=by
 have h1:=h.more (ids++K)
 refine ⟨_,_,h1.step (M:=fun _=>False) (K':=ids++K) rfl rfl rfl (Nat.le_refl _) (fun _ _ _=>rfl) (fun i hi=>?_) (fun i hi=>.inl (List.mem_append.2 (.inl hi))) (fun i _=>rfl) (fun _ _ _ _=>rfl) (fun _ h=>h) (fun _ h=>.inl h)
  (fun o x ho=>.inl ⟨fun h=>h,ho⟩) (fun o x o' x' ho _ _ hc=>absurd ⟨fun h=>h,ho⟩ hc) h.defers h.size (fun t=>.inl ⟨rfl,rfl⟩)⟩
 rcases List.mem_append.1 hi with hi | hi
 ·exact hi
 ·exact hk i hi
theorem newId_some {md:Md} {k:Nat→RM Eff} {e:Eff} (h:(newId md k).run σ=some e) (ho:AllP ((newId md k).obl σ)):∃ id ids,md.ids=id::ids∧(k id).run σ=some e∧AllP ((k id).obl σ):=by
 unfold newId at h ho
 split at h
 ·rename_i id ids hi
  simp only [hi] at ho
  exact ⟨id,ids,hi,h,ho⟩
 ·cases h
theorem zero_run {t:TypeId} {z:List Value} (h:zeroCells P t=some z):∃ v,(∀ w,(zeroValue t).run P w=.ok v w)∧v.cells.toList=z:=by
 unfold zeroCells at h
 cases hi:P.info? t with
 | none=>rw [hi] at h;cases h
 | some i =>
  rw [hi] at h
  simp only [Option.bind_some,Option.map_eq_some_iff] at h
  obtain ⟨v,h1,h2⟩:=h
  exact ⟨v,fun w=>by simp [zeroValue,typeInfo,hi,h1],h2⟩
theorem box_new (h:RelE w0 Z0 L N K σ a w E Z) {id:Nat} {ids:List Nat} (hid:id ∉ K) {t:TypeId} {cs:List CV} {vs:List Value} (hd:dens E Z w cs vs) (hi:∀ i∈cs.flatMap CV.ids,i∈K) {d:Option Nat} (hdst:∀ d',d=some d'→d' < N) :
  Post w0 Z0 L N (id::ids++K) σ a d ⟨.p (.c (.ptr id 0)),[(id,some (.bx t cs))]⟩ (.pointer (some ⟨w.heap.size,0,none⟩)) (w.alloc (.cells vs.toArray t)):=by
 have hset:∀ i∈K,(E.set id (.pointer (some ⟨w.heap.size,0,none⟩)) [w.heap.size]).hdr i=E.hdr i:=fun i hi=>by
  have:i≠id:=fun e=>hid (e ▸ hi)
  simp [Env.set,this]
 have:=h.turn (id:=id) hid (cons:=[]) (by simp) (w':=w.alloc (.cells vs.toArray t)) rfl rfl rfl (by simp) (fun b hb _=>Below.heap_alloc w _ b hb) (ob:=.bx t cs) (hd:=.pointer (some ⟨w.heap.size,0,none⟩)) (F:=[w.heap.size])
  ⟨w.heap.size,vs,rfl,rfl,heap_alloc_new w _,hd.keep hset (fun _ h=>h) (fun b hb=>Below.heap_alloc w _ b (h.zlt b hb)) hi⟩ (by simp) (by simp) rfl hi (av:=.p (.c (.ptr id 0))) (v:=.pointer (some ⟨w.heap.size,0,none⟩)) (d:=d)
  ⟨w.heap.size,by simp [Env.set],rfl⟩ (by simp [AV.ids,PV.ids,CV.ids]) hdst
 exact more_post this (fun i hi=>by rcases List.mem_cons.1 hi with rfl | hi<;>simp [*])
theorem allocM_ends (h:RelE w0 Z0 L N K σ a w E Z) {o:Oper} {md:Md} {t:TypeId} {e:Eff} (hop:o.op=.alloc t) (hids:∀ i∈md.ids,i ∉ K) (hdst:∀ d',o.dst=some d'→d' < N) (hr:(allocM P md t).run σ=some e) (ho:AllP ((allocM P md t).obl σ)):Ends P w0 Z0 L N (md.ids++K) σ a w o e:=by
 obtain ⟨id,ids,hi,hr1,ho1⟩:=newId_some hr ho
 obtain ⟨z,hz,hr2⟩:=RM.run_bind hr1
 have e1:=ret_some hr2;subst e1
 obtain ⟨v,hv,rfl⟩:=zero_run (orFail_run hz)
 intro Q
 refine wp_of_value (v:=.pointer (some ⟨w.heap.size,0,none⟩)) (w':=w.alloc (.cells v.cells.toList.toArray t)) ?_ ?_
 ·simp [execOp,hop,Instr.alloc,hv,newVar,newRow]
 ·rw [hi];exact box_new h (hids id (by simp [hi])) (dens_exact _) (by rw [ids_exact];simp) hdst
theorem boxM_ends (h:RelE w0 Z0 L N K σ a w E Z) {o:Oper} {md:Md} {t:TypeId} {x:Operand} {e:Eff} (hop:o.op=.box t x) (hids:∀ i∈md.ids,i ∉ K) (hdst:∀ d',o.dst=some d'→d' < N) (hr:(boxM md t x).run σ=some e) (ho:AllP ((boxM md t x).obl σ)):Ends P w0 Z0 L N (md.ids++K) σ a w o e:=by
 obtain ⟨id,ids,hi,hr1,ho1⟩:=newId_some hr ho
 obtain ⟨cs,hcs,hr2⟩:=RM.run_bind hr1
 obtain ⟨hone,hr3⟩:=bif_some hr2
 have e1:=ret_some hr3;subst e1
 have hcd:=evalCells_den h hcs hone
 intro Q
 refine wp_of_value (v:=.pointer (some ⟨w.heap.size,0,none⟩)) (w':=w.alloc (.cells (a.eval x).cells.toList.toArray t)) ?_ ?_
 ·simp [execOp,hop,Instr.box,newVar,newRow]
 ·rw [hi];exact box_new h (hids id (by simp [hi])) hcd.1 hcd.2.2 hdst
end
end Go.Proofs.Ytmcpigcpachdkaa
