/- Functions that move a cursor: their first argument is the address of a block whose slices are frozen; and functions that yield the address of a new such block. No program is named; no condition. -/
import Derived.Test.YtmcpigcpachdkaaPY
namespace Go.Proofs.Ytmcpigcpachdkaa
open Go.RowKit
set_option linter.unusedVariables false
set_option linter.unusedSimpArgs false
structure BS where
 t:TypeId
 s:Sh
 dom:List Sh
 cod:List Sh
 pre:s.D→Dom dom→Prop
 upd:s.D→Dom dom→s.D
 g:s.D→Dom dom→Dom cod
 dp:Bool:=true
 fz:Bool:=false
def BS.resO (B:BS) (w:World) (Z:Nat→Prop) (w':World) (us:List Value) (y:Dom B.cod) (F:List Nat):Prop :=
 bif B.fz then argsRd w' (fun k=>Z k∨(w.heap.size≤k∧k < w'.heap.size)) B.cod us y else resAll (fun k=>Z k∨(w.heap.size≤k∧k < w'.heap.size∧k ∉ F)) w' B.dp B.cod us y F
def BS.Ret (B:BS) (w:World) (Z:Nat→Prop) (b:Nat) (c:B.s.D) (x:Dom B.dom) (e:Ending) (w':World):Prop :=
 ∃ us vs F,e=.returned (tupV us)∧Bx w' b B.t vs∧B.s.rd w' (fun k=>Z k∨(w.heap.size≤k∧k < w'.heap.size∧k ∉ F)) vs (B.upd c x)∧B.resO w Z w' us (B.g c x) F∧F.Nodup∧(∀ k∈F,w.heap.size≤k∧k < w'.heap.size)∧SameBut [b] w w'
def FnOKB (P:Program) (f:FuncId) (B:BS):Prop :=
 ∀ (w:World) (Z:Nat→Prop) (b:Nat) (vs us:List Value) (c:B.s.D) (x:Dom B.dom),(∀ k,Z k→k < w.heap.size)→b < w.heap.size→¬ Z b→Bx w b B.t vs→B.s.rd w Z vs c→argsRd w Z B.dom us x→B.pre c x→Calls P f ((Value.pointer (some ⟨b,0,none⟩)::us).toArray) w (B.Ret w Z b c x)
def BS.call (B:BS) (md:Md) (ps:List PV):RM Eff:=match ps with
 | .c (.ptr o k) :: ps => bif k.beq 0 then .obj o fun
  | .bx t cs => bif t.beq B.t then (rdC false B.s cs).bind fun c => (rdArgs false B.dom ps).bind fun x => .need (B.pre c x)
    (bif md.frz then .ret ⟨tupA (frzP B.cod (B.g c x)),[(o,some (.bx B.t (B.s.cvs false (B.upd c x))))]⟩ else (bif !B.fz && Nat.ble (cntP B.cod) md.ids.length then .ret ⟨tupA (resP B.dp B.cod (B.g c x) md.ids).1,(resP B.dp B.cod (B.g c x) md.ids).2++[(o,some (.bx B.t (B.s.cvs false (B.upd c x))))]⟩ else .fail)) else .fail
  | _=>.fail
  else .fail
 | _=>.fail
def bSum (f:Nat) (B:BS):Sum:={ fid:=f,dom:=[],cod:=[],dp:=true,pre:=fun _=>True,g:=fun _=>(),prim:=some B.call }
structure NS where
 t:TypeId
 s:Sh
 dom:List Sh
 pre:Dom dom→Prop
 g:Dom dom→s.D
def NS.Ret (B:NS) (w:World) (Z:Nat→Prop) (x:Dom B.dom) (e:Ending) (w':World):Prop :=
 ∃ b vs,e=.returned (.pointer (some ⟨b,0,none⟩))∧Bx w' b B.t vs∧B.s.rd w' (fun k=>Z k∨(w.heap.size≤k∧k < w'.heap.size∧k≠b)) vs (B.g x)∧w.heap.size≤b∧b < w'.heap.size∧Below w.heap.size w w'
def FnOKN (P:Program) (f:FuncId) (B:NS):Prop :=
 ∀ (w:World) (Z:Nat→Prop) (us:List Value) (x:Dom B.dom),(∀ k,Z k→k < w.heap.size)→argsRd w Z B.dom us x→B.pre x→Calls P f us.toArray w (B.Ret w Z x)
def NS.call (B:NS) (md:Md) (ps:List PV):RM Eff :=
 newId md fun id=>(rdArgs false B.dom ps).bind fun x=>.need (B.pre x) (.ret ⟨.p (.c (.ptr id 0)),[(id,some (.bx B.t (B.s.cvs false (B.g x))))]⟩)
def nSum (f:Nat) (B:NS):Sum:={ fid:=f,dom:=[],cod:=[],dp:=true,pre:=fun _=>True,g:=fun _=>(),prim:=some B.call }
section
variable {P:Program} {w0:World} {Z0:Nat→Prop} {L:List Nat} {N:Nat} {K:List Nat} {σ:St} {a:Act} {w:World} {E:Env} {Z:Nat→Prop}
theorem RelE.cursor (h:RelE w0 Z0 L N K σ a w E Z) {o b:Nat} {t:TypeId} {cs cs':List CV} (hb:σ.obj o=some (.bx t cs)) (hfp:E.fp o=[b]) {w':World} (hs:SameBut [b] w w') {Z':Nat→Prop} (hZ:∀ k,Z k→Z' k) (hZn:∀ k,Z' k→Z k∨(w.heap.size≤k∧k < w'.heap.size))
  {t':TypeId} (hden:(Ob.bx t' cs').den E Z' w' (E.hdr o) (E.fp o)) (hi:cs'.flatMap CV.ids=[]):RelE w0 Z0 L N K (σ.add [(o,some (.bx t' cs'))]) a w' E Z' :=
 h.step (M:=fun m=>m=o) hs.1 hs.2.1 hs.2.2.1 hs.2.2.2.1 (fun k hk hnot=>hs.2.2.2.2 k hk fun hm=>hnot o _ hb rfl (by rw [hfp];exact hm)) (fun i hi=>hi) (fun i hi=>.inl hi) (fun i hi=>rfl) (fun _ _ _ _=>rfl) hZ
  (fun k hk=>by rcases hZn k hk with h' | h';exact .inl h';exact .inr ⟨h'.2,.inl h'.1⟩)
  (fun o' x' ho' => by
   rcases add_one ho' with ⟨rfl,rfl⟩ | ⟨h1,h2⟩
   ·right
    refine ⟨hden,h.nodup o' _ hb,⟨(h.oids o' _ hb).1,fun i hi'=>?_⟩,fun k hk=>?_⟩
    ·have : i ∈ cs'.flatMap CV.ids := hi'
     rw [hi] at this;simp at this
    ·have hf := h.free o' _ hb k hk
     refine ⟨Nat.lt_of_lt_of_le hf.1 hs.2.2.2.1,fun hz=>?_,.inr ⟨o',_,hb,rfl,hk⟩⟩
     rcases hZn k hz with h' | h'
     ·exact hf.2.1 h'
     ·have:=hf.1;omega
   ·left;exact ⟨h1,h2⟩)
  (fun o1 x1 o2 x2 h1 h2 hne hn1 hn2 => by
   have e1:o1=o:=by
    rcases add_one h1 with ⟨e,_⟩ | ⟨g1,g2⟩
    ·exact e
    ·exact absurd ⟨g1,g2⟩ hn1
   have e2:o2=o:=by
    rcases add_one h2 with ⟨e,_⟩ | ⟨g1,g2⟩
    ·exact e
    ·exact absurd ⟨g1,g2⟩ hn2
   exact absurd (e1.trans e2.symm) hne)
  h.defers h.size (fun t=>.inl ⟨rfl,rfl⟩)
theorem cursor_ends {f:FuncId} {B:BS} (hok:FnOKB P f B):PrimOK P f B.call:=by
 intro w0 Z0 L N K σ a w E Z h md ps us e d hpd hpi hids hnd hdst hr ho
 unfold BS.call at hr ho
 split at hr
 ·rename_i o k ps
  cases us with
  | nil=>exact hpd.elim
  | cons u us =>
  obtain ⟨hk,hr1,ho1⟩:=bif_split hr ho
  have hk:=Nat.eq_of_beq_eq_true hk
  subst hk
  obtain ⟨b,hb,hr2,ho2⟩:=obj_split hr1 ho1
  match b,hb,hr2,ho2 with
  | .bx t cs, hb, hr2, ho2 =>
   obtain ⟨ht,hr3,ho3⟩:=bif_split hr2 ho2
   have ht:=Nat.eq_of_beq_eq_true ht
   subst ht
   obtain ⟨c,hc,hco,hr4,ho4⟩:=bind_split hr3 ho3
   obtain ⟨x,hx,hxo,hr5,ho5⟩:=bind_split hr4 ho4
   obtain ⟨hpre,hr6,ho6⟩:=need_split hr5 ho5
   obtain ⟨b,hbh,rfl⟩:=hpd.1
   obtain ⟨b',vs,hb',hF,hbx,hd⟩:=h.obj o _ hb
   rw [hbh] at hb';cases hb'
   have hcr:=rdC_rd h (Zr:=Z) (fun _ h=>h) false (by simp) B.s hc hco hd
   have hargs:=rdArgs_pd h (Zr:=Z) (fun _ h=>h) false (by simp) hpd.2 hx hxo
   have hfree:=h.free o _ hb b (by rw [hF];simp)
   cases hfz:md.frz with
   | true =>
   rw [hfz,cond_true] at hr6
   have e1:=ret_some hr6;subst e1
   refine (hok w Z b vs us c x h.zlt hfree.1 hfree.2.1 hbx hcr hargs hpre).mono ?_
   rintro e' w' ⟨rs,vs',F,rfl,hbx',hrd',hres,hFn,hF',hsame⟩
   refine ⟨_,rfl,?_⟩
   let Z':Nat→Prop:=fun k=>Z k∨(w.heap.size≤k∧k < w'.heap.size)
   have hzz:∀ k,(Z k∨(w.heap.size≤k∧k < w'.heap.size∧k ∉ F))→Z' k:=fun k hk=>by
    rcases hk with h' | h'
    ·exact .inl h'
    ·exact .inr ⟨h'.1,h'.2.1⟩
   have h1:=h.cursor (t':=B.t) (cs':=B.s.cvs false (B.upd c x)) hb hF hsame (Z':=Z') (fun k hk=>.inl hk) (fun k hk=>hk)
    ⟨b,vs',hbh,hF,hbx',B.s.cvs_den (B.s.rd_keep hrd' hzz (fun _ _=>rfl))⟩ (B.s.cvs_ids false _)
   have hfd:pdens E Z' w' (frzP B.cod (B.g c x)) rs∧(frzP B.cod (B.g c x)).flatMap PV.ids=[]:=by
    unfold BS.resO at hres
    cases hz:B.fz with
    | true=>rw [hz,cond_true] at hres;exact args_den B.cod hres
    | false=>rw [hz,cond_false] at hres;exact frz_den B.cod hres hzz (fun k hk=>.inr (hF' k hk))
   obtain ⟨E2,Z2,hv⟩:=h1.val hdst (tup_den hfd.1) (fun i hi=>by have:=tup_ids _ i hi;rw [hfd.2] at this;simp at this) md.ids
   refine ⟨E2,Z2,?_⟩
   have e:σ.app d ⟨tupA (frzP B.cod (B.g c x)),[(o,some (.bx B.t (B.s.cvs false (B.upd c x))))]⟩=(σ.add [(o,some (.bx B.t (B.s.cvs false (B.upd c x))))]).app d ⟨tupA (frzP B.cod (B.g c x)),[]⟩:=by cases d<;>rfl
   rw [e];exact hv
   | false =>
   rw [hfz,cond_false] at hr6
   obtain ⟨hcnt,hr7⟩:=bif_some hr6
   simp only [Bool.and_eq_true,Bool.not_eq_true'] at hcnt
   have hz:=hcnt.1
   have hcnt:=Nat.le_of_ble_eq_true hcnt.2
   have e1:=ret_some hr7;subst e1
   refine (hok w Z b vs us c x h.zlt hfree.1 hfree.2.1 hbx hcr hargs hpre).mono ?_
   rintro e' w' ⟨rs,vs',F,rfl,hbx',hrd',hres,hFn,hF',hsame⟩
   unfold BS.resO at hres
   rw [hz,cond_false] at hres
   refine ⟨_,rfl,?_⟩
   let Z':Nat→Prop:=fun k=>Z k∨(w.heap.size≤k∧k < w'.heap.size∧k ∉ F)
   have h1:=h.cursor (t':=B.t) (cs':=B.s.cvs false (B.upd c x)) hb hF hsame (Z':=Z') (fun k hk=>.inl hk) (fun k hk=>by rcases hk with h' | h';exact .inl h';exact .inr ⟨h'.1,h'.2.1⟩)
    ⟨b,vs',hbh,hF,hbx',B.s.cvs_den hrd'⟩ (B.s.cvs_ids false _)
   obtain ⟨E',K',r1,d1,i1,k1,e1⟩:=adopt_all B.cod h1 hres hFn (fun k hk=>by
    have hkF:=hF' k hk
    refine ⟨hkF.2,fun hz=>?_,?_,fun o' x' ho' hk'=>?_⟩
    ·rcases hz with h' | h'
     ·have:=h.zlt k h';omega
     ·exact h'.2.2 hk
    ·have:=h.frame.size;exact .inl (by omega)
    ·rcases add_one ho' with ⟨rfl, rfl⟩ | ⟨g1, g2⟩
     ·rw [hF] at hk';simp at hk';subst hk';have:=hfree.1;omega
     ·have:=(h.free o' x' g2 k hk').1;omega) hnd hids hcnt
   have hv:=r1.val hdst (tup_den d1) (fun i hi=>i1 i (tup_ids _ i hi)) []
   obtain ⟨E2,Z2,hv⟩:=hv
   have:RelE w0 Z0 L N ([]++K') (σ.app d ⟨tupA (resP B.dp B.cod (B.g c x) md.ids).1,(resP B.dp B.cod (B.g c x) md.ids).2++[(o,some (.bx B.t (B.s.cvs false (B.upd c x))))]⟩) (a.put d (tupV rs)) w' E2 Z2:=by
    have e:σ.app d ⟨tupA (resP B.dp B.cod (B.g c x) md.ids).1,(resP B.dp B.cod (B.g c x) md.ids).2++[(o,some (.bx B.t (B.s.cvs false (B.upd c x))))]⟩=((σ.add [(o,some (.bx B.t (B.s.cvs false (B.upd c x))))]).add (resP B.dp B.cod (B.g c x) md.ids).2).app d ⟨tupA (resP B.dp B.cod (B.g c x) md.ids).1,[]⟩:=by
     rw [add_add];cases d<;>rfl
    rw [e];exact hv
   exact more_post this (fun i hi=>by
    rcases (k1 i).1 hi with h' | h'
    ·exact List.mem_append.2 (.inl (List.mem_of_mem_take h'))
    ·exact List.mem_append.2 (.inr h'))
 ·cases hr
theorem bsum_ok {f:FuncId} {B:BS} (hok:FnOKB P f B):FnOK P f (bSum f B):=cursor_ends hok
theorem new_ends {f:FuncId} {B:NS} (hok:FnOKN P f B):PrimOK P f B.call:=by
 intro w0 Z0 L N K σ a w E Z h md ps us e d hpd hpi hids hnd hdst hr ho
 unfold NS.call at hr ho
 obtain ⟨id,ids,hid⟩:∃ id ids,md.ids=id::ids:=by
  unfold newId at hr
  split at hr
  ·rename_i id ids e;exact ⟨id,ids,e⟩
  ·cases hr
 unfold newId at hr ho
 rw [hid] at hr ho
 simp only at hr ho
 obtain ⟨x,hx,hxo,hr5,ho5⟩:=bind_split hr ho
 obtain ⟨hpre,hr6,ho6⟩:=need_split hr5 ho5
 have e1:=ret_some hr6;subst e1
 have hargs:=rdArgs_pd h (Zr:=Z) (fun _ h=>h) false (by simp) hpd hx hxo
 refine (hok w Z us x h.zlt hargs hpre).mono ?_
 rintro e' w' ⟨b,vs,rfl,hbx,hrd,hb1,hb2,hbel⟩
 refine ⟨_,rfl,?_⟩
 let Z':Nat→Prop:=fun k=>Z k∨(w.heap.size≤k∧k < w'.heap.size∧k≠b)
 have h1:=h.called hbel (Z':=Z') (fun k hk=>.inl hk) (fun k hk=>by rcases hk with h' | h';exact .inl h';exact .inr ⟨h'.1,h'.2.1⟩)
 have hidK:id ∉ K:=hids id (by rw [hid];simp)
 have r2:=h1.adopt (id:=id) hidK (ob:=.bx B.t (B.s.cvs false (B.g x))) (hd:=.pointer (some ⟨b,0,none⟩)) (F:=[b]) ⟨b,vs,rfl,rfl,hbx,B.s.cvs_den hrd⟩ (by simp) (fun b' hb'=>by
  have e:b'=b:=by simpa using hb'
  subst e
  refine ⟨hb2,fun hz=>?_,?_,fun o x ho hm=>?_⟩
  ·rcases hz with h' | h'
   ·have:=h.zlt _ h';omega
   ·exact h'.2.2 rfl
  ·have:=h.frame.size;exact .inl (by omega)
  ·have := (h.free o x ho _ hm).1; omega) rfl (fun i hi => by
   have:i∈(B.s.cvs false (B.g x)).flatMap CV.ids:=hi
   rw [B.s.cvs_ids] at this;simp at this)
 obtain ⟨E2,Z2,hv⟩:=r2.val (d:=d) (v:=.pointer (some ⟨b,0,none⟩)) (av:=.p (.c (.ptr id 0))) hdst ⟨b,by simp [Env.set],rfl⟩ (fun i hi=>by
  have:i=id:=by simpa [AV.ids,PV.ids,CV.ids] using hi
  simp [this]) []
 have:RelE w0 Z0 L N ([]++(id::K)) (σ.app d ⟨.p (.c (.ptr id 0)),[(id,some (.bx B.t (B.s.cvs false (B.g x))))]⟩) (a.put d (.pointer (some ⟨b,0,none⟩))) w' E2 Z2:=by
  have e:σ.app d ⟨.p (.c (.ptr id 0)),[(id,some (.bx B.t (B.s.cvs false (B.g x))))]⟩=(σ.add [(id,some (.bx B.t (B.s.cvs false (B.g x))))]).app d ⟨.p (.c (.ptr id 0)),[]⟩:=by cases d<;>rfl
  rw [e];exact hv
 exact more_post this (fun i hi=>by
  rw [hid]
  rcases List.mem_cons.1 (by simpa using hi) with h' | h'
  ·simp [h']
  ·simp [h'])
theorem nsum_ok {f:FuncId} {B:NS} (hok:FnOKN P f B):FnOK P f (nSum f B):=new_ends hok
def BS.inSt (B:BS) (v:Value) (c:B.s.D) (x:Dom B.dom):St:=⟨numA 0 (.c (.ptr 1 0)::frzP B.dom x),[(1,some (.bx B.t (B.s.cvs false c))),(2,some (.pin 1 v))]⟩
theorem at_enterB {f:FuncId} {fn:Func} {c:Code} {B:BS} (N:Nat) (σ:Value→B.s.D→Dom B.dom→St) (hf:P.funcs[f]?=some fn) (hb:fn.body=some c) (hn:(Nat.ble (B.dom.length+1) N && N.beq fn.ntmps)=true) (hσ:∀ v y x,(B.inSt v y x).only (List.range (B.dom.length+1)) [1,2]=σ v y x)
  (h:∀ (w0:World) (Z0:Nat→Prop) (b:Nat) (y:B.s.D) (x:Dom B.dom) (a:Act) (w:World),B.pre y x→B.s.lens y→lensD B.dom x→At w0 Z0 [b] N (σ (.pointer (some ⟨b,0,none⟩)) y x) a w→c.wp P (bodyPost P fn (B.Ret w0 Z0 b y x)) a w):FnOK P f (bSum f B):=by
 refine bsum_ok ?_
 simp only [Bool.and_eq_true] at hn
 have hN:=Nat.eq_of_beq_eq_true hn.2
 have hlen:=Nat.le_of_ble_eq_true hn.1
 intro w Z b vs us y x hZ hbl hbz hbx hrd hargs hpre
 refine calls_of_wp hf hb (h w Z b y x _ w hpre (B.s.rd_lens hrd) (argsRd_lens _ hargs) ?_)
 rw [← hσ]
 have hul:=args_len _ hargs
 have r0:RelE w Z [b] N [] ⟨[],[]⟩ { tmps:=(Value.pointer (some ⟨b,0,none⟩)::us).toArray++Array.replicate (fn.ntmps - (Value.pointer (some ⟨b,0,none⟩)::us).toArray.size) undef,defers:=[] } w ⟨fun _=>.bool false,fun _=>[]⟩ Z:=by
  refine ⟨rfl,?_,fun t=>trivial,fun t i hi=>by simp [St.tmp,look,AV.ids,PV.ids,CV.ids] at hi,?_,?_,?_,?_,?_,fun b hb=>.inl hb,hZ,SameBut.refl _ _,?_⟩
  ·simp only [Array.size_append,List.size_toArray,Array.size_replicate,List.length_cons];omega
  all_goals first
   | (intro o x o' x' ho;cases ho;done)
   | (intro o x ho;cases ho;done)
   | (intro i hi;simp at hi)
 have hci:∀ i∈(Ob.bx B.t (B.s.cvs false y)).ids,i∈([]:List Nat):=fun i hi=>by
  have:i∈(B.s.cvs false y).flatMap CV.ids:=hi
  rw [B.s.cvs_ids] at this;exact this
 have r1:=r0.adopt (id:=1) (by simp) (ob:=.bx B.t (B.s.cvs false y)) (hd:=.pointer (some ⟨b,0,none⟩)) (F:=[b]) ⟨b,vs,rfl,rfl,hbx,B.s.cvs_den hrd⟩ (by simp) (fun b' hb'=>by
  have e:b'=b:=by simpa using hb'
  subst e
  exact ⟨hbl,hbz,.inr (by simp),fun o x ho=>by cases ho⟩) rfl hci
 have r2:=r1.adopt (id:=2) (by simp) (ob:=.pin 1 (.pointer (some ⟨b,0,none⟩))) (hd:=.bool false) (F:=[]) ⟨rfl,by simp [Env.set],rfl⟩ List.nodup_nil (by simp) rfl (by simp [Ob.ids])
 have hfd:=args_den (E:=(Env.set (Env.set ⟨fun _=>.bool false,fun _=>[]⟩ 1 (.pointer (some ⟨b,0,none⟩)) [b]) 2 (.bool false) [])) B.dom hargs
 have htm:∀ t,(B.inSt (.pointer (some ⟨b,0,none⟩)) y x).tmp t=match (PV.c (.ptr 1 0)::frzP B.dom x)[t]? with | some p=>.p p | none=>.p (.c .un):=fun t=>by
  show (look (numA 0 _) t).getD _=_
  rw [look_num t _ 0 (Nat.zero_le _),Nat.sub_zero]
  cases (PV.c (.ptr 1 0)::frzP B.dom x)[t]?<;>rfl
 have hd2:pdens (Env.set (Env.set ⟨fun _=>.bool false,fun _=>[]⟩ 1 (.pointer (some ⟨b,0,none⟩)) [b]) 2 (.bool false) []) Z w (PV.c (.ptr 1 0)::frzP B.dom x) (.pointer (some ⟨b,0,none⟩)::us):=⟨⟨b,by simp [Env.set],rfl⟩,hfd.1⟩
 have hob:∀ o,(B.inSt (.pointer (some ⟨b,0,none⟩)) y x).obj o=((({ tm:=[],ob:=[] }:St).add [(1,some (.bx B.t (B.s.cvs false y)))]).add [(2,some (.pin 1 (.pointer (some ⟨b,0,none⟩))))]).obj o:=fun o=>by
  rw [add_add]
  show (look [(1,some (Ob.bx B.t (B.s.cvs false y))),(2,some (Ob.pin 1 (.pointer (some ⟨b,0,none⟩))))] o).getD none=(look [(2,some (Ob.pin 1 (.pointer (some ⟨b,0,none⟩)))),(1,some (Ob.bx B.t (B.s.cvs false y)))] o).getD none
  simp only [look]
  by_cases e1:o=1
  ·subst e1;rfl
  ·by_cases e2 : o = 2
   ·subst e2;rfl
   ·rw [beq_ne (fun e=>e1 e.symm),beq_ne (fun e=>e2 e.symm)];rfl
 have hS:Stands w Z [b] N [2,1] (B.inSt (.pointer (some ⟨b,0,none⟩)) y x) { tmps:=(Value.pointer (some ⟨b,0,none⟩)::us).toArray++Array.replicate (fn.ntmps - (Value.pointer (some ⟨b,0,none⟩)::us).toArray.size) undef,defers:=[] } w:=by
  refine ⟨_,Z,r2.defers,r2.size,fun t=>?_,fun t i hi=>?_,fun o x ho=>r2.obj o x (by rw [← hob];exact ho),fun o x ho=>r2.oids o x (by rw [← hob];exact ho),fun o x ho=>r2.nodup o x (by rw [← hob];exact ho),
   fun o x o' x' ho ho'=>r2.apart o x o' x' (by rw [← hob];exact ho) (by rw [← hob];exact ho'),fun o x ho=>r2.free o x (by rw [← hob];exact ho),r2.znew,r2.zlt,r2.frame,r2.hone⟩
  ·rw [htm]
   cases hp:(PV.c (.ptr 1 0)::frzP B.dom x)[t]? with
   | none=>trivial
   | some p =>
    obtain ⟨u,hu,hpd⟩:=pdens_at hd2 hp
    have hlt:t < (Value.pointer (some ⟨b,0,none⟩)::us).length:=by
     rcases Nat.lt_or_ge t (Value.pointer (some ⟨b,0,none⟩)::us).length with h' | h'
     ·exact h'
     ·rw [List.getElem?_eq_none h'] at hu;cases hu
    have:((Value.pointer (some ⟨b,0,none⟩)::us).toArray++Array.replicate (fn.ntmps - (Value.pointer (some ⟨b,0,none⟩)::us).toArray.size) undef).getD t undef=u:=by
     rw [Array.getD_eq_getD_getElem?,Array.getElem?_append_left (by simpa using hlt),List.getElem?_toArray,hu]
     rfl
    simp only
    rw [this]
    exact hpd
  ·rw [htm] at hi
   cases hp:(PV.c (.ptr 1 0)::frzP B.dom x)[t]? with
   | none=>rw [hp] at hi;simp [AV.ids,PV.ids,CV.ids] at hi
   | some p =>
    rw [hp] at hi
    have hm:i∈(PV.c (.ptr 1 0)::frzP B.dom x).flatMap PV.ids:=List.mem_flatMap.2 ⟨p,List.mem_of_getElem? hp,hi⟩
    rw [List.flatMap_cons,hfd.2] at hm
    have:i=1:=by simpa [PV.ids,CV.ids] using hm
    simp [this]
 exact hS.norm _ _
theorem outs_facts {w0:World} {Z0:Nat→Prop} {L:List Nat} {N:Nat} {K:List Nat} {σ:St} {a:Act} {w:World} {E:Env} {Z:Nat→Prop} (h:RelE w0 Z0 L N K σ a w E Z) (dp:Bool) {ids:List Nat} (hnd:ids.Nodup) (hobs:∀ m∈ids,∃ y,σ.obj m=some y) :
  (∀ b∈outs E dp ids,∃ r∈ids,b∈E.fp r∧(dp=false→b∈Value.blk (E.hdr r)))∧(outs E dp ids).Nodup:=by
 have hblk:∀ r y,σ.obj r=some y→∀ b∈Value.blk (E.hdr r),b∈E.fp r:=fun r y hy b hb=>by
  have hd:=h.obj r y hy
  cases y with
  | bx t cs=>obtain ⟨b',vs,e,_⟩:=hd;rw [e] at hb;simp [Value.blk,Value.ownBlock] at hb
  | pin r' u=>rw [hd.1] at hb;simp [Value.blk,Value.ownBlock] at hb
  | mp bo es=>obtain ⟨b',ms,clock,e,_⟩:=hd;rw [e] at hb;simp [Value.blk,Value.ownBlock] at hb
  | op s xs i cs=>obtain ⟨vs,us,Fs,_,_,_,_,e⟩:=hd;rw [e];exact List.mem_append.2 (.inl hb)
  | row dp s xs=>obtain ⟨vs,Fs,_,_,e⟩:=hd;rw [e];exact List.mem_append.2 (.inl hb)
 constructor
 ·intro b hb
  unfold outs at hb
  cases dp with
  | true =>
   rw [cond_true] at hb
   obtain ⟨r,hr,hb⟩:=List.mem_flatMap.1 hb
   exact ⟨r,hr,hb,fun e=>by cases e⟩
  | false =>
   rw [cond_false] at hb
   obtain ⟨r,hr,hb⟩:=List.mem_flatMap.1 hb
   obtain ⟨y,hy⟩:=hobs r hr
   exact ⟨r,hr,hblk r y hy b hb,fun _=>hb⟩
 ·have gen:∀ (f:Nat→List Nat) (l:List Nat),l.Nodup→(∀ r∈l,(f r).Nodup)→(∀ r∈l,∀ r'∈l,r≠r'→∀ b∈f r,b ∉ f r')→(l.flatMap f).Nodup:=by
   intro f l
   induction l with
   | nil=>intros;simp
   | cons r l ih =>
    intro h1 h2 h3
    have h1:=List.nodup_cons.1 h1
    rw [List.flatMap_cons]
    refine List.nodup_append.2 ⟨h2 r (by simp),ih h1.2 (fun r hr=>h2 r (by simp [hr])) (fun r hr r' hr'=>h3 r (by simp [hr]) r' (by simp [hr'])),fun b hb c hc e=>?_⟩
    subst e
    obtain ⟨r',hr',hb'⟩:=List.mem_flatMap.1 hc
    exact h3 r (by simp) r' (by simp [hr']) (fun e=>h1.1 (e ▸ hr')) b hb hb'
  unfold outs tops
  cases dp with
  | true =>
   exact gen _ _ hnd (fun r hr=>by obtain ⟨y,hy⟩:=hobs r hr;exact h.nodup r y hy) fun r hr r' hr' hne b hb hb'=>by
    obtain ⟨y,hy⟩:=hobs r hr
    obtain ⟨y',hy'⟩:=hobs r' hr'
    exact h.apart r y r' y' hy hy' hne b hb hb'
  | false =>
   exact gen _ _ hnd (fun r hr=>blk_nodup _) fun r hr r' hr' hne b hb hb'=>by
    obtain ⟨y,hy⟩:=hobs r hr
    obtain ⟨y',hy'⟩:=hobs r' hr'
    exact h.apart r y r' y' hy hy' hne b (hblk r y hy b hb) (hblk r' y' hy' b hb')
def BS.endM (P:Program) (B:BS) (rs:List ResultVar) (v:Value):RM (B.s.D×Dom B.cod) :=
 .obj 2 fun
  | .pin i u => bif i.beq 1 then .need (u = v) (.obj 1 fun
   | .bx t cs=>bif t.beq B.t then (rdC false B.s cs).bind fun c=>(resM P rs).bind fun ps=>bif B.fz then (rdArgs false B.cod ps).bind fun y=>.ret (c,y) else (retA B.dp B.cod ps).bind fun r=>bif nodupB (1::r.2) then .ret (c,r.1) else .fail else .fail
   | _=>.fail) else .fail
  | _=>.fail
def endB (P:Program) (B:BS) (rs:List ResultVar) (v:Value) (σ:St):Option ((B.s.D×Dom B.cod)×List Prop):=((B.endM P rs v).run σ).map fun y=>(y,(B.endM P rs v).obl σ)
theorem at_returnB {fn:Func} {B:BS} {b:Nat} {c0:B.s.D} {x:Dom B.dom} (c:B.s.D) (y:Dom B.cod) (ps:List Prop) (h:At w0 Z0 [b] N σ a w) (hr:endB P B fn.results.toList (.pointer (some ⟨b,0,none⟩)) σ=some ((c,y),ps)) (ho:AllP ps) (hc:c=B.upd c0 x) (hy:y=B.g c0 x) :
  bodyPost P fn (B.Ret w0 Z0 b c0 x) .ret a w:=by
 obtain ⟨E,Z,h⟩:=h
 unfold endB at hr
 cases hm:(B.endM P fn.results.toList (.pointer (some ⟨b,0,none⟩))).run σ with
 | none=>rw [hm] at hr;cases hr
 | some z =>
  rw [hm] at hr
  simp only [Option.map_some,Option.some.injEq,Prod.mk.injEq] at hr
  obtain ⟨rfl,rfl⟩:=hr
  unfold BS.endM at hm ho
  obtain ⟨ob,hob,hr1,ho1⟩:=obj_split hm ho
  match ob,hob,hr1,ho1 with
  | .pin i u, hob, hr1, ho1 =>
   obtain ⟨hi,hr2,ho2⟩:=bif_split hr1 ho1
   have hi:=Nat.eq_of_beq_eq_true hi
   subst hi
   obtain ⟨hu,hr3,ho3⟩:=need_split hr2 ho2
   subst hu
   obtain ⟨ob1,hob1,hr4,ho4⟩:=obj_split hr3 ho3
   match ob1,hob1,hr4,ho4 with
   | .bx t cs, hob1, hr4, ho4 =>
    obtain ⟨ht,hr5,ho5⟩:=bif_split hr4 ho4
    have ht:=Nat.eq_of_beq_eq_true ht
    subst ht
    obtain ⟨cc,hcc,hcco,hr6,ho6⟩:=bind_split hr5 ho5
    obtain ⟨qs,hqs,_,hr7,ho7⟩:=bind_split hr6 ho6
    obtain ⟨vs,hvs,hpd,hpk⟩:=results_run h hqs
    cases hz:B.fz with
    | true =>
    rw [hz,cond_true] at hr7 ho7
    obtain ⟨y',hy',hyo,hr8,_⟩:=bind_split hr7 ho7
    have e1:=ret_some hr8;cases e1
    have hpin:=(h.obj 2 _ hob).2.1
    obtain ⟨b',cells,hb',hF,hbx,hd⟩:=h.obj 1 _ hob1
    have hbb:b'=b:=by
     have:E.hdr 1=.pointer (some ⟨b,0,none⟩):=hpin
     rw [this] at hb';cases hb';rfl
    subst hbb
    have hfree:=h.free 1 _ hob1 b' (by rw [hF];simp)
    have hcr:=rdC_rd h (Zr:=Z) (fun _ h=>h) false (by simp) B.s hcc hcco hd
    have hZn:∀ k,Z k→Z0 k∨(w0.heap.size≤k∧k < w.heap.size):=fun k hk=>by
     rcases h.znew k hk with h' | h' | h'
     ·exact .inl h'
     ·exact .inr ⟨h',h.zlt k hk⟩
     ·have e : k = b' := by simpa using h'
      subst e;exact absurd hk hfree.2.1
    refine ⟨h.defers,_,hvs,vs,cells,[],rfl,hbx,?_,?_,List.nodup_nil,fun k hk=>(by cases hk),h.frame⟩
    ·rw [← hc]
     exact B.s.rd_keep hcr (fun k hk=>(hZn k hk).elim .inl fun h'=>.inr ⟨h'.1,h'.2,by simp⟩) (fun _ _=>rfl)
    ·rw [← hy]
     unfold BS.resO
     rw [hz,cond_true]
     exact rdArgs_pd h hZn false (by simp) hpd hy' hyo
    | false =>
    rw [hz,cond_false] at hr7 ho7
    obtain ⟨r,hr',hro,hr8,ho8⟩:=bind_split hr7 ho7
    obtain ⟨hnd,hr9⟩:=bif_some hr8
    have e1:=ret_some hr9;cases e1
    have hnd:=nodupB_spec hnd
    have hpin:=(h.obj 2 _ hob).2.1
    obtain ⟨b',cells,hb',hF,hbx,hd⟩:=h.obj 1 _ hob1
    have hbb:b'=b:=by
     have:E.hdr 1=.pointer (some ⟨b,0,none⟩):=hpin
     rw [this] at hb';cases hb';rfl
    subst hbb
    have hfree:=h.free 1 _ hob1 b' (by rw [hF];simp)
    have hcr:=rdC_rd h (Zr:=Z) (fun _ h=>h) false (by simp) B.s hcc hcco hd
    have hra2:=(retA_all h (Zr:=fun _=>True) (fun _ _=>trivial) hpd hpk hr' hro fun _ _ _ _ _ _=>trivial).2
    have hexa:∀ m∈1::r.2,∃ y,σ.obj m=some y:=fun m hm=>by
     rcases List.mem_cons.1 hm with rfl | hm
     ·exact ⟨_,hob1⟩
     ·exact hra2 m hm
    have hfn:=fps_nodup h hnd hexa
    rw [List.flatMap_cons,hF] at hfn
    have hfn':=List.nodup_append.1 hfn
    obtain ⟨hin,hon⟩:=outs_facts h B.dp (List.nodup_cons.1 hnd).2 hra2
    have hsub:∀ k∈outs E B.dp r.2,k∈r.2.flatMap E.fp:=fun k hk=>by
     obtain ⟨q,hq,hkq,_⟩:=hin k hk
     exact List.mem_flatMap.2 ⟨q,hq,hkq⟩
    have hFb:∀ k∈r.2.flatMap E.fp,w0.heap.size≤k∧k < w.heap.size∧¬ Z k:=fun k hk=>by
     obtain ⟨q,hq,hkq⟩:=List.mem_flatMap.1 hk
     obtain ⟨y',hy'⟩:=hra2 q hq
     have hf:=h.free q y' hy' k hkq
     refine ⟨?_,hf.1,hf.2.1⟩
     rcases hf.2.2 with h' | h'
     ·exact h'
     ·have e : k = b' := by simpa using h'
      exact absurd e.symm (hfn'.2.2 b' (by simp) k hk)
    have hZz:∀ k,Z k→Z0 k∨(w0.heap.size≤k∧k < w.heap.size∧k ∉ outs E B.dp r.2):=fun k hk=>by
     rcases h.znew k hk with h' | h' | h'
     ·exact .inl h'
     ·exact .inr ⟨h',h.zlt k hk,fun hm=>(hFb k (hsub k hm)).2.2 hk⟩
     ·have e : k = b' := by simpa using h'
      subst e;exact absurd hk hfree.2.1
    have hra:=retA_all h (Zr:=fun k=>Z0 k∨(w0.heap.size≤k∧k < w.heap.size∧k ∉ outs E B.dp r.2)) hZz hpd hpk hr' hro (fun hdp q hq k hk hnk=>by
     obtain ⟨yq,hyq⟩:=hra2 q hq
     have hb:=hFb k (List.mem_flatMap.2 ⟨q,hq,hk⟩)
     refine .inr ⟨hb.1,hb.2.1,fun hout=>?_⟩
     obtain ⟨q',hq',hbq',hbb⟩:=hin k hout
     by_cases e:q'=q
     ·subst e;exact hnk (hbb hdp)
     ·obtain ⟨y', hy'⟩ := hra2 q' hq'
      exact h.apart q' y' q yq hy' hyq e k hbq' hk)
    refine ⟨h.defers,_,hvs,vs,cells,outs E B.dp r.2,rfl,hbx,?_,?_,hon,fun k hk=>⟨(hFb k (hsub k hk)).1,(hFb k (hsub k hk)).2.1⟩,h.frame⟩
    ·rw [← hc]
     exact B.s.rd_keep hcr hZz (fun _ _=>rfl)
    ·rw [← hy]
     unfold BS.resO
     rw [hz,cond_false]
     exact hra.1
def NS.endM (P:Program) (B:NS) (rs:List ResultVar):RM B.s.D:=(resM P rs).bind fun
 | [.c (.ptr o k)] => bif k.beq 0 then .obj o fun
  | .bx t cs=>bif t.beq B.t then rdC false B.s cs else .fail
  | _=>.fail
  else .fail
 | _=>.fail
def endN (P:Program) (B:NS) (rs:List ResultVar) (σ:St):Option (B.s.D×List Prop):=((B.endM P rs).run σ).map fun y=>(y,(B.endM P rs).obl σ)
theorem at_returnN {fn:Func} {B:NS} {x:Dom B.dom} (y:B.s.D) (ps:List Prop) (h:At w0 Z0 [] N σ a w) (hr:endN P B fn.results.toList σ=some (y,ps)) (ho:AllP ps) (hy:y=B.g x):bodyPost P fn (B.Ret w0 Z0 x) .ret a w:=by
 obtain ⟨E,Z,h⟩:=h
 unfold endN at hr
 cases hm:(B.endM P fn.results.toList).run σ with
 | none=>rw [hm] at hr;cases hr
 | some z =>
  rw [hm] at hr
  simp only [Option.map_some,Option.some.injEq,Prod.mk.injEq] at hr
  obtain ⟨rfl,rfl⟩:=hr
  unfold NS.endM at hm ho
  obtain ⟨qs,hqs,_,hr1,ho1⟩:=bind_split hm ho
  obtain ⟨vs,hvs,hpd,hpk⟩:=results_run h hqs
  match qs,hpd,hr1,ho1 with
  | [.c (.ptr o k)], hpd, hr1, ho1 =>
   obtain ⟨hk,hr2,ho2⟩:=bif_split hr1 ho1
   have hk:=Nat.eq_of_beq_eq_true hk
   subst hk
   obtain ⟨ob1,hob1,hr4,ho4⟩:=obj_split hr2 ho2
   match ob1,hob1,hr4,ho4 with
   | .bx t cs, hob1, hr4, ho4 =>
    obtain ⟨ht,hr5,ho5⟩:=bif_split hr4 ho4
    have ht:=Nat.eq_of_beq_eq_true ht
    subst ht
    match vs,hpd with
    | [v], hpd =>
     obtain ⟨b,hbh,rfl⟩:=hpd.1
     obtain ⟨b',cells,hb',hF,hbx,hd⟩:=h.obj o _ hob1
     rw [hbh] at hb';cases hb'
     have hfree:=h.free o _ hob1 b (by rw [hF];simp)
     have hcr:=rdC_rd h (Zr:=Z) (fun _ h=>h) false (by simp) B.s hr5 ho5 hd
     refine ⟨h.defers,_,hvs,b,cells,rfl,hbx,?_,hfree.2.2.resolve_right (by simp),hfree.1,h.frame.below (Nat.le_refl _) (by simp)⟩
     rw [← hy]
     refine B.s.rd_keep hcr (fun k hk=>?_) (fun _ _=>rfl)
     rcases h.znew k hk with h' | h' | h'
     ·exact .inl h'
     ·exact .inr ⟨h',h.zlt k hk,fun e=>hfree.2.1 (e ▸ hk)⟩
     ·simp at h'
theorem at_enterN {f:FuncId} {fn:Func} {c:Code} {B:NS} (N:Nat) (σ:Dom B.dom→St) (hf:P.funcs[f]?=some fn) (hb:fn.body=some c) (hn:(Nat.ble B.dom.length N && N.beq fn.ntmps)=true) (hσ:∀ x,(inSt B.dom x).only (List.range B.dom.length) []=σ x)
  (h:∀ (w0:World) (Z0:Nat→Prop) (x:Dom B.dom) (a:Act) (w:World),B.pre x→lensD B.dom x→At w0 Z0 [] N (σ x) a w→c.wp P (bodyPost P fn (B.Ret w0 Z0 x)) a w):FnOK P f (nSum f B):=by
 refine nsum_ok ?_
 simp only [Bool.and_eq_true] at hn
 have hN:=Nat.eq_of_beq_eq_true hn.2
 have hn:=Nat.le_of_ble_eq_true hn.1
 intro w Z us x hZ hargs hpre
 refine calls_of_wp hf hb (h w Z x _ w hpre (argsRd_lens _ hargs) ?_)
 rw [← hσ]
 have hS:Stands w Z [] N [] (inSt B.dom x) { tmps:=us.toArray++Array.replicate (fn.ntmps - us.toArray.size) undef,defers:=[] } w:=by
  refine ⟨⟨fun _=>.bool false,fun _=>[]⟩,Z,?_⟩
  have hlen:=args_len _ hargs
  have hd:=args_den (E:=⟨fun _=>.bool false,fun _=>[]⟩) B.dom hargs
  have htm:∀ t,(inSt B.dom x).tmp t=match (frzP B.dom x)[t]? with | some p=>.p p | none=>.p (.c .un):=fun t=>by
   show (look (numA 0 _) t).getD _=_
   rw [look_num t _ 0 (Nat.zero_le _),Nat.sub_zero]
   cases (frzP B.dom x)[t]?<;>rfl
  refine ⟨rfl,?_,fun t=>?_,fun t i hi=>?_,?_,?_,?_,?_,?_,fun b hb=>.inl hb,hZ,SameBut.refl _ _,?_⟩
  ·simp only [Array.size_append,List.size_toArray,Array.size_replicate];omega
  ·rw [htm]
   cases hp:(frzP B.dom x)[t]? with
   | none=>trivial
   | some p =>
    obtain ⟨u,hu,hpd⟩:=pdens_at hd.1 hp
    have hlt:t < us.length:=by
     rcases Nat.lt_or_ge t us.length with h' | h'
     ·exact h'
     ·rw [List.getElem?_eq_none h'] at hu;cases hu
    have:(us.toArray++Array.replicate (fn.ntmps - us.toArray.size) undef).getD t undef=u:=by
     rw [Array.getD_eq_getD_getElem?,Array.getElem?_append_left (by simpa using hlt),List.getElem?_toArray,hu]
     rfl
    simp only
    rw [this]
    exact hpd
  ·rw [htm] at hi
   cases hp:(frzP B.dom x)[t]? with
   | none=>rw [hp] at hi;simp [AV.ids,PV.ids,CV.ids] at hi
   | some p =>
    rw [hp] at hi
    have:i∈(frzP B.dom x).flatMap PV.ids:=List.mem_flatMap.2 ⟨p,List.mem_of_getElem? hp,hi⟩
    rw [hd.2] at this;simp at this
  all_goals first
   | (intro o x o' x' ho;cases ho;done)
   | (intro o x ho;cases ho;done)
   | (intro i hi;simp at hi)
 exact hS.norm _ _
end
end Go.Proofs.Ytmcpigcpachdkaa
