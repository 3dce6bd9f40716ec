/- One operation, whatever it is; a region's operations, in their order or in any. No program is named; no condition. -/
import Derived.Test.YtmcpigcpachdkaaPMA
import Derived.Test.YtmcpigcpachdkaaSeq
namespace Go.Proofs.Ytmcpigcpachdkaa
open Go.RowKit
set_option linter.unusedVariables false
set_option linter.unusedSimpArgs false
section
variable {P:Program} {w0:World} {Z0:Nat→Prop} {L:List Nat} {N:Nat} {K:List Nat} {σ:St} {a:Act} {w:World} {E:Env} {Z:Nat→Prop}
theorem val_ends (h:RelE w0 Z0 L N K σ a w E Z) {o:Oper} {e:Eff} (ids:List Nat) (hdst:∀ d',o.dst=some d'→d' < N) (hv:∃ v,(execOp a.eval o).run P w=.ok (.value v) w∧e.res.den E Z w v∧(∀ i∈e.res.ids,i∈K)∧e.obs=[]):Ends P w0 Z0 L N (ids++K) σ a w o e:=by
 obtain ⟨v,h1,h2,h3,h4⟩:=hv
 intro Q
 refine wp_of_value h1 ?_
 obtain ⟨res,obs⟩:=e
 simp only at h2 h3 h4
 subst h4
 exact h.val hdst h2 h3 ids
theorem evalArgs_pd (h:RelE w0 Z0 L N K σ a w E Z):∀ {xs:List Operand} {ps:List PV},(evalArgs xs).run σ=some ps→pdens E Z w ps (xs.map a.eval)∧∀ i∈ps.flatMap PV.ids,i∈K
 | [],ps,hr=>by have e1:=ret_some hr;subst e1;exact ⟨trivial,by simp⟩
 | x :: xs, ps, hr => by
  obtain ⟨c,hc,hr1⟩:=RM.run_bind hr
  obtain ⟨r,hr',hr2⟩:=RM.run_bind hr1
  have e1:=ret_some hr2;subst e1
  have h1:=evalP_den h hc
  have h2:=evalArgs_pd h hr'
  refine ⟨⟨h1.1,h2.1⟩,fun i hi=>?_⟩
  rw [List.flatMap_cons] at hi
  rcases List.mem_append.1 hi with hi | hi
  ·exact h1.2 i hi
  ·exact h2.2 i hi
theorem pdens_app {E:Env}:∀ {ps:List PV} {us:List Value} {cs:List CV} {vs:List Value},pdens E Z w ps us→dens E Z w cs vs→pdens E Z w (ps++cs.map .c) (us++vs)
 | [],[],[],[],_,_=>trivial
 | [],[],_::_,_::_,_,h=>⟨h.1,pdens_app (ps:=[]) (us:=[]) trivial h.2⟩
 | _::_,_::_,_,_,h,k=>⟨h.1,pdens_app h.2 k⟩
theorem caps_ids (l:List CV):(l.map PV.c).flatMap PV.ids=l.flatMap CV.ids:=by
 induction l with
 | nil=>rfl
 | cons c l ih=>simp only [List.map_cons,List.flatMap_cons,ih];rfl
theorem callM_ends (h:RelE w0 Z0 L N K σ a w E Z) {T:List (Nat×Sum)} (hT:TabOK P w0 L T) {md:Md} {d:Option Nat} {f:FuncId} {e:Eff} {ps:List PV} {us:List Value} (hpd:pdens E Z w ps us) (hpi:∀ i∈ps.flatMap PV.ids,i∈K)
  (hids:∀ i∈md.ids,i ∉ K) (hnd:md.ids.Nodup) (hdst:∀ d',d=some d'→d' < N) (hr:(callM P T md f ps).run σ=some e) (ho:AllP ((callM P T md f ps).obl σ)):bodied P f=true∧CallEnds P w0 Z0 L N (md.ids++K) σ a w d f us e:=by
 unfold callM at hr ho
 obtain ⟨hb,hr1,ho1⟩:=bif_split hr ho
 obtain ⟨S,hS,_,hr2,ho2⟩:=bind_split hr1 ho1
 obtain ⟨hf,hr3,ho3⟩:=bif_split hr2 ho2
 have hf:=Nat.eq_of_beq_eq_true hf
 subst hf
 refine ⟨hb,?_⟩
 have hok:=hT _ S (orFail_run hS)
 unfold FnOKw at hok
 cases hp:S.prim with
 | some r =>
  rw [hp] at hok hr3 ho3
  exact hok h hpd hpi hids hnd hdst hr3 ho3
 | none =>
  rw [hp] at hok hr3 ho3
  simp only at hok hr3 ho3
  cases hkd:S.kinds.isEmpty with
  | true=>rw [hkd,cond_true] at hr3 ho3 hok;exact call_ends h hok hpd hids hnd hdst hr3 ho3
  | false=>rw [hkd,cond_false] at hr3 ho3 hok;exact callG_ends h hok hpd hpi hids hnd hdst hr3 ho3
theorem opM_ends (h:RelE w0 Z0 L N K σ a w E Z) {Γ:Gam} (hΓ:GamOK P Γ) {T:List (Nat×Sum)} (hT:TabOK P w0 L T) {o:Oper} {md:Md} {e:Eff} (hids:∀ i∈md.ids,i ∉ K) (hnd:md.ids.Nodup) (hdst:∀ d',o.dst=some d'→d' < N)
  (hr:(opM P Γ T md o).run σ=some e) (ho:AllP ((opM P Γ T md o).obl σ)):Ends P w0 Z0 L N (md.ids++K) σ a w o e:=by
 unfold opM at hr ho
 have pure1:∀ (hs:∀ cs b,o.op≠.select cs b),((pureM P o).bind fun v=>(RM.ret ⟨v,[]⟩:RM Eff)).run σ=some e→Ends P w0 Z0 L N (md.ids++K) σ a w o e:=fun hs hr=>by
  obtain ⟨v,hv,hr1⟩:=RM.run_bind hr
  have e1:=ret_some hr1;subst e1
  obtain ⟨u,k1,k2,k3⟩:=pureM_den (P:=P) h hs hv
  exact val_ends h _ hdst ⟨u,k1,k2,k3,rfl⟩
 cases hop:o.op<;>simp only [hop] at hr ho<;>first | cases hr;done | skip
 case move x =>
  obtain ⟨v,hv,hr1⟩:=RM.run_bind hr
  have e1:=ret_some hr1;subst e1
  have:=evalO_den h hv
  exact val_ends h _ hdst ⟨a.eval x,by simp [execOp,hop],this.1,this.2,rfl⟩
 case assign x =>
  obtain ⟨v,hv,hr1⟩:=RM.run_bind hr
  have e1:=ret_some hr1;subst e1
  have:=evalO_den h hv
  exact val_ends h _ hdst ⟨a.eval x,by simp [execOp,hop],this.1,this.2,rfl⟩
 case pick c x y =>
  obtain ⟨d,hd,hr1⟩:=RM.run_bind hr
  have hdd:=evalC_den h hd
  match d,hr1,hdd with
  | .v (.bool t), hr1, hdd =>
   obtain ⟨v,hv,hr2⟩:=RM.run_bind hr1
   have e1:=ret_some hr2;subst e1
   have:=evalO_den h hv
   refine val_ends h _ hdst ⟨a.eval (bif t then x else y),?_,this.1,this.2,rfl⟩
   cases t<;>simp [execOp,hop,show a.eval c=_ from hdd.1,asBool]
 case alloc t=>exact allocM_ends h hop hids hdst hr ho
 case box t x=>exact boxM_ends h hop hids hdst hr ho
 case build t parts =>
  obtain ⟨v,k1,k2,k3,k4⟩:=buildM_den (P:=P) h hr ho
  exact val_ends h _ hdst ⟨v,by simp [execOp,hop,k1],k2,k3,k4⟩
 case buildSlice t len parts=>exact buildSliceM_ends h hΓ hop hids hdst hr ho
 case load t x =>
  obtain ⟨v,k1,k2,k3,k4⟩:=loadM_den (P:=P) h hr ho
  exact val_ends h _ hdst ⟨v,by simp [execOp,hop,k1],k2,k3,k4⟩
 case store t x v=>exact storeM_ends h hop hdst hr ho
 case makeMap t r =>
  cases r with
  | none=>exact makeMapM_ends h hop hids hdst hr ho
  | some r=>cases hr
 case lookup t m k ok=>exact val_ends h _ hdst (lookupM_den h hop hr)
 case mapUpdate t m k v=>exact mapUpdM_ends h (.inl hop) hdst hr ho
 case insert t m k v=>exact mapUpdM_ends h (.inr hop) hdst hr ho
 case binOp bo t x y t' =>
  cases bo
  case eql=>exact val_ends h _ hdst (nilM_den h hop hr)
  case neq =>
   replace hr:(match P.underlying t with
    | some (.struct _)=>structEqM P true t x y
    | _=>(pureM P o).bind fun v=>RM.ret ⟨v,[]⟩).run σ=some e:=hr
   split at hr
   ·exact val_ends h _ hdst (structEqM_den (neg:=true) h hop hr)
   ·exact pure1 (by intro cs b;rw [hop];simp) hr
  case add=>exact val_ends h _ hdst (arithM_den h hop hr ho)
  case sub=>exact val_ends h _ hdst (arithM_den h hop hr ho)
  case mul=>exact val_ends h _ hdst (arithM_den h hop hr ho)
  case quo =>
   replace hr:(bif md.nw then arithM P o md .quo x y else divM .quo x y).run σ=some e:=hr
   replace ho:AllP ((bif md.nw then arithM P o md .quo x y else divM .quo x y).obl σ):=ho
   cases hnw:md.nw with
   | true=>rw [hnw,cond_true] at hr ho;exact val_ends h _ hdst (arithM_den h hop hr ho)
   | false=>rw [hnw,cond_false] at hr ho;exact val_ends h _ hdst (divM_den h hop hr ho)
  case rem=>exact val_ends h _ hdst (divM_den h hop hr ho)
  case shl=>exact val_ends h _ hdst (shiftM_den h hop hr ho)
  case shr=>exact val_ends h _ hdst (shiftM_den h hop hr ho)
  all_goals exact pure1 (by intro cs b;rw [hop];simp) hr
 case unOp=>exact pure1 (by intro cs b;rw [hop];simp) hr
 case convert=>exact pure1 (by intro cs b;rw [hop];simp) hr
 case makeFunc fn first caps =>
  cases fn<;>simp only at hr ho<;>first | cases hr;done | skip
  rename_i f
  obtain ⟨hb,hr1⟩:=bif_some hr
  obtain ⟨c,hc,hr2⟩:=RM.run_bind hr1
  have e1:=ret_some hr2;subst e1
  have:=capsM_den h hc
  have hf:first=#[]:=by simpa using hb
  refine val_ends h _ hdst ⟨.func (.func f) #[] (caps.toList.map a.eval).toArray,?_,⟨_,rfl,this.1⟩,this.2,rfl⟩
  simp [execOp,hop,Instr.makeFunc,hf]
  apply Array.ext';simp
 case makeSlice t l c=>exact makeSliceM_ends h hΓ hop hids hdst hr ho
 case slice t x lo hi mx =>
  cases mx with
  | some mx =>
   cases lo with
   | some _=>cases hr
   | none =>
    cases hi with
    | none=>cases hr
    | some hi=>exact clipM_ends h hop hids hdst hr ho
  | none=>exact sliceM_ends h hop hids hdst hr ho
 case fieldAddr s x f =>
  obtain ⟨v,k1,k2,k3,k4⟩:=fieldAddrM_den (P:=P) h hr
  exact val_ends h _ hdst ⟨v,by simp [execOp,hop,k1],k2,k3,k4⟩
 case nilCheck x =>
  obtain ⟨p,k1,k2,k3,k4⟩:=nilCheckM_den h hr
  exact val_ends h _ hdst ⟨_,by simp [execOp,hop,k1],k2,k3,k4⟩
 case field s x f =>
  obtain ⟨v,k1,k2,k3,k4⟩:=fieldM_den (P:=P) h hr
  exact val_ends h _ hdst ⟨v,by simp [execOp,hop,k1],k2,k3,k4⟩
 case indexAddr t x i =>
  obtain ⟨v,k1,k2,k3,k4⟩:=indexAddrM_den (P:=P) h hr ho
  exact val_ends h _ hdst ⟨v,by simp [execOp,hop,k1],k2,k3,k4⟩
 case extract x i =>
  obtain ⟨v,k1,k2,k3,k4⟩:=extractM_den (P:=P) h hr
  exact val_ends h _ hdst ⟨v,by simp [execOp,hop,k1],k2,k3,k4⟩
 case call c =>
  obtain ⟨callee,args,ats⟩:=c
  cases callee with
  | invoke r m=>cases hr
  | value f =>
   simp only at hr ho
   obtain ⟨v,hv,_,hr1,ho1⟩:=bind_split hr ho
   have hvd:=evalC_den h hv
   match v,hr1,ho1,hvd with
   | .cl f' cc, hr1, ho1, hvd =>
    obtain ⟨hli,hr2,ho2⟩:=bif_split hr1 ho1
    obtain ⟨ps,hps,_,hr3,ho3⟩:=bind_split hr2 ho2
    obtain ⟨vs,hv',hl⟩:=hvd.1
    have hpd:=evalArgs_pd h hps
    have hq:=pdens_app hpd.1 (denL_list hl).2
    have hqi:∀ i∈(ps++cc.list.map PV.c).flatMap PV.ids,i∈K:=fun i hi=>by
     rw [List.flatMap_append] at hi
     rcases List.mem_append.1 hi with hi | hi
     ·exact hpd.2 i hi
     ·rw [caps_ids,list_ids cc hli] at hi;exact hvd.2 i hi
    obtain ⟨hbody,hcall⟩:=callM_ends h hT hq hqi hids hnd hdst hr3 ho3
    have hexec:(execOp a.eval o).run P w=.ok (.enter f' (args.toList.map a.eval++vs).toArray) w:=by
     unfold bodied at hbody
     split at hbody
     ·rename_i fn hfn
      simp only [Bool.and_eq_true,Bool.not_eq_true',beq_eq_false_iff_ne] at hbody
      have h1 : fn.name ≠ "runtime.NumGoroutine" := by simpa using hbody.1
      have h2:fn.body≠none:=fun e=>by rw [e] at hbody;simp at hbody
      simp [execOp,hop,resolve,hv',Deferred.ofValue,invoke,callFunc,hfn,h1,h2]
     ·cases hbody
    intro Q
    unfold Oper.wp
    rw [hexec]
    show Calls P f' _ w _
    refine Calls.mono hcall ?_
    rintro e' w' ⟨v,rfl,hp⟩
    exact ⟨v,rfl,hp⟩
  | builtin b =>
   cases b<;>simp only at hr ho<;>first | cases hr;done | skip
   case append =>
    split at hr
    ·rename_i x y t t' ha ht
     simp only [ha,ht] at ho
     have ha':args=#[x,y]:=by apply Array.ext';rw [ha]
     have ht':ats=#[t,t']:=by apply Array.ext';rw [ht]
     cases hb:t.beq t' with
     | true =>
      rw [hb,cond_true] at hr ho
      have hb:=Nat.eq_of_beq_eq_true hb
      subst hb
      subst ha' ht'
      exact appendM_ends h hΓ hop hids hdst hr ho
     | false =>
      rw [hb,cond_false] at hr ho
      subst ha' ht'
      exact appendZM_ends h hΓ hop hids hdst hr ho
    ·cases hr
   case cap=>exact pure1 (by intro cs b;rw [hop];simp) hr
   case len =>
    split at hr
    ·rename_i x t ha ht
     have ha':args=#[x]:=by apply Array.ext';rw [ha]
     have ht':ats=#[t]:=by apply Array.ext';rw [ht]
     subst ha' ht'
     exact val_ends h _ hdst (lenM_den h hop hr)
    ·cases hr
   case min=>exact pure1 (by intro cs b;rw [hop];simp) hr
   case max=>exact pure1 (by intro cs b;rw [hop];simp) hr
def guardM (ops:Array Oper) (o:Oper):RM Bool:=match o.guard with
 | none=>.ret true
 | some (j, want) => match (ops[j]?).bind (·.dst) with
  | none=>.fail
  | some d => .tmp d fun
   | .p (.c (.v (.bool b)))=>.ret (b==want)
   | .p (.c (.v (.tuple _)))=>.ret false
   | _=>.fail
def stepM (P:Program) (Γ:Gam) (T:List (Nat×Sum)) (ops:Array Oper) (md:Md) (o:Oper):RM Eff :=
 (guardM ops o).bind fun g => bif g then (opM P Γ T md o).bind fun e => match md.hint with
  | none=>.ret (bif md.frz then frzE e else e)
  | some h=>.need (e.res=h) (.ret (bif md.frz then frzE ⟨h,e.obs⟩ else ⟨h,e.obs⟩))
 else .ret ⟨.p (.c (.v undef)),[]⟩
theorem guardM_wanted (h:RelE w0 Z0 L N K σ a w E Z) {ops:Array Oper} {o:Oper} {g:Bool} (hr:(guardM ops o).run σ=some g) (hN:∀ (j d:Nat),(ops[j]?).bind (·.dst)=some d→d < N):Region.wanted o (yielded ops a.tmps)=g:=by
 unfold guardM at hr
 unfold Region.wanted
 split at hr
 ·rename_i hg;rw [hg];exact (ret_some hr).symm
 ·rename_i j want hg
  rw [hg]
  simp only
  split at hr
  ·cases hr
  ·rename_i d hd
   have hdN:=hN j d hd
   have ht:=h.tmp d
   simp only [RM.run] at hr
   generalize σ.tmp d=av at *
   match av,hr,ht with
   | .p (.c (.v (.bool b))), hr, ht =>
    have e1:=ret_some hr;subst e1
    have hd2:d < a.tmps.size:=by rw [h.size];exact hdN
    have hv:a.tmps[d]?=some (.bool b):=by
     have:a.tmps.getD d undef=.bool b:=ht
     rw [Array.getD_eq_getD_getElem?] at this
     rw [Array.getElem?_eq_getElem hd2] at this ⊢
     simpa using this
    have:yielded ops a.tmps j=some b:=by
     unfold yielded
     rw [hd]
     simp [hv]
    rw [this]
    cases b<;>cases want<;>rfl
   | .p (.c (.v (.tuple vs))), hr, ht =>
    have e1:=ret_some hr;subst e1
    have hd2:d < a.tmps.size:=by rw [h.size];exact hdN
    have hv:a.tmps[d]?=some (.tuple vs):=by
     have:a.tmps.getD d undef=.tuple vs:=ht
     rw [Array.getD_eq_getD_getElem?] at this
     rw [Array.getElem?_eq_getElem hd2] at this ⊢
     simpa using this
    have:yielded ops a.tmps j=none:=by
     unfold yielded
     rw [hd]
     simp [hv]
    rw [this]
    cases want<;>rfl
theorem Post.frz {K':List Nat} {d:Option Nat} {e:Eff} {v:Value} {w':World} (hdst:∀ d',d=some d'→d' < N) (hN:a.tmps.size=N) (h:Post w0 Z0 L N K' σ a d e v w'):Post w0 Z0 L N K' σ a d (frzE e) v w':=by
 unfold frzE
 split
 ·rename_i r hres
  split
  ·rename_i dp s xs hl
   obtain ⟨E',Z',h⟩:=h
   have hob:(σ.app d e).obj r=some (.row dp s xs):=by rw [app_obj,hl]
   have hden:=h.obj r _ hob
   obtain ⟨vs,Fs,h1,h2,h3⟩:=hden
   let Z2:Nat→Prop:=fun b=>Z' b∨b∈E'.fp r
   have hobj:∀ o x,(σ.app d ⟨.p (.c (.ro s xs)),(r,none)::e.obs⟩).obj o=some x→o≠r∧(σ.app d e).obj o=some x:=fun o x hx=>by
    rw [app_obj] at hx
    by_cases eo:r=o
    ·subst eo;simp only [look,Nat.beq_refl,cond_true] at hx;cases hx
    ·simp only [look, beq_ne eo, cond_false] at hx
     exact ⟨Ne.symm eo,by rw [app_obj];exact hx⟩
   refine ⟨E',Z2,h.step (M:=fun o=>o=r) rfl rfl rfl (Nat.le_refl _) (fun _ _ _=>rfl) (fun i hi=>hi) (fun i hi=>.inl hi) (fun i hi=>rfl) (fun _ _ _ _=>rfl) (fun b hb=>.inl hb)
    (fun b hb => by
     rcases hb with hb | hb
     ·exact .inl hb
     ·exact .inr ⟨(h.free r _ hob b hb).1,.inr ⟨r,_,hob,rfl,hb⟩⟩)
    (fun o x hx=>.inl (hobj o x hx)) (fun o x o' x' hx _ _ hc=>absurd (hobj o x hx) hc) h.defers h.size (fun t=>?_)⟩
   rw [app_tmp,app_tmp]
   by_cases ht:d=some t
   ·right
    rw [if_pos ht]
    refine ⟨?_,by simp [AV.ids,PV.ids,CV.ids]⟩
    have hv:=h.tmp t
    rw [app_tmp,if_pos ht,hres] at hv
    have hv:(a.put d v).tmps.getD t undef=E'.hdr r:=hv
    rw [hv]
    show (Sh.sl 0 s).rd w' Z2 [E'.hdr r] xs
    exact rd_of_row (t:=0) h1 (h2.rd (fun b hb=>.inl hb) fun b hb=>.inr (by rw [h3];exact List.mem_append.2 (.inr hb))) fun b hb=>.inr (by rw [h3];exact List.mem_append.2 (.inl hb))
   ·left;rw [if_neg ht,if_neg ht];exact ⟨rfl,rfl⟩
  ·exact h
 ·exact h
theorem stepM_ends (h:RelE w0 Z0 L N K σ a w E Z) {Γ:Gam} (hΓ:GamOK P Γ) {T:List (Nat×Sum)} (hT:TabOK P w0 L T) {ops:Array Oper} {i:Nat} {o:Oper} (hi:ops[i]?=some o) {md:Md} {e:Eff} (hids:∀ i∈md.ids,i ∉ K) (hnd:md.ids.Nodup) (hN:∀ (j d:Nat),(ops[j]?).bind (·.dst)=some d→d < N)
  (hr:(stepM P Γ T ops md o).run σ=some e) (ho:AllP ((stepM P Γ T ops md o).obl σ)) (Q:Exit→Act→World→Prop):wpOp P ops Q i (fun a' w'=>∃ v,a'=a.put o.dst v∧Post w0 Z0 L N (md.ids++K) σ a o.dst e v w') a w:=by
 have hdst:∀ d',o.dst=some d'→d' < N:=fun d' hd=>hN i d' (by rw [hi];exact hd)
 obtain ⟨g,hg,_,hr1,ho1⟩:=bind_split hr ho
 have hw:=guardM_wanted h hg hN
 unfold wpOp
 simp only [hi,hw]
 cases g with
 | false =>
  have e1:=ret_some hr1;subst e1
  simp only [Bool.false_eq_true,if_false]
  exact ⟨undef,rfl,h.val (av:=.p (.c (.v undef))) hdst (show undef=undef from rfl) (by simp [AV.ids,PV.ids,CV.ids]) _⟩
 | true =>
  simp only [if_true]
  left
  rw [cond_true] at hr1 ho1
  obtain ⟨e',he,heo,hr2,ho2⟩:=bind_split hr1 ho1
  have hE:=opM_ends h hΓ hT hids hnd hdst he heo
  have fin:∀ e',Ends P w0 Z0 L N (md.ids++K) σ a w o e'→o.wp P a w (fun a' w'=>∃ v,a'=a.put o.dst v∧Post w0 Z0 L N (md.ids++K) σ a o.dst (bif md.frz then frzE e' else e') v w') Q:=fun e' hE=>by
   cases md.frz with
   | false=>exact hE Q
   | true =>
    refine Oper.wp_mono ?_ (hE Q)
    rintro a' w' ⟨v,rfl,hp⟩
    exact ⟨v,rfl,hp.frz hdst h.size⟩
  split at hr2
  ·have e1:=ret_some hr2;subst e1;exact fin _ hE
  ·rename_i hh hhint
   simp only [hhint] at ho2
   obtain ⟨heq,hr3,_⟩:=need_split hr2 ho2
   have e1:=ret_some hr3;subst e1
   subst heq
   exact fin _ hE
end
def runL (P:Program) (Γ:Gam) (T:List (Nat×Sum)) (ops:Array Oper):List Oper→List Md→St→Option (St×List Prop)
 | [],_,σ=>some (σ,[])
 | o :: l, mds, σ => match (stepM P Γ T ops (mds.headD {}) o).run σ with
  | some e => match runL P Γ T ops l mds.tail (σ.app o.dst e) with
   | some (σ',ps)=>some (σ',(stepM P Γ T ops (mds.headD {}) o).obl σ++ps)
   | none=>none
  | none=>none
def namesOf:List Md→List Nat
 | []=>[]
 | m::l=>m.ids++namesOf l
def dstsB (N:Nat) (ops:List Oper):Bool:=ops.all fun o=>match o.dst with
 | some d=>Nat.blt d N
 | none=>true
theorem dstsB_spec {N:Nat} {ops:List Oper} (h:dstsB N ops=true):∀ (j d:Nat),(ops.toArray[j]?).bind (·.dst)=some d→d < N:=by
 intro j d hd
 rw [List.getElem?_toArray] at hd
 cases ho:ops[j]? with
 | none=>rw [ho] at hd;cases hd
 | some o =>
  rw [ho] at hd
  have:=List.all_eq_true.1 h o (List.mem_of_getElem? ho)
  simp only [Option.bind_some] at hd
  rw [hd] at this
  simpa [Nat.blt_eq] using this
section
variable {P:Program} {w0:World} {Z0:Nat→Prop} {L:List Nat} {N:Nat}
theorem wpOps_runL {Γ:Gam} (hΓ:GamOK P Γ) {T:List (Nat×Sum)} (hT:TabOK P w0 L T) {ops:List Oper} (hN:∀ (j d:Nat),(ops.toArray[j]?).bind (·.dst)=some d→d < N) {Q:Exit→Act→World→Prop} {σ':St} :
  ∀ (l:List Oper) (k:Nat) (mds:List Md) (K:List Nat) (σ:St) (a:Act) (w:World) (ps:List Prop),(∀ j,l[j]?=ops[k+j]?)→(∃ E Z,RelE w0 Z0 L N K σ a w E Z)→(namesOf mds).Nodup→(∀ i∈namesOf mds,i ∉ K) →
   runL P Γ T ops.toArray l mds σ=some (σ',ps)→AllP ps→(∀ a' w',(∃ E Z,RelE w0 Z0 L N (namesOf mds++K) σ' a' w' E Z)→Q .normal a' w')→wpOps P ops.toArray Q ((List.range l.length).map (k+·)) a w
 | [], k, mds, K, σ, a, w, ps, _, hR, _, _, hr, _, hQ => by
  simp only [runL,Option.some.injEq,Prod.mk.injEq] at hr
  obtain ⟨rfl,_⟩:=hr
  obtain ⟨E,Z,hR⟩:=hR
  exact hQ a w ⟨_,_,hR.more _⟩
 | o :: l, k, mds, K, σ, a, w, ps, hl, hR, hnd, hfr, hr, hps, hQ => by
  obtain ⟨E,Z,hR⟩:=hR
  have h0:ops.toArray[k]?=some o:=by rw [List.getElem?_toArray];simpa using (hl 0).symm
  simp only [runL] at hr
  split at hr
  ·rename_i e he
   split at hr
   ·rename_i σ1 ps1 hr1
    simp only [Option.some.injEq,Prod.mk.injEq] at hr
    obtain ⟨rfl,rfl⟩:=hr
    obtain ⟨hp1,hp2⟩:=AllP.append hps
    have hnames:namesOf mds=(mds.headD {}).ids++namesOf mds.tail:=by cases mds<;>rfl
    rw [hnames] at hnd hfr hQ
    have hnd':=List.nodup_append.1 hnd
    have hst:=stepM_ends hR hΓ hT h0 (md:=mds.headD {}) (fun i hi=>hfr i (List.mem_append.2 (.inl hi))) hnd'.1 hN he hp1 Q
    have:(List.range (o::l).length).map (k+·)=k::(List.range l.length).map (k+1+·):=by
     rw [List.length_cons,List.range_succ_eq_map,List.map_cons,List.map_map]
     simp only [Nat.add_zero,List.cons.injEq,true_and]
     apply List.map_congr_left
     intro j _
     simp [Nat.add_assoc,Nat.add_comm 1 j]
    rw [this,wpOps_cons]
    refine wpOp_mono ?_ hst
    rintro a' w' ⟨v,rfl,E',Z',hR'⟩
    refine wpOps_runL hΓ hT hN l (k+1) mds.tail ((mds.headD {}).ids++K) _ _ _ _ (fun j=>by have:=hl (j+1);simpa [Nat.add_assoc,Nat.add_comm 1 j] using this) ⟨E',Z',hR'⟩ hnd'.2.1 (fun i hi hk=>?_) hr1 hp2 (fun a' w' h'=>hQ a' w' ?_)
    ·rcases List.mem_append.1 hk with hk | hk
     ·exact hnd'.2.2 i hk i hi rfl
     ·exact hfr i (List.mem_append.2 (.inr hi)) hk
    ·obtain ⟨E2, Z2, h2⟩ := h'
     have:RelE w0 Z0 L N (namesOf mds.tail++((mds.headD {}).ids++K)) σ1 a' w' E2 Z2:=h2
     exact more_post this (fun i hi=>by
      rcases List.mem_append.1 hi with hi | hi
      ·exact List.mem_append.2 (.inl (List.mem_append.2 (.inr hi)))
      ·rcases List.mem_append.1 hi with hi | hi
       ·exact List.mem_append.2 (.inl (List.mem_append.2 (.inl hi)))
       ·exact List.mem_append.2 (.inr hi))
   ·cases hr
  ·cases hr
end
end Go.Proofs.Ytmcpigcpachdkaa
