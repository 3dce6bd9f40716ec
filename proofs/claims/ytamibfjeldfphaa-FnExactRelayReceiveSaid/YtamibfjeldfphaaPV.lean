/- Methods at the address of a row's element: the row is lent and given back. No program is named; no condition. -/
import Derived.Test.YtamibfjeldfphaaPU
namespace Go.Proofs.Ytamibfjeldfphaa
open Go.RowKit
set_option linter.unusedVariables false
set_option linter.unusedSimpArgs false
def elAct (n:Nat):Value→Value
 | .agg vs => match vs.toList with
  | [.slice (some a) _ _,.int _ j]=>.pointer (some ⟨a.block,j.toNat*n,none⟩)
  | _=>undef
 | _=>undef
def elActs (n:Nat):List Value→List Value
 | u::us=>elAct n u::us
 | []=>[]
def FnOKE (P:Program) (f:FuncId) (S:Sum) (n:Nat):Prop :=
 ∀ (w:World) (Z:Nat→Prop) (us:List Value) (x:Dom S.dom) (F:List Nat),(∀ b,Z b→b < w.heap.size)→argsIO w Z S.kinds S.dom us x F→F.Nodup→(∀ b∈F,b < w.heap.size∧¬ Z b)→S.pre x→Calls P f (elActs n us).toArray w (S.RetI w us x F)
def elPs (n:Nat):List PV→RM (List PV)
 | .c (.pe r j k m)::ps=>bif k.beq 0 && m.beq n then .ret (.ag [.sl r,.v (.int .i64 (j:Int))]::ps) else .fail
 | _=>.fail
def elCall (S:Sum) (n:Nat) (md:Md) (ps:List PV):RM Eff:=(elPs n ps).bind fun qs=>S.callG md qs
def elSum (f:Nat) (S:Sum) (n:Nat):Sum:={ fid:=f,dom:=[],cod:=[],dp:=true,pre:=fun _=>True,g:=fun _=>(),prim:=some (elCall S n) }
def elS (f:Nat) (t:TypeId) (s:Sh) (k:TypeId) (ks:List Kd) (l cod:List Sh) (pre:Dom (.pair (.sl t s) (.int k)::l)→Prop) (upd:Dom (.pair (.sl t s) (.int k)::l)→Dom (.pair (.sl t s) (.int k)::l)) (g:Dom (.pair (.sl t s) (.int k)::l)→Dom cod):Sum :=
 { fid:=f,dom:=.pair (.sl t s) (.int k)::l,cod:=cod,dp:=true,kinds:=.io::ks,upd:=upd,pre:=pre,g:=g }
section
variable {P:Program} {w0:World} {Z0:Nat→Prop} {L:List Nat} {N:Nat} {K:List Nat} {σ:St} {a:Act} {w:World} {E:Env} {Z:Nat→Prop}
theorem callE_ends (h:RelE w0 Z0 L N K σ a w E Z) {md:Md} {d:Option Nat} {f:FuncId} {S:Sum} {e:Eff} {ps:List PV} {us:List Value} {n:Nat} (hok:FnOKE P f S n) (hpd:pdens E Z w ps us) (hpi:∀ i∈ps.flatMap PV.ids,i∈K)
  (hids:∀ i∈md.ids,i ∉ K) (hndI:md.ids.Nodup) (hdst:∀ d',d=some d'→d' < N) (hr:(S.callG md ps).run σ=some e) (ho:AllP ((S.callG md ps).obl σ)):CallEnds P w0 Z0 L N (md.ids++K) σ a w d f (elActs n us) e:=by
 obtain ⟨x,hx,hxo,hr2,ho2⟩:=bind_split hr ho
 obtain ⟨hb,hr2,ho2⟩:=bif_split hr2 ho2
 obtain ⟨hpre,hr3,ho3⟩:=need_split hr2 ho2
 have e1:=ret_some hr3;subst e1
 obtain ⟨x,ids,rs⟩:=x
 simp only [Bool.and_eq_true] at hb
 have hnd:ids.Nodup:=nodupB_spec hb.1.1
 have hrs:∀ i∈rs,i ∉ ids:=fun i hi=>memN_not (by have:=List.all_eq_true.1 hb.1.2 i hi;simpa using this)
 have hcnt:cntB S.kinds S.dom+cntP S.cod≤md.ids.length:=Nat.le_of_ble_eq_true hb.2
 clear hr ho hr2 ho2
 -- what the callee may read: all but what is lent
 let Zr:Nat→Prop:=fun b=>b < w.heap.size∧b ∉ ids.flatMap E.fp
 have hex0:∀ m∈ids,∃ y,σ.obj m=some y:=(ioArgs_args h (Zr:=fun _=>True) (lent:=ids) (fun _ _=>trivial) (fun _ _ _ _ _ _=>trivial) hpd hpi hx hxo hrs).2
 have hZr:∀ b,Z b→Zr b:=fun b hb=>⟨h.zlt b hb,fun hm=>by
  obtain ⟨r,hr,hbr⟩:=List.mem_flatMap.1 hm
  obtain ⟨y,hy⟩:=hex0 r hr
  exact (h.free r y hy b hbr).2.1 hb⟩
 have hargs:=ioArgs_args h hZr (lent:=ids) (fun o x ho hx b hb=>⟨(h.free o x hx b hb).1,fun hm=>by
  obtain ⟨r,hr,hbr⟩:=List.mem_flatMap.1 hm
  obtain ⟨y,hy⟩:=hex0 r hr
  exact h.apart o x r y hx hy (fun e=>ho (e ▸ hr)) b hb hbr⟩) hpd hpi hx hxo hrs
 have hFn:(ids.flatMap E.fp).Nodup:=nodup_flat hnd (fun r hr=>by obtain ⟨y,hy⟩:=hex0 r hr;exact h.nodup r y hy) fun r hr r' hr' hne b hb hb'=>by
  obtain ⟨y,hy⟩:=hex0 r hr
  obtain ⟨y',hy'⟩:=hex0 r' hr'
  exact h.apart r y r' y' hy hy' hne b hb hb'
 have hF:∀ b∈ids.flatMap E.fp,b < w.heap.size∧¬ Z b∧(w0.heap.size≤b∨b∈L):=fun b hb=>by
  obtain ⟨r,hr,hb⟩:=List.mem_flatMap.1 hb
  obtain ⟨y,hy⟩:=hex0 r hr
  exact h.free r y hy b hb
 have hcall:=hok w Zr _ x _ (fun b hb=>hb.1) hargs.1 hFn (fun b hb=>⟨(hF b hb).1,fun hz=>hz.2 hb⟩) hpre
 refine hcall.mono ?_
 rintro e' w' ⟨vs,F1,F2,rfl,hout,hres,hFn',hF',hsame⟩
 refine ⟨_,rfl,?_⟩
 have h1:=h.lend hex0 hsame
 have hFn2:=List.nodup_append.1 hFn'
 have hfree:∀ b∈F1++F2,Free w0 L (σ.add (gone ids)) w' E Z b:=fun b hb=>by
  have hb':=hF' b hb
  have hz:¬ Z b:=fun hz=>by
   rcases hb'.2 with h' | h'
   ·have:=h.zlt b hz;omega
   ·exact (hF b h').2.1 hz
  refine ⟨hb'.1,hz,?_,fun o x ho hbo=>?_⟩
  ·rcases hb'.2 with h' | h'
   ·have:=h.frame.size;exact .inl (by omega)
   ·exact (hF b h').2.2
  ·have ho := add_gone ho
   rcases hb'.2 with h' | h'
   ·have:=(h.free o x ho.2 b hbo).1;omega
   ·obtain ⟨r, hr, hbr⟩ := List.mem_flatMap.1 h'
    obtain ⟨y,hy⟩:=hex0 r hr
    exact h.apart o x r y ho.2 hy (fun e=>ho.1 (e ▸ hr)) b hbo hbr
 obtain ⟨E2,K2,h2,j2,k2,e2,f2⟩:=back_all h (x:=S.upd x) (ids:=md.ids) h1 hpd hpi hx (fun _ _=>rfl) hout hFn2.1 (fun b hb=>hfree b (List.mem_append.2 (.inl hb))) hnd (fun r hr=>by
  obtain ⟨y,hy⟩:=hex0 r hr
  refine ⟨(h.oids r y hy).1,?_⟩
  cases hg:(σ.add (gone ids)).obj r with
  | none=>rfl
  | some z=>exact absurd hr (add_gone hg).1) hndI hids (by omega)
 have hnd2:(md.ids.drop (cntB S.kinds S.dom)).Nodup:=by have:=hndI;rw [← List.take_append_drop (cntB S.kinds S.dom) md.ids] at this;exact (List.nodup_append.1 this).2.1
 have hdis:∀ i∈md.ids.drop (cntB S.kinds S.dom),i ∉ md.ids.take (cntB S.kinds S.dom):=fun i hi1 hi2=>by have:=hndI;rw [← List.take_append_drop (cntB S.kinds S.dom) md.ids] at this;exact (List.nodup_append.1 this).2.2 i hi2 i hi1 rfl
 have fin:∀ (av:AV) (obs:List (Nat×Option Ob)) (E3:Env) (K3:List Nat),RelE w0 Z0 L N K3 (((σ.add (gone ids)).add (ioBacks S.kinds S.dom ps (S.upd x) md.ids).1).add obs) a w' E3 Z→av.den E3 Z w' (S.val us vs)→(∀ i∈av.ids,i∈K3)→(∀ i∈K3,i∈md.ids++K) →
   Post w0 Z0 L N (md.ids++K) σ a d ⟨av,obs++(ioBacks S.kinds S.dom ps (S.upd x) md.ids).1++gone ids⟩ (S.val us vs) w':=by
  intro av obs E3 K3 h3 hd hi hK
  obtain ⟨E4,Z4,hv⟩:=h3.val hdst hd hi []
  have e:σ.app d ⟨av,obs++(ioBacks S.kinds S.dom ps (S.upd x) md.ids).1++gone ids⟩=(((σ.add (gone ids)).add (ioBacks S.kinds S.dom ps (S.upd x) md.ids).1).add obs).app d ⟨av,[]⟩:=by
   rw [add_add,add_add]
   simp only [List.append_assoc]
   cases d<;>rfl
  rw [← e] at hv
  exact more_post hv (fun i hi=>hK i (by simpa using hi))
 have hK2:∀ i∈K2,i∈md.ids++K:=fun i hi=>by
  rcases (k2 i).1 hi with h' | h'
  ·exact List.mem_append.2 (.inl (List.mem_of_mem_take h'))
  ·exact List.mem_append.2 (.inr h')
 cases hali:S.ali with
 | some j =>
  have hre:S.resG ps (S.g x) (ioBacks S.kinds S.dom ps (S.upd x) md.ids).2=(.p (ps.getD j (.c .un)),[]):=by unfold Sum.resG;rw [hali]
  have hval:S.val us vs=us.getD j undef:=by unfold Sum.val;rw [hali]
  have hg:=pdens_get j hpd
  have:=fin (.p (ps.getD j (.c .un))) [] E2 K2 (by rw [add_nil];exact h2) (by
   rw [hval]
   exact PV.keep (K:=K) e2 (fun _ h=>h) (fun b hb=>hsame.2.2.2.2 b (h.zlt b hb) fun hm=>(hF b hm).2.1 hb) hg fun i hi=>hpi i (getD_ids hi)) (fun i hi=>(k2 i).2 (.inr (hpi i (getD_ids hi)))) hK2
  simpa [hre] using this
 | none =>
  have hre:S.resG ps (S.g x) (ioBacks S.kinds S.dom ps (S.upd x) md.ids).2=(tupA (resP true S.cod (S.g x) (md.ids.drop (cntB S.kinds S.dom))).1,(resP true S.cod (S.g x) (md.ids.drop (cntB S.kinds S.dom))).2):=by unfold Sum.resG;rw [hali,j2]
  have hval:S.val us vs=tupV vs:=by unfold Sum.val;rw [hali]
  obtain ⟨E3,K3,h3,d3,i3,k3,e3⟩:=adopt_all S.cod h2 (resAll_deep (Z2:=Z) _ (hres hali)) hFn2.2.1 (fun b hb=>f2 b (hfree b (List.mem_append.2 (.inr hb))) fun hm=>hFn2.2.2 b hm b hb rfl) hnd2 (fun i hi1 hi2=>by
   rcases (k2 i).1 hi2 with h' | h'
   ·exact hdis i hi1 h'
   ·exact hids i (List.mem_of_mem_drop hi1) h') (by rw [List.length_drop];omega)
  have:=fin (tupA (resP true S.cod (S.g x) (md.ids.drop (cntB S.kinds S.dom))).1) (resP true S.cod (S.g x) (md.ids.drop (cntB S.kinds S.dom))).2 E3 K3 h3 (by rw [hval];exact tup_den d3) (fun i hi=>i3 i (tup_ids _ i hi)) (fun i hi=>by
   rcases (k3 i).1 hi with h' | h'
   ·exact List.mem_append.2 (.inl (List.mem_of_mem_drop (List.mem_of_mem_take h')))
   ·exact hK2 i h')
  simpa [hre] using this
theorem el_ends {f:FuncId} {S:Sum} {n:Nat} (hok:FnOKE P f S n):PrimOK P f (elCall S n):=by
 intro w0 Z0 L N K σ a w E Z h md ps us e d hpd hpi hids hnd hdst hr ho
 unfold elCall at hr ho
 obtain ⟨qs,hq,hqo,hr1,ho1⟩:=bind_split hr ho
 unfold elPs at hq
 split at hq
 ·rename_i r j kk m ps
  obtain ⟨hb,hq1⟩:=bif_some hq
  simp only [Bool.and_eq_true] at hb
  have hk:=Nat.eq_of_beq_eq_true hb.1
  have hm:=Nat.eq_of_beq_eq_true hb.2
  subst hk
  subst hm
  have e1:=ret_some hq1
  subst e1
  cases us with
  | nil=>exact hpd.elim
  | cons u us =>
   obtain ⟨g,l,cap,hh,hu⟩:=hpd.1
   have hp2:pdens E Z w (.ag [.sl r,.v (.int .i64 (j:Int))]::ps) (.agg #[E.hdr r,.int .i64 (j:Int)]::us):=⟨⟨[E.hdr r,.int .i64 (j:Int)],rfl,rfl,rfl,trivial⟩,hpd.2⟩
   have:=callE_ends h hok hp2 (fun i hi=>hpi i (by
    rw [List.flatMap_cons] at hi ⊢
    rcases List.mem_append.1 hi with hi | hi
    ·refine List.mem_append.2 (.inl ?_)
     simpa [PV.ids,CV.ids] using hi
    ·exact List.mem_append.2 (.inr hi))) hids hnd hdst hr1 ho1
   have e:elActs m (.agg #[E.hdr r,.int .i64 (j:Int)]::us)=u::us:=by
    unfold elActs elAct
    rw [hh,hu]
    simp
   rw [e] at this;exact this
 ·cases hq
theorem elsum_ok {f:FuncId} {S:Sum} {n:Nat} (hok:FnOKE P f S n):FnOK P f (elSum f S n):=el_ends hok
def inE (t:TypeId) (s:Sh) (k:TypeId) (ks:List Kd) (l:List Sh) (hd:Nat→Value) (n i0:Nat) (ids gs:List Nat) (x:Dom (.pair (.sl t s) (.int k)::l)):St :=
 ⟨numA 0 (.c (.pe i0 x.1.2.toNat 0 n)::(inP ks l x.2 ids).1),pins (pinIds (.io::ks) (.pair (.sl t s) (.int k)::l) (i0::ids)) gs 0 hd++(inP (.io::ks) (.pair (.sl t s) (.int k)::l) x (i0::ids)).2⟩
theorem at_enterE {f:FuncId} {fn:Func} {c:Code} {t:TypeId} {s:Sh} {k:TypeId} {ks:List Kd} {l cod:List Sh} {pre:Dom (.pair (.sl t s) (.int k)::l)→Prop} {upd:Dom (.pair (.sl t s) (.int k)::l)→Dom (.pair (.sl t s) (.int k)::l)} {g:Dom (.pair (.sl t s) (.int k)::l)→Dom cod} (n:Nat)
  (hj:∀ x,pre x→0≤x.1.2∧x.1.2 < ((List.length (α:=s.D) x.1.1:Nat):Int)) (N i0:Nat) (ids gs:List Nat) (σ:List Value→Dom (.pair (.sl t s) (.int k)::l)→St) (hf:P.funcs[f]?=some fn) (hb:fn.body=some c)
  (hn:(Nat.ble (l.length+1) N && N.beq fn.ntmps && (i0::ids).length.beq (cntI (.io::ks) (.pair (.sl t s) (.int k)::l)) && nodupB (gs++(i0::ids)))=true)
  (hσ:∀ us x,(inE t s k ks l ((elS f t s k ks l cod pre upd g).hd us) n i0 ids gs x).only (List.range (l.length+1)) ((i0::ids)++gs)=σ us x)
  (h:∀ (w0:World) (Z0:Nat→Prop) (us:List Value) (x:Dom (.pair (.sl t s) (.int k)::l)) (L:List Nat) (a:Act) (w:World),argsIO w0 Z0 (.io::ks) (.pair (.sl t s) (.int k)::l) us x L→pre x→lensD (.pair (.sl t s) (.int k)::l) x→At w0 Z0 L N (σ us x) a w→c.wp P (bodyPost P fn ((elS f t s k ks l cod pre upd g).RetI w0 us x L)) a w) :
  FnOK P f (elSum f (elS f t s k ks l cod pre upd g) n):=by
 refine elsum_ok ?_
 simp only [Bool.and_eq_true] at hn
 obtain ⟨⟨⟨h1,h2⟩,h4⟩,h5⟩:=hn
 have hN:=Nat.eq_of_beq_eq_true h2
 have hlen:=Nat.le_of_ble_eq_true h1
 have hcnt:=Nat.eq_of_beq_eq_true h4
 have hnd:=List.nodup_append.1 (nodupB_spec h5)
 intro w Z us (x:Dom (.pair (.sl t s) (.int k)::l)) F hZ hio hFn hF hpre
 replace hio:argsIO w Z (.io::ks) (.pair (.sl t s) (.int k)::l) us x F:=hio
 refine calls_of_wp hf hb (h w Z us x F _ w hio hpre (argsIO_lens hio) ?_)
 rw [← hσ us x]
 have hul:=argsIO_len hio
 match us,hio,hul with
 | u::us,hio,hul =>
 have hacl:(elActs n (u::us)).length=l.length+1:=hul
 have r0:RelE w Z F N [] ⟨[],[]⟩ { tmps:=(elActs n (u::us)).toArray++Array.replicate (fn.ntmps - (elActs n (u::us)).toArray.size) undef,defers:=[] } w ⟨fun _=>.bool false,fun _=>[]⟩ Z:=by
  refine ⟨rfl,?_,fun t=>trivial,fun t i hi=>by simp [St.tmp,look,AV.ids,PV.ids,CV.ids] at hi,?_,?_,?_,?_,?_,fun b hb=>.inl hb,hZ,SameBut.refl _ _,?_⟩
  ·simp only [Array.size_append,List.size_toArray,Array.size_replicate];omega
  all_goals first
   | (intro o x o' x' ho;cases ho;done)
   | (intro o x ho;cases ho;done)
   | (intro i hi;simp at hi)
 obtain ⟨E1,K1,r1,d1,i1,k1,e1,l1,q1,f1⟩:=adopt_in r0 hio hFn (fun b hb=>⟨(hF b hb).1,(hF b hb).2,.inr hb,fun o x ho=>by cases ho⟩) hnd.2.1 (fun i _=>by simp) (by omega)
 obtain ⟨E2,K2,r2,k2,e2⟩:=adopt_pins (is:=pinIds (.io::ks) (.pair (.sl t s) (.int k)::l) (i0::ids)) (gs:=gs) (k:=0) (v:=(elS f t s k ks l cod pre upd g).hd (u::us)) r1 q1 hnd.1 (fun g hg hm=>by
  rcases (k1 g).1 hm with h' | h'
  ·exact hnd.2.2 g hg g (List.mem_of_mem_take h') rfl
  ·simp at h') (fun j hj=>by rw [Nat.zero_add];exact f1 j hj)
 have hd2:=d1.keep e2 (fun _ h=>h) (fun _ _=>rfl) i1
 -- the first argument: the address in place of row and index
 have hd3:pdens E2 Z w (.c (.pe i0 x.1.2.toNat 0 n)::(inP ks l x.2 ids).1) (elActs n (u::us)):=by
  refine ⟨?_,hd2.2⟩
  obtain ⟨vs,hv,hvd⟩:=hd2.1
  have hv2:vs=[E2.hdr i0,.int .i64 x.1.2]:=by
   match vs,hvd with
   | [a, b], hvd =>
    have ha:a=E2.hdr i0:=hvd.1
    have hb:b=.int .i64 x.1.2:=hvd.2.1
    rw [ha,hb]
  obtain ⟨G,H,_,⟨how,_⟩,_⟩:=hio
  obtain ⟨cc,dd,G1,H1,hcd,_,⟨v,ws,Fs,hc1,hrow,_,_⟩,hd1,_⟩:=how
  have hcells:u.cells.toList=[E2.hdr i0,.int .i64 x.1.2]:=by rw [hv,hv2];rfl
  rw [hcells,hc1,hd1] at hcd
  have hve:E2.hdr i0=v:=by simpa using (List.cons.inj hcd).1
  obtain ⟨A,cap,hA,_,_,hg⟩:=row_form hrow
  obtain ⟨hj1,hj2⟩:=hj x hpre
  have hlen0:0 < List.length (α:=s.D) x.1.1:=Int.ofNat_lt.1 (Int.lt_of_le_of_lt (a:=(0:Int)) hj1 hj2)
  obtain ⟨gg,rfl⟩:=hg hlen0
  refine ⟨gg,_,cap,hve.trans hA,?_⟩
  show elAct n u=_
  rw [hv,hv2,hve,hA]
  simp [elAct]
 have htm:∀ t',(inE t s k ks l ((elS f t s k ks l cod pre upd g).hd (u::us)) n i0 ids gs x).tmp t'=match (.c (.pe i0 x.1.2.toNat 0 n)::(inP ks l x.2 ids).1)[t']? with | some p=>.p p | none=>.p (.c .un):=fun t'=>by
  show (look (numA 0 _) t').getD _=_
  rw [look_num t' _ 0 (Nat.zero_le _),Nat.sub_zero]
  cases (PV.c (.pe i0 x.1.2.toNat 0 n)::(inP ks l x.2 ids).1)[t']?<;>rfl
 have hi3:∀ i∈(PV.c (.pe i0 x.1.2.toNat 0 n)::(inP ks l x.2 ids).1).flatMap PV.ids,i∈K1:=fun i hi=>by
  refine i1 i ?_
  rw [List.flatMap_cons] at hi
  show i∈(PV.ag [.sl i0,.v (.int .i64 x.1.2)]::(inP ks l x.2 ids).1).flatMap PV.ids
  rw [List.flatMap_cons]
  rcases List.mem_append.1 hi with hi | hi
  ·exact List.mem_append.2 (.inl (by simpa [PV.ids,CV.ids] using hi))
  ·exact List.mem_append.2 (.inr hi)
 have hS:Stands w Z F N K2 (inE t s k ks l ((elS f t s k ks l cod pre upd g).hd (u::us)) n i0 ids gs x) { tmps:=(elActs n (u::us)).toArray++Array.replicate (fn.ntmps - (elActs n (u::us)).toArray.size) undef,defers:=[] } w:=by
  have hob:∀ o,(inE t s k ks l ((elS f t s k ks l cod pre upd g).hd (u::us)) n i0 ids gs x).obj o=((({ tm:=[],ob:=[] }:St).add (inP (.io::ks) (.pair (.sl t s) (.int k)::l) x (i0::ids)).2).add (pins (pinIds (.io::ks) (.pair (.sl t s) (.int k)::l) (i0::ids)) gs 0 ((elS f t s k ks l cod pre upd g).hd (u::us)))).obj o:=fun o=>by
   rw [add_add];show (look (pins (pinIds (.io::ks) (.pair (.sl t s) (.int k)::l) (i0::ids)) gs 0 ((elS f t s k ks l cod pre upd g).hd (u::us))++(inP (.io::ks) (.pair (.sl t s) (.int k)::l) x (i0::ids)).2) o).getD none=(look ((pins (pinIds (.io::ks) (.pair (.sl t s) (.int k)::l) (i0::ids)) gs 0 ((elS f t s k ks l cod pre upd g).hd (u::us))++(inP (.io::ks) (.pair (.sl t s) (.int k)::l) x (i0::ids)).2)++[]) o).getD none
   rw [List.append_nil]
  refine ⟨E2,Z,r2.defers,r2.size,fun t=>?_,fun t i hi=>?_,fun o x ho=>r2.obj o x (by rw [← hob];exact ho),fun o x ho=>r2.oids o x (by rw [← hob];exact ho),fun o x ho=>r2.nodup o x (by rw [← hob];exact ho),
   fun o x o' x' ho ho'=>r2.apart o x o' x' (by rw [← hob];exact ho) (by rw [← hob];exact ho'),fun o x ho=>r2.free o x (by rw [← hob];exact ho),r2.znew,r2.zlt,r2.frame,r2.hone⟩
  ·rw [htm]
   cases hp:(PV.c (.pe i0 x.1.2.toNat 0 n)::(inP ks l x.2 ids).1)[t]? with
   | none=>trivial
   | some p =>
    obtain ⟨u',hu,hpd⟩:=pdens_at hd3 hp
    have hlt:t < (elActs n (u::us)).length:=by
     rcases Nat.lt_or_ge t (elActs n (u::us)).length with h' | h'
     ·exact h'
     ·rw [List.getElem?_eq_none h'] at hu;cases hu
    have:((elActs n (u::us)).toArray++Array.replicate (fn.ntmps - (elActs n (u::us)).toArray.size) undef).getD t undef=u':=by
     rw [Array.getD_eq_getD_getElem?,Array.getElem?_append_left (by simpa using hlt),List.getElem?_toArray,hu]
     rfl
    simp only
    rw [this]
    exact hpd
  ·rw [htm] at hi
   cases hp:(PV.c (.pe i0 x.1.2.toNat 0 n)::(inP ks l x.2 ids).1)[t]? with
   | none=>rw [hp] at hi;simp [AV.ids,PV.ids,CV.ids] at hi
   | some p =>
    rw [hp] at hi
    exact k2 i (hi3 i (List.mem_flatMap.2 ⟨p,List.mem_of_getElem? hp,hi⟩))
 exact hS.norm _ _
end
end Go.Proofs.Ytamibfjeldfphaa
