/- Walking a function: entry and end; rows frozen, renamed, made of nothing between regions. No program is named; no condition. -/
import Derived.Test.YtmcpigcpachdkaaPN
import Derived.Laws.Sem
namespace Go.Proofs.Ytmcpigcpachdkaa
open Go.RowKit
set_option linter.unusedVariables false
set_option linter.unusedSimpArgs false
def Sh.lens:(s:Sh)→s.D→Prop
 | .pair a b,x=>a.lens x.1∧b.lens x.2
 | .st _ a,x=>a.lens x
 | .sl _ a,xs=>List.length (α:=a.D) xs≤9223372036854775807∧∀ x:a.D,List.Mem x xs→a.lens x
 | .u8 _,n=>(0:Int)≤n∧n < (256:Int)
 | .fn _ a,x=>a.lens x
 | .pt a,x=>a.lens x
 | _,_=>True
def lensD:(l:List Sh)→Dom l→Prop
 | [],_=>True
 | s::l,x=>s.lens x.1∧lensD l x.2
theorem Rd2.mem {α:Type} {R:List Value→α→Prop}:∀ {vs:List (List Value)} {xs:List α} {x:α},Rd2 R vs xs→List.Mem x xs→∃ c,R c x
 | [],[],_,_,h=>by cases h
 | _::_,[],_,h,_=>h.elim
 | [],_::_,_,h,_=>h.elim
 | _::_,_::_,_,h,.head _=>⟨_,h.1⟩
 | _::_,_::_,_,h,.tail _ hm=>Rd2.mem h.2 hm
section
variable {P:Program} {w0:World} {Z0:Nat→Prop} {L:List Nat} {N:Nat} {K:List Nat} {σ:St} {a:Act} {w:World} {Z:Nat→Prop} {E:Env}
theorem Sh.rd_lens:∀ (s:Sh) {cs:List Value} {x:s.D},s.rd w Z cs x→s.lens x
 | .int _,_,_,_=>trivial
 | .bool _,_,_,_=>trivial
 | .u8 _,_,_,h=>h.2
 | .str _,_,_,_=>trivial
 | .pair a b,_,_,h=>by obtain ⟨c,d,_,h1,h2⟩:=h;exact ⟨a.rd_lens h1,b.rd_lens h2⟩
 | .st _ a,_,_,h=>a.rd_lens h
 | .sl _ a, _, xs, h => by
  obtain ⟨A,c,vs,_,h1,h2,h3,_⟩:=h
  refine ⟨Nat.le_trans h1 h2,fun x hx=>?_⟩
  obtain ⟨c,hc⟩:=h3.mem hx
  exact a.rd_lens hc
 | .fn0 _,_,_,_=>trivial
 | .fn _ a,_,_,h=>by obtain ⟨ps,_,h1⟩:=h;exact a.rd_lens h1
 | .pt a,_,_,h=>by obtain ⟨b,off,ds,_,_,h1,_⟩:=h;exact a.rd_lens h1
theorem argsRd_lens:∀ (l:List Sh) {us:List Value} {x:Dom l},argsRd w Z l us x→lensD l x
 | [],_,_,_=>trivial
 | s :: l, us, x, h => by
  match us,h with
  | u::us,h=>exact ⟨s.rd_lens h.1.1,argsRd_lens l h.2⟩
def numA:Nat→List PV→List (Nat×AV)
 | _,[]=>[]
 | n,p::l=>(n,.p p)::numA (n+1) l
def inSt (l:List Sh) (x:Dom l):St:=⟨numA 0 (frzP l x),[]⟩
theorem look_num (t:Nat):∀ (l:List PV) (n:Nat),n≤t→look (numA n l) t=(l[t - n]?).map .p
 | [],n,_=>by simp [numA,look]
 | p :: l, n, h => by
  simp only [numA,look]
  by_cases e:n=t
  ·subst e;rw [Nat.beq_refl,cond_true];simp
  ·rw [beq_ne e, cond_false, look_num t l (n + 1) (by omega)]
   have:t - n=t - (n+1)+1:=by omega
   rw [this,List.getElem?_cons_succ]
theorem pdens_at:∀ {l:List PV} {us:List Value} {t:Nat} {p:PV},pdens E Z w l us→l[t]?=some p→∃ u,us[t]?=some u∧p.den E Z w u
 | q::l,u::us,0,p,h,e=>by simp at e;subst e;exact ⟨u,rfl,h.1⟩
 | q :: l, u :: us, t + 1, p, h, e => by
  obtain ⟨u',h1,h2⟩:=pdens_at (t:=t) h.2 (by simpa using e)
  exact ⟨u',by simpa using h1,h2⟩
theorem args_len:∀ (l:List Sh) {us:List Value} {x:Dom l},argsRd w Z l us x→us.length=l.length
 | [],us,x,h=>by match us,h with | [],_=>rfl
 | s::l,us,x,h=>by match us,h with | u::us,h=>simp [args_len l h.2]
theorem fn_enterV {V:World→Prop} {f:FuncId} {fn:Func} {c:Code} {S:Sum} (hf:P.funcs[f]?=some fn) (hb:fn.body=some c) (hn:Nat.ble S.dom.length fn.ntmps=true) (hk:S.kinds.isEmpty=true) (hpr:S.prim.isNone=true)
  (h:∀ (w0:World) (Z0:Nat→Prop) (x:Dom S.dom) (a:Act) (w:World),V w0→S.pre x→lensD S.dom x→Stands w0 Z0 [] fn.ntmps [] (inSt S.dom x) a w→c.wp P (bodyPost P fn (S.Ret w0 Z0 (S.g x))) a w):FnOKV P V f S:=by
 refine ⟨Option.isNone_iff_eq_none.1 hpr,hk,?_⟩
 intro w hV Z us x hZ hargs hpre
 refine calls_of_wp hf hb (h w Z x _ w hV hpre (argsRd_lens _ hargs) ⟨⟨fun _=>.bool false,fun _=>[]⟩,Z,?_⟩)
 have hlen:=args_len _ hargs
 have hn:=Nat.le_of_ble_eq_true hn
 have hd:=args_den (E:=⟨fun _=>.bool false,fun _=>[]⟩) S.dom hargs
 have htm:∀ t,(inSt S.dom x).tmp t=match (frzP S.dom x)[t]? with | some p=>.p p | none=>.p (.c .un):=fun t=>by
  show (look (numA 0 _) t).getD _=_
  rw [look_num t _ 0 (Nat.zero_le _),Nat.sub_zero]
  cases (frzP S.dom x)[t]?<;>rfl
 refine ⟨rfl,?_,fun t=>?_,fun t i hi=>?_,?_,?_,?_,?_,?_,fun b hb=>.inl hb,hZ,SameBut.refl _ _,?_⟩
 ·simp only [Array.size_append,List.size_toArray,Array.size_replicate];omega
 ·rw [htm]
  cases hp:(frzP S.dom x)[t]? with
  | none=>trivial
  | some p =>
   obtain ⟨u,hu,hpd⟩:=pdens_at hd.1 hp
   have hlt:t < us.length:=by
    rcases Nat.lt_or_ge t us.length with h' | h'
    ·exact h'
    ·rw [List.getElem?_eq_none h'] at hu;cases hu
   have:(us.toArray++Array.replicate (fn.ntmps - us.toArray.size) undef).getD t undef=u:=by
    rw [Array.getD_eq_getD_getElem?,Array.getElem?_append_left (by simpa using hlt),List.getElem?_toArray,hu]
    rfl
   simp only
   rw [this]
   exact hpd
 ·rw [htm] at hi
  cases hp:(frzP S.dom x)[t]? with
  | none=>rw [hp] at hi;simp [AV.ids,PV.ids,CV.ids] at hi
  | some p =>
   rw [hp] at hi
   have:i∈(frzP S.dom x).flatMap PV.ids:=List.mem_flatMap.2 ⟨p,List.mem_of_getElem? hp,hi⟩
   rw [hd.2] at this;simp at this
 all_goals first
  | (intro o x o' x' ho;cases ho;done)
  | (intro o x ho;cases ho;done)
  | (intro i hi;simp at hi)
def slF (a:Sh):List CV→RM (List a.D×List Nat)
 | [.v (.slice none 0 0)]=>.ret ([],[])
 | [.sl r] => .obj r fun
   | .row dp a' xs=>if h:a'.beq a=true then .ret (castL (Sh.eq_of_beq h) xs,[r]) else .fail
   | _=>.fail
 | _=>.fail
def flC:(s:Sh)→List CV→RM (s.D×List Nat)
 | .int _,cs=>(intC cs).bind fun x=>.ret (x,[])
 | .bool _,cs=>(boolC cs).bind fun x=>.ret (x,[])
 | .u8 _,cs=>(u8C cs).bind fun x=>.ret (x,[])
 | .str _,cs=>(strC cs).bind fun x=>.ret (x,[])
 | .pair a b,cs=>(flC a (cs.take a.size)).bind fun x=>(flC b (cs.drop a.size)).bind fun y=>.ret ((x.1,y.1),x.2++y.2)
 | .st _ a,cs=>flC a cs
 | .sl _ a,cs=>slF a cs
 | .fn0 _,_ | .fn _ _,_ | .pt _,_=>.fail
def ownC (dp:Bool) (s:Sh) (cs:List CV):RM (s.D×List Nat):=bif dp then owC s cs else flC s cs
def retA (dp:Bool):(l:List Sh)→List PV→RM (Dom l×List Nat)
 | [],[]=>.ret ((),[])
 | s::l,p::ps=>bif p.isAg==s.agg && p.cells.all CV.one then (ownC dp s p.cells).bind fun x=>(retA dp l ps).bind fun y=>.ret ((x.1,y.1),x.2++y.2) else .fail
 | _,_=>.fail
def resM (P:Program):List ResultVar→RM (List PV)
 | []=>.ret []
 | .tmp t::l=>(evalP (.tmp t)).bind fun p=>(resM P l).bind fun r=>.ret (p::r)
 | .cell q t :: l => (orFail (infoSize P t)).bind fun n => (orFail (isAggT P t)).bind fun ag => (evalC (.tmp q)).bind fun c =>
   (match c with
    | .ptr o 0 => .obj o fun
     | .bx _ cs=>cut cs 0 n
     | _=>.fail
    | _=>.fail:RM (List CV)).bind fun l'=>(asPV ag l').bind fun p=>(resM P l).bind fun r=>.ret (p::r)
def retM (P:Program) (S:Sum) (rs:List ResultVar):RM (Dom S.cod×List Nat):=(resM P rs).bind fun ps =>
 bif S.fz then (rdArgs true S.cod ps).bind fun y=>.ret (y,[]) else (retA S.dp S.cod ps).bind fun y=>bif nodupB y.2 then .ret y else .fail
def tops (E:Env) (ids:List Nat):List Nat:=ids.flatMap fun r=>Value.blk (E.hdr r)
theorem intC_eq {cs:List CV} {n:Int} {vs:List Value} (hr:(intC cs).run σ=some n) (hd:dens E Z w cs vs):vs=[.int .i64 n]:=by
 unfold intC at hr
 split at hr
 ·obtain ⟨u, rfl, hu⟩ := dens_one hd
  have e1:=ret_some hr;subst e1
  rw [show u=_ from hu]
 ·cases hr
theorem boolC_eq {cs:List CV} {n:Bool} {vs:List Value} (hr:(boolC cs).run σ=some n) (hd:dens E Z w cs vs):vs=[.bool n]:=by
 unfold boolC at hr
 split at hr
 ·obtain ⟨u, rfl, hu⟩ := dens_one hd
  have e1:=ret_some hr;subst e1
  rw [show u=_ from hu]
 ·cases hr
theorem strC_eq {cs:List CV} {n:ByteArray} {vs:List Value} (hr:(strC cs).run σ=some n) (hd:dens E Z w cs vs):vs=[.string n]:=by
 unfold strC at hr
 split at hr
 ·obtain ⟨u, rfl, hu⟩ := dens_one hd
  have e1:=ret_some hr;subst e1
  rw [show u=_ from hu]
 ·cases hr
theorem u8C_eq {cs:List CV} {n:Int} {vs:List Value} (hr:(u8C cs).run σ=some n) (ho:AllP ((u8C cs).obl σ)) (hd:dens E Z w cs vs):vs=[.int .u8 n]∧0≤n∧n < 256:=by
 unfold u8C at hr ho
 split at hr
 ·obtain ⟨u, rfl, hu⟩ := dens_one hd
  obtain ⟨hp,hr1,_⟩:=need_split hr ho
  have e1:=ret_some hr1;subst e1
  rw [show u=_ from hu]
  exact ⟨rfl,hp⟩
 ·cases hr
theorem flC_own (h:RelE w0 Z0 L N K σ a w E Z) {Zr:Nat→Prop} (hZ:∀ b,Z b→Zr b):∀ (s:Sh) {cs:List CV} {vs:List Value} {x:s.D} {ids:List Nat},(flC s cs).run σ=some (x,ids)→AllP ((flC s cs).obl σ)→dens E Z w cs vs →
  (∀ r∈ids,∀ b∈E.fp r,b ∉ Value.blk (E.hdr r)→Zr b)→resOwn Zr w false s vs x (tops E ids)∧∀ m∈ids,∃ y,σ.obj m=some y
 | .int _, cs, vs, x, ids, hr, ho, hd, _ => by
  obtain ⟨n,hn,_,hr1,_⟩:=bind_split (m:=intC cs) hr ho
  have e1:=ret_some hr1;cases e1
  exact ⟨⟨intC_eq hn hd,rfl⟩,by simp⟩
 | .bool _, cs, vs, x, ids, hr, ho, hd, _ => by
  obtain ⟨n,hn,_,hr1,_⟩:=bind_split (m:=boolC cs) hr ho
  have e1:=ret_some hr1;cases e1
  exact ⟨⟨boolC_eq hn hd,rfl⟩,by simp⟩
 | .u8 _, cs, vs, x, ids, hr, ho, hd, _ => by
  obtain ⟨n,hn,hno,hr1,_⟩:=bind_split (m:=u8C cs) hr ho
  have e1:=ret_some hr1;cases e1
  have:=u8C_eq hn hno hd
  exact ⟨⟨this.1,this.2,rfl⟩,by simp⟩
 | .str _, cs, vs, x, ids, hr, ho, hd, _ => by
  obtain ⟨n,hn,_,hr1,_⟩:=bind_split (m:=strC cs) hr ho
  have e1:=ret_some hr1;cases e1
  exact ⟨⟨strC_eq hn hd,rfl⟩,by simp⟩
 | .pair p q, cs, vs, x, ids, hr, ho, hd, hI => by
  unfold flC at hr ho
  obtain ⟨y,hy,hyo,hr1,ho1⟩:=bind_split hr ho
  obtain ⟨z,hz,hzo,hr2,_⟩:=bind_split hr1 ho1
  have e1:=ret_some hr2;cases e1
  obtain ⟨y1,y2⟩:=y;obtain ⟨z1,z2⟩:=z
  have k1:=flC_own h hZ p hy hyo (hd.take_ _) fun r hr=>hI r (List.mem_append.2 (.inl hr))
  have k2:=flC_own h hZ q hz hzo (hd.drop_ _) fun r hr=>hI r (List.mem_append.2 (.inr hr))
  refine ⟨⟨vs.take p.size,vs.drop p.size,_,_,(List.take_append_drop _ _).symm,?_,k1.1,k2.1⟩,fun m hm=>?_⟩
  ·simp [tops]
  ·rcases List.mem_append.1 hm with hm | hm
   ·exact k1.2 m hm
   ·exact k2.2 m hm
 | .st _ p,cs,vs,x,ids,hr,ho,hd,hI=>flC_own h hZ p (by unfold flC at hr;exact hr) (by unfold flC at ho;exact ho) hd hI
 | .sl _ p, cs, vs, x, ids, hr, ho, hd, hI => by
  unfold flC slF at hr ho
  split at hr
  ·obtain ⟨u, rfl, hu⟩ := dens_one hd
   have hu:u=.slice none 0 0:=hu
   have e1:=ret_some hr;cases e1
   subst hu
   refine ⟨⟨_,[],[],rfl,⟨by simp,.inl ⟨rfl,rfl⟩⟩,?_,?_⟩,by simp⟩
   ·exact ⟨trivial,rfl⟩
   ·rfl
  ·rename_i r
   obtain ⟨u,rfl,hu⟩:=dens_one hd
   have hu:u=E.hdr r:=hu
   subst hu
   obtain ⟨b,hb,hr1,ho1⟩:=obj_split hr ho
   match b,hb,hr1,ho1 with
   | .row dp a' xs, hb, hr1, ho1 =>
    obtain ⟨hp,hr2,_⟩:=dif_split hr1 ho1
    have e1:=ret_some hr2;cases e1
    have:=Sh.eq_of_beq hp
    subst this
    obtain ⟨vs,Fs,h1,h2,h3⟩:=h.obj r _ hb
    have hnd:=h.nodup r _ hb
    rw [h3] at hnd
    refine ⟨⟨_,vs,[],rfl,h1,⟨h2.rd hZ fun b hbb=>hI r (by simp) b (by rw [h3];exact List.mem_append.2 (.inr hbb)) fun hbl=>(List.nodup_append.1 hnd).2.2 b hbl b hbb rfl,rfl⟩,?_⟩,fun m hm=>?_⟩
    ·simp [tops]
    ·simp only [List.mem_singleton] at hm;subst hm;exact ⟨_,hb⟩
  ·cases hr
 | .fn0 _,_,_,_,_,hr,_,_,_ | .fn _ _,_,_,_,_,hr,_,_,_ | .pt _,_,_,_,_,hr,_,_,_=>by cases hr
def outs (E:Env) (dp:Bool) (ids:List Nat):List Nat:=bif dp then ids.flatMap E.fp else tops E ids
theorem outs_append (dp:Bool) (l l':List Nat):outs E dp (l++l')=outs E dp l++outs E dp l':=by cases dp<;>simp [outs,tops]
theorem retA_all (h:RelE w0 Z0 L N K σ a w E Z) {dp:Bool} {Zr:Nat→Prop} (hZ:∀ b,Z b→Zr b):∀ {l:List Sh} {us:List Value} {ps:List PV} {x:Dom l} {ids:List Nat},pdens E Z w ps us→(∀ i∈ps.flatMap PV.ids,i∈K)→(retA dp l ps).run σ=some (x,ids)→AllP ((retA dp l ps).obl σ) →
  (dp=false→∀ r∈ids,∀ b∈E.fp r,b ∉ Value.blk (E.hdr r)→Zr b)→resAll Zr w dp l us x (outs E dp ids)∧∀ m∈ids,∃ y,σ.obj m=some y
 | [], us, ps, x, ids, he, hk, hr, ho, _ => by
  cases ps with
  | cons _ _=>cases hr
  | nil =>
   have e1:=ret_some hr;cases e1
   cases us with
   | nil=>refine ⟨?_,by simp⟩;show outs E dp []=[];cases dp<;>rfl
   | cons x xs=>exact he.elim
 | s :: l, us, ps, x, ids, he, hk, hr, ho, hI => by
  cases ps with
  | nil=>cases hr
  | cons p ps =>
   cases us with
   | nil=>exact he.elim
   | cons u us =>
    unfold retA at hr ho
    obtain ⟨hag,hr1,ho1⟩:=bif_split hr ho
    simp only [Bool.and_eq_true,beq_iff_eq] at hag
    obtain ⟨y,hy,hyo,hr2,ho2⟩:=bind_split hr1 ho1
    obtain ⟨z,hz,hzo,hr3,_⟩:=bind_split hr2 ho2
    have e1:=ret_some hr3;cases e1
    obtain ⟨y1,y2⟩:=y;obtain ⟨z1,z2⟩:=z
    have ih:=retA_all h hZ he.2 (fun i hi=>hk i (by rw [List.flatMap_cons];exact List.mem_append.2 (.inr hi))) hz hzo fun hd r hr=>hI hd r (List.mem_append.2 (.inr hr))
    have hki:∀ i∈p.ids,i∈K:=fun i hi=>hk i (by rw [List.flatMap_cons];exact List.mem_append.2 (.inl hi))
    have hform:resForm s u:=by
     refine ⟨fun hs=>?_,fun hs=>?_⟩
     ·rw [hs] at hag
      cases p with
      | c _=>simp [PV.isAg] at hag
      | ag l=>obtain ⟨vs,hv,_⟩:=he.1;exact ⟨vs,hv⟩
     ·rw [hs] at hag
      cases p with
      | c x=>exact CV.one_cell h (by simpa [PV.cells] using hag.2) he.1 hki
      | ag l=>simp [PV.isAg] at hag
    have hcd:dens E Z w p.cells u.cells.toList:=by
     cases p with
     | c x =>
      have h1:u.oneCell'=true:=CV.one_cell h (by simpa [PV.cells] using hag.2) he.1 hki
      rw [cells_one h1]
      exact ⟨he.1,trivial⟩
     | ag l=>obtain ⟨vs,hv,hd⟩:=he.1;rw [hv];exact hd
    rw [outs_append]
    refine ⟨⟨outs E dp y2,outs E dp z2,rfl,?_,hform,ih.1⟩,fun m hm=>?_⟩
    ·unfold ownC at hy hyo
     cases dp with
     | true=>exact ow_res s (owC_ow h s hy hyo hcd).1
     | false=>exact (flC_own h hZ s hy hyo hcd fun r hr=>hI rfl r (List.mem_append.2 (.inl hr))).1
    ·rcases List.mem_append.1 hm with hm | hm
     ·unfold ownC at hy hyo
      cases dp with
      | true=>exact (owC_ow h s hy hyo hcd).2 m hm
      | false =>
       exact (flC_own h (Zr:=fun _=>True) (fun _ _=>trivial) s hy hyo hcd fun _ _ _ _ _=>trivial).2 m hm
     ·exact ih.2 m hm
theorem resM_run (h:RelE w0 Z0 L N K σ a w E Z) (f:ResultVar→Sem Value) (hf:∀ t,f (.tmp t)=pure (a.tmps.getD t undef)) (hc:∀ q t,f (.cell q t)=(do loadVar t (← asAddr (a.tmps.getD q undef)))) :
  ∀ {rs:List ResultVar} {ps:List PV},(resM P rs).run σ=some ps→∃ us:List Value,(rs.mapM f).run P w=.ok us w∧pdens E Z w ps us∧∀ i∈ps.flatMap PV.ids,i∈K
 | [], ps, hr => by
  have e1:=ret_some hr;subst e1
  exact ⟨[],rfl,trivial,by simp⟩
 | .tmp t :: rs, ps, hr => by
  unfold resM at hr
  obtain ⟨p,hp,hr1⟩:=RM.run_bind hr
  obtain ⟨qs,hq,hr2⟩:=RM.run_bind hr1
  have e1:=ret_some hr2;subst e1
  obtain ⟨us,h1,h2,h3⟩:=resM_run h f hf hc hq
  have hpd:=evalP_den h hp
  refine ⟨a.tmps.getD t undef::us,?_,⟨hpd.1,h2⟩,fun i hi=>?_⟩
  ·rw [List.mapM_cons, hf]
   simp [h1]
  ·rw [List.flatMap_cons] at hi
   rcases List.mem_append.1 hi with hi | hi
   ·exact hpd.2 i hi
   ·exact h3 i hi
 | .cell q t :: rs, ps, hr => by
  unfold resM at hr
  obtain ⟨n,hn,hr⟩:=RM.run_bind hr
  obtain ⟨ag,ha,hr⟩:=RM.run_bind hr
  obtain ⟨c,hcv,hr⟩:=RM.run_bind hr
  obtain ⟨l,hl,hr⟩:=RM.run_bind hr
  obtain ⟨p,hp,hr⟩:=RM.run_bind hr
  obtain ⟨qs,hq,hr2⟩:=RM.run_bind hr
  have e1:=ret_some hr2;subst e1
  obtain ⟨us,h1,h2,h3⟩:=resM_run h f hf hc hq
  have hcd:=evalC_den h hcv
  match c,hl,hcd with
  | .ptr o 0, hl, hcd =>
   obtain ⟨b,hb,hl⟩:=obj_some hl
   match b,hb,hl with
   | .bx t' cs, hb, hl =>
    obtain ⟨hle,rfl⟩:=cut_some hl
    obtain ⟨b,vs,k1,k2,k3,k4⟩:=h.obj o _ hb
    obtain ⟨b',e1,e2⟩:=hcd.1
    rw [k1] at e1
    cases e1
    have hd:dens E Z w ((cs.drop 0).take n) ((vs.drop 0).take n):=(k4.drop_ 0).take_ n
    obtain ⟨v,r1,r2,r3⟩:=load_at (P:=P) (σ:=σ) (b:=b) (o:=0) (orFail_run hn) (orFail_run ha) (by rw [List.length_take,List.length_drop];omega) hd (fun j u hu=>by
     have hj:vs[j]?=some u:=by
      rw [List.drop_zero,List.getElem?_take] at hu
      split at hu
      ·exact hu
      ·cases hu
     rw [Nat.zero_add]
     unfold Bx at k3
     simp [World.cell?,k3,hj]) hp
    have e2:a.tmps.getD q undef=.pointer (some ⟨b,0,none⟩):=e2
    refine ⟨v::us,?_,⟨r2,h2⟩,fun i hi=>?_⟩
    ·rw [List.mapM_cons, hc, e2]
     simp [asAddr,r1,h1]
    ·rw [List.flatMap_cons] at hi
     rcases List.mem_append.1 hi with hi | hi
     ·rw [r3] at hi
      exact (h.oids o _ hb).2 i (mem_drop_ids (mem_take_ids hi))
     ·exact h3 i hi
theorem results_key (h:RelE w0 Z0 L N K σ a w E Z) {rs:List ResultVar} {ps:List PV} (hr:(resM P rs).run σ=some ps) (f:ResultVar→Sem Value) (hf:∀ t,f (.tmp t)=pure (a.tmps.getD t undef)) (hc:∀ q t,f (.cell q t)=(do loadVar t (← asAddr (a.tmps.getD q undef)))) :
  ∃ us:List Value,(do let vs ← List.toArray <$> rs.mapM f;(pure (if h:vs.size=1 then vs[0] else .tuple vs):Sem Value)).run P w=.ok (tupV us) w∧pdens E Z w ps us∧∀ i∈ps.flatMap PV.ids,i∈K:=by
 obtain ⟨us,h1,h2,h3⟩:=resM_run (P:=P) h f hf hc hr
 refine ⟨us,?_,h2,h3⟩
 rw [map_eq_pure_bind,bind_assoc]
 simp only [Sem.run_bind,h1,Result.andThen_ok]
 match us with
 | []=>rfl
 | [u]=>rfl
 | u::v::us=>simp [tupV]
theorem results_run (h:RelE w0 Z0 L N K σ a w E Z) {fn:Func} {ps:List PV} (hr:(resM P fn.results.toList).run σ=some ps):∃ us:List Value,(results fn a.tmps).run P w=.ok (tupV us) w∧pdens E Z w ps us∧∀ i∈ps.flatMap PV.ids,i∈K:=by
 unfold results
 rw [show fn.results=fn.results.toList.toArray by simp,List.mapM_toArray]
 exact results_key h hr _ (fun _=>rfl) (fun _ _=>rfl)
theorem wp_return {fn:Func} {S:Sum} {x:Dom S.dom} {y:Dom S.cod×List Nat} {ps:List Prop} (h:Stands w0 Z0 [] N K σ a w) (hr:((retM P S fn.results.toList).run σ).map (fun y=>(y,(retM P S fn.results.toList).obl σ))=some (y,ps)) (ho:AllP ps) (hy:y.1=S.g x) :
  bodyPost P fn (S.Ret w0 Z0 (S.g x)) .ret a w:=by
 obtain ⟨E,Z,h⟩:=h
 refine ⟨h.defers,?_⟩
 cases hm:(retM P S fn.results.toList).run σ with
 | none=>rw [hm] at hr;cases hr
 | some y' =>
  rw [hm] at hr
  simp only [Option.map_some,Option.some.injEq,Prod.mk.injEq] at hr
  obtain ⟨rfl,rfl⟩:=hr
  obtain ⟨qs,hq0,_,hr2,ho2⟩:=bind_split hm ho
  obtain ⟨us,hus,hq,hqk⟩:=results_run h hq0
  refine ⟨_,hus,?_⟩
  have hbel:Below w0.heap.size w0 w:=h.frame.below (Nat.le_refl _) (by simp)
  have hnew:∀ o x,σ.obj o=some x→∀ b∈E.fp o,w0.heap.size≤b∧b < w.heap.size:=fun o x ho b hb=>by
   have:=h.free o x ho b hb
   exact ⟨this.2.2.resolve_right (by simp),this.1⟩
  have hzn:∀ b,Z b→Z0 b∨(w0.heap.size≤b∧b < w.heap.size):=fun b hb=>by
   rcases h.znew b hb with h' | h' | h'
   ·exact .inl h'
   ·exact .inr ⟨h',h.zlt b hb⟩
   ·simp at h'
  unfold Sum.Ret
  cases hf:S.fz with
  | true =>
   rw [hf,cond_true] at hr2 ho2
   rw [cond_true]
   obtain ⟨z,hz,hzo,hr3,_⟩:=bind_split hr2 ho2
   have e1:=ret_some hr3;subst e1
   have hy:z=S.g x:=hy
   subst hy
   exact ⟨_,rfl,rdArgs_pd h hzn true (fun _ o x ho b hb=>.inr (hnew o x ho b hb)) hq hz hzo,hbel⟩
  | false =>
   rw [hf,cond_false] at hr2 ho2
   rw [cond_false]
   obtain ⟨z,hz,hzo,hr3,ho3⟩:=bind_split hr2 ho2
   obtain ⟨hnd,hr4⟩:=bif_some hr3
   have e1:=ret_some hr4;subst e1
   rw [← hy]
   obtain ⟨z1,ids⟩:=y'
   have hnd:=nodupB_spec hnd
   have hobs:=(retA_all h (Zr:=fun _=>True) (fun _ _=>trivial) hq hqk hz hzo fun _ _ _ _ _ _=>trivial).2
   have hsub:∀ r∈ids,∀ b∈Value.blk (E.hdr r),b∈E.fp r→True:=fun _ _ _ _ _=>trivial
   have hblk:∀ r y,σ.obj r=some y→∀ b∈Value.blk (E.hdr r),b∈E.fp r:=fun r y hy b hb=>by
    have hd:=h.obj r y hy
    cases y with
    | bx t cs=>obtain ⟨b',vs,e,_⟩:=hd;rw [e] at hb;simp [Value.blk,Value.ownBlock] at hb
    | pin r' u=>rw [hd.1] at hb;simp [Value.blk,Value.ownBlock] at hb
    | mp bo es=>obtain ⟨b',ms,clock,e,_⟩:=hd;rw [e] at hb;simp [Value.blk,Value.ownBlock] at hb
    | op s xs i cs=>obtain ⟨vs,us,Fs,_,_,_,_,e⟩:=hd;rw [e];exact List.mem_append.2 (.inl hb)
    | row dp s xs=>obtain ⟨vs,Fs,_,_,e⟩:=hd;rw [e];exact List.mem_append.2 (.inl hb)
   have hin:∀ b∈outs E S.dp ids,∃ r∈ids,b∈E.fp r∧(S.dp=false→b∈Value.blk (E.hdr r)):=fun b hb=>by
    unfold outs at hb
    cases hdp:S.dp with
    | true =>
     rw [hdp,cond_true] at hb
     obtain ⟨r,hr,hb⟩:=List.mem_flatMap.1 hb
     exact ⟨r,hr,hb,fun e=>by cases e⟩
    | false =>
     rw [hdp,cond_false] at hb
     obtain ⟨r,hr,hb⟩:=List.mem_flatMap.1 hb
     obtain ⟨y,hy⟩:=hobs r hr
     exact ⟨r,hr,hblk r y hy b hb,fun _=>hb⟩
   have hall:=retA_all h (Zr:=fun b=>Z0 b∨(w0.heap.size≤b∧b < w.heap.size∧b ∉ outs E S.dp ids)) (fun b hb=>by
    rcases hzn b hb with h' | h'
    ·exact .inl h'
    ·refine .inr ⟨h'.1, h'.2, fun hout => ?_⟩
     obtain ⟨r,hr,hbr,_⟩:=hin b hout
     obtain ⟨y,hy⟩:=hobs r hr
     exact (h.free r y hy b hbr).2.1 hb) hq hqk hz hzo (fun hdp r hr b hb hnb=>by
    obtain ⟨y,hy⟩:=hobs r hr
    have:=hnew r y hy b hb
    refine .inr ⟨this.1,this.2,fun hout=>?_⟩
    obtain ⟨r',hr',hbr',hbb⟩:=hin b hout
    by_cases e:r'=r
    ·subst e;exact hnb (hbb hdp)
    ·obtain ⟨y', hy'⟩ := hobs r' hr'
     exact h.apart r' y' r y hy' hy e b hbr' hb)
   refine ⟨_,outs E S.dp ids,rfl,hall.1,?_,fun b hb=>?_,hbel⟩
   ·have gen:∀ (f:Nat→List Nat) (l:List Nat),l.Nodup→(∀ r∈l,(f r).Nodup)→(∀ r∈l,∀ r'∈l,r≠r'→∀ b∈f r,b ∉ f r')→(l.flatMap f).Nodup:=by
     intro f l
     induction l with
     | nil=>intros;simp
     | cons r l ih =>
      intro h1 h2 h3
      have h1:=List.nodup_cons.1 h1
      rw [List.flatMap_cons]
      refine List.nodup_append.2 ⟨h2 r (by simp),ih h1.2 (fun r hr=>h2 r (by simp [hr])) (fun r hr r' hr'=>h3 r (by simp [hr]) r' (by simp [hr'])),fun b hb c hc e=>?_⟩
      subst e
      obtain ⟨r',hr',hb'⟩:=List.mem_flatMap.1 hc
      exact h3 r (by simp) r' (by simp [hr']) (fun e=>h1.1 (e ▸ hr')) b hb hb'
    unfold outs tops
    cases S.dp with
    | true =>
     exact gen _ _ hnd (fun r hr=>by obtain ⟨y,hy⟩:=hobs r hr;exact h.nodup r y hy) fun r hr r' hr' hne b hb hb'=>by
      obtain ⟨y,hy⟩:=hobs r hr
      obtain ⟨y',hy'⟩:=hobs r' hr'
      exact h.apart r y r' y' hy hy' hne b hb hb'
    | false =>
     exact gen _ _ hnd (fun r hr=>blk_nodup _) fun r hr r' hr' hne b hb hb'=>by
      obtain ⟨y,hy⟩:=hobs r hr
      obtain ⟨y',hy'⟩:=hobs r' hr'
      exact h.apart r y r' y' hy hy' hne b (hblk r y hy b hb) (hblk r' y' hy' b hb')
   ·obtain ⟨r, hr, hbr, _⟩ := hin b hb
    obtain ⟨y,hy⟩:=hobs r hr
    exact hnew r y hy b hbr
end
end Go.Proofs.Ytmcpigcpachdkaa
