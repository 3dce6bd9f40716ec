/- Operations that only look: what is known of their value holds. No program is named; no condition. -/
import Derived.Test.YtmcpigcpachdkaaPC
import Derived.Orders
import Derived.Laws.Cells
import Derived.Laws.CopyRow
namespace Go.Proofs.Ytmcpigcpachdkaa
open Go.RowKit
set_option linter.unusedVariables false
set_option linter.unusedSimpArgs false
def St.app (σ:St) (dst:Option Nat) (e:Eff):St:=⟨match dst with | some d=>(d,e.res)::σ.tm | none=>σ.tm,e.obs++σ.ob⟩
theorem beq_ne {a b:Nat} (h:a≠b):a.beq b=false:=by
 cases hb:a.beq b
 ·rfl
 ·exact absurd (Nat.eq_of_beq_eq_true hb) h
theorem look_append {α:Type} (l':List (Nat×α)) (n:Nat):∀ (l:List (Nat×α)),look (l++l') n=match look l n with | some x=>some x | none=>look l' n
 | []=>rfl
 | (k, a) :: l => by
  simp only [List.cons_append,look]
  cases k.beq n
  ·simp only [cond_false];exact look_append l' n l
  ·rfl
theorem app_tmp (σ:St) (d:Option Nat) (e:Eff) (t:Nat):(σ.app d e).tmp t=if d=some t then e.res else σ.tmp t:=by
 cases d with
 | none=>rfl
 | some d =>
  simp only [St.app,St.tmp,look]
  by_cases h:d=t
  ·subst h;simp
  ·rw [beq_ne h];simp [h]
theorem app_obj (σ:St) (d:Option Nat) (e:Eff) (o:Nat):(σ.app d e).obj o=match look e.obs o with | some x=>x | none=>σ.obj o:=by
 simp only [St.app,St.obj,look_append]
 cases look e.obs o<;>rfl
theorem put_get {a:Act} {d:Option Nat} {v:Value} (hd:∀ d',d=some d'→d' < a.tmps.size) (t:Nat):(a.put d v).tmps.getD t undef=if d=some t then v else a.tmps.getD t undef:=by
 cases d with
 | none=>rfl
 | some d =>
  have:=hd d rfl
  simp only [Act.put,Array.getD_eq_getD_getElem?,Array.getElem?_setIfInBounds]
  by_cases h:d=t
  ·subst h;simp [this]
  ·simp [h]
theorem put_size (a:Act) (d:Option Nat) (v:Value):(a.put d v).tmps.size=a.tmps.size:=by cases d<;>simp [Act.put]
theorem put_defers (a:Act) (d:Option Nat) (v:Value):(a.put d v).defers=a.defers:=by cases d<;>rfl
section
variable {P:Program} {w0:World} {Z0:Nat→Prop} {L:List Nat} {N:Nat} {K:List Nat} {σ:St} {a:Act} {w:World} {E:Env} {Z:Nat→Prop}
theorem RelE.more (h:RelE w0 Z0 L N K σ a w E Z) (ids:List Nat):RelE w0 Z0 L N (ids++K) σ a w ⟨fun i=>if i∈K then E.hdr i else .bool false,E.fp⟩ Z:=by
 refine h.step (M:=fun _=>False) rfl rfl rfl (Nat.le_refl _) (fun _ _ _=>rfl) (fun i hi=>List.mem_append.2 (.inr hi)) (fun i hi=>?_) (fun i hi=>if_pos hi) (fun _ _ _ _=>rfl) (fun _ h=>h) (fun _ h=>.inl h)
  (fun o x ho=>.inl ⟨fun h=>h,ho⟩) (fun o x o' x' ho _ _ hc=>absurd ⟨fun h=>h,ho⟩ hc) h.defers h.size (fun t=>.inl ⟨rfl,rfl⟩)
 by_cases hk:i∈K
 ·exact .inl hk
 ·right;simp [hk,Value.oneCell']
def Post (w0:World) (Z0:Nat→Prop) (L:List Nat) (N:Nat) (K:List Nat) (σ:St) (a:Act) (d:Option Nat) (e:Eff) (v:Value) (w':World):Prop:=∃ E' Z',RelE w0 Z0 L N K (σ.app d e) (a.put d v) w' E' Z'
theorem RelE.val (h:RelE w0 Z0 L N K σ a w E Z) {d:Option Nat} {v:Value} {av:AV} (hd:∀ d',d=some d'→d' < N) (hden:av.den E Z w v) (hi:∀ i∈av.ids,i∈K) (ids:List Nat):Post w0 Z0 L N (ids++K) σ a d ⟨av,[]⟩ v w:=by
 have h1:RelE w0 Z0 L N K (σ.app d ⟨av,[]⟩) (a.put d v) w E Z:=by
  refine h.step (M:=fun _=>False) rfl rfl rfl (Nat.le_refl _) (fun _ _ _=>rfl) (fun i hi=>hi) (fun i hi=>.inl hi) (fun i hi=>rfl) (fun _ _ _ _=>rfl) (fun _ h=>h) (fun _ h=>.inl h)
   (fun o x ho=>.inl ⟨fun h=>h,by rw [app_obj] at ho;exact ho⟩) (fun o x o' x' ho _ _ hc=>absurd ⟨fun h=>h,by rw [app_obj] at ho;exact ho⟩ hc) (by rw [put_defers];exact h.defers) (by rw [put_size];exact h.size) (fun t=>?_)
  rw [app_tmp,put_get (by rw [h.size];exact hd)]
  by_cases ht:d=some t
  ·right;simp only [ht,if_true];exact ⟨hden,hi⟩
  ·left;simp [ht]
 exact ⟨_,_,h1.more ids⟩
theorem wp_of_value {o:Oper} {v:Value} {w':World} {R:Value→World→Prop} {Q:Exit→Act→World→Prop} (hr:(execOp a.eval o).run P w=.ok (.value v) w') (h:R v w'):o.wp P a w (fun a' w'=>∃ v,a'=a.put o.dst v∧R v w') Q:=by
 unfold Oper.wp;rw [hr];exact ⟨v,rfl,h⟩
theorem wp_of_skip {o:Oper} {w':World} {R:Value→World→Prop} {Q:Exit→Act→World→Prop} (hr:(execOp a.eval o).run P w=.ok .skip w') (h:R undef w'):o.wp P a w (fun a' w'=>∃ v,a'=a.put o.dst v∧R v w') Q:=by
 unfold Oper.wp;rw [hr];exact ⟨undef,rfl,h⟩
theorem dens_exact:∀ (vs:List Value),dens E Z w (vs.map .v) vs
 | []=>trivial
 | _::l=>⟨rfl,dens_exact l⟩
theorem ids_exact (vs:List Value):(vs.map CV.v).flatMap CV.ids=[]:=by
 induction vs with
 | nil=>rfl
 | cons v vs ih=>simp [CV.ids]
theorem constP_den (u:Value):(constP u).den E Z w u:=by
 cases u<;>simp only [constP,PV.den,CV.den]
 case agg cs=>exact ⟨cs.toList,by simp,dens_exact _⟩
theorem constP_ids (u:Value):(constP u).ids=[]:=by
 cases u<;>simp only [constP,PV.ids,CV.ids]
 case agg cs=>exact ids_exact _
theorem constA_den (u:Value):(constA u).den E Z w u:=by
 cases u<;>simp only [constA,AV.den]<;>first | exact constP_den _ | skip
 case tuple vs =>
  refine ⟨vs.toList,by simp,?_⟩
  generalize vs.toList=l
  induction l with
  | nil=>trivial
  | cons x l ih=>exact ⟨constP_den x,ih⟩
theorem constA_ids (u:Value):(constA u).ids=[]:=by
 cases u<;>simp only [constA,AV.ids]<;>first | exact constP_ids _ | skip
 case tuple vs =>
  generalize vs.toList=l
  induction l with
  | nil=>rfl
  | cons x l ih=>simp only [List.map_cons,List.flatMap_cons,constP_ids,ih];rfl
theorem evalO_den (h:RelE w0 Z0 L N K σ a w E Z) {x:Operand} {av:AV} (hr:(evalO x).run σ=some av):av.den E Z w (a.eval x)∧∀ i∈av.ids,i∈K:=by
 cases x with
 | tmp t=>simp only [evalO,RM.run,Option.some.injEq] at hr;subst hr;exact ⟨h.tmp t,h.tids t⟩
 | const u=>simp only [evalO,RM.run,Option.some.injEq] at hr;subst hr;exact ⟨constA_den u,by rw [constA_ids];simp⟩
 | func f=>simp only [evalO,RM.run,Option.some.injEq] at hr;subst hr;exact ⟨⟨[],rfl,rfl⟩,by simp [AV.ids,PV.ids,CV.ids]⟩
 | global g=>simp [evalO,RM.run] at hr
theorem evalP_den (h:RelE w0 Z0 L N K σ a w E Z) {x:Operand} {p:PV} (hr:(evalP x).run σ=some p):p.den E Z w (a.eval x)∧∀ i∈p.ids,i∈K:=by
 obtain ⟨av,h1,h2⟩:=RM.run_bind hr
 have h3:=evalO_den h h1
 cases av with
 | p q=>simp only [asP,RM.run,Option.some.injEq] at h2;subst h2;exact h3
 | tu l=>simp [asP,RM.run] at h2
theorem evalC_den (h:RelE w0 Z0 L N K σ a w E Z) {x:Operand} {c:CV} (hr:(evalC x).run σ=some c):c.den E Z w (a.eval x)∧∀ i∈c.ids,i∈K:=by
 obtain ⟨av,h1,h2⟩:=RM.run_bind hr
 have h3:=evalO_den h h1
 rcases av with (q | q) | l
 ·simp only [asC,RM.run,Option.some.injEq] at h2;subst h2;exact h3
 ·simp [asC,RM.run] at h2
 ·simp [asC,RM.run] at h2
theorem CV.one_cell (h:RelE w0 Z0 L N K σ a w E Z) {c:CV} {u:Value} (h1:c.one=true) (hd:c.den E Z w u) (hi:∀ i∈c.ids,i∈K):u.oneCell'=true:=by
 cases c with
 | un=>simp [CV.one] at h1
 | v u'=>rw [show u=u' from hd];exact h1
 | ptr o c=>obtain ⟨b,_,rfl⟩:=hd;rfl
 | sl r=>rw [show u=_ from hd];exact h.hone r (hi r (by simp [CV.ids]))
 | pe r i c n=>obtain ⟨g,off,n,cap,_,rfl⟩:=hd;rfl
 | ro s xs=>exact (Sh.sl 0 s).rd_one hd u (by simp)
 | pr s x c=>obtain ⟨b,off,cs,rfl,_⟩:=hd;rfl
 | cl f c=>obtain ⟨vs,rfl,_⟩:=hd;rfl
 | cnil=>exact hd.elim
 | ccons _ _=>exact hd.elim
 | nb n=>obtain ⟨b,rfl,_⟩:=hd;rfl
theorem dens.one (h:RelE w0 Z0 L N K σ a w E Z):∀ {cs:List CV} {vs:List Value},cs.all CV.one=true→dens E Z w cs vs→(∀ i∈cs.flatMap CV.ids,i∈K)→∀ u∈vs,u.oneCell'=true
 | [],[],_,_,_,u,hu=>by simp at hu
 | c :: cs, v :: vs, h1, hd, hi, u, hu => by
  simp only [List.all_cons,Bool.and_eq_true] at h1
  rcases List.mem_cons.1 hu with rfl | hu
  ·exact CV.one_cell h h1.1 hd.1 fun i hh=>hi i (by simp [hh])
  ·exact dens.one h h1.2 hd.2 (fun i hh=>hi i (by rw [List.flatMap_cons];exact List.mem_append.2 (.inr hh))) u hu
theorem cells_one {u:Value} (h:u.oneCell'=true):u.cells=#[u]:=by cases u<;>simp [Value.oneCell',Value.cells] at * 
theorem evalCells_den (h:RelE w0 Z0 L N K σ a w E Z) {x:Operand} {cs:List CV} (hr:(evalCells x).run σ=some cs) (h1:cs.all CV.one=true) :
  dens E Z w cs (a.eval x).cells.toList∧(∀ u∈(a.eval x).cells.toList,u.oneCell'=true)∧∀ i∈cs.flatMap CV.ids,i∈K:=by
 obtain ⟨p,hp,h2⟩:=RM.run_bind hr
 have h3:=evalP_den h hp
 simp only [RM.run,Option.some.injEq] at h2
 cases p with
 | c x =>
  simp only [PV.cells] at h2;subst h2
  have hi:∀ i∈[x].flatMap CV.ids,i∈K:=by rw [List.flatMap_singleton];exact h3.2
  have ho:(a.eval _).oneCell'=true:=CV.one_cell h (by simpa using h1) h3.1 h3.2
  rw [cells_one ho]
  exact ⟨⟨h3.1,trivial⟩,by simpa using ho,hi⟩
 | ag l =>
  simp only [PV.cells] at h2;subst h2
  obtain ⟨vs,hv,hd⟩:=h3.1
  rw [hv]
  simp only [Value.cells]
  exact ⟨hd,dens.one h h1 hd h3.2,h3.2⟩
theorem exactCs_den:∀ {l:List CV} {us vs:List Value},exactCs l=some us→dens E Z w l vs→vs=us
 | [],us,[],h,_=>by cases h;rfl
 | c :: l, us, v :: vs, h, hd => by
  cases c<;>simp only [exactCs,reduceCtorEq] at h
  split at h
  ·rename_i r hr
   cases h
   rw [show v=_ from hd.1,exactCs_den hr hd.2]
  ·cases h
theorem exactA_den {av:AV} {u v:Value} (h:exactA av=some u) (hd:av.den E Z w v):v=u:=by
 rcases av with (c | l) | l
 ·cases c <;> simp only [exactA, reduceCtorEq, Option.some.injEq] at h
  subst h;exact hd
 ·simp only [exactA] at h
  split at h
  ·rename_i r hr
   cases h
   obtain ⟨vs,rfl,hd⟩:=hd
   rw [exactCs_den hr hd]
  ·cases h
 ·simp [exactA] at h
theorem exactTmps_den (h:RelE w0 Z0 L N K σ a w E Z):∀ {l:List Operand} {env:List (Nat×Value)},(exactTmps l).run σ=some env→∀ t,.tmp t∈l→look env t=some (a.tmps.getD t undef)
 | [],_,_,t,ht=>by simp at ht
 | x :: l, env, hr, t, ht => by
  cases x with
  | tmp t' =>
   simp only [exactTmps,RM.run] at hr
   obtain ⟨u,hu,hr⟩:=RM.run_bind hr
   obtain ⟨r,hr',hr⟩:=RM.run_bind hr
   simp only [RM.run,Option.some.injEq] at hr
   subst hr
   have e:=exactA_den (orFail_run hu) (h.tmp t')
   simp only [look]
   by_cases htt:t'=t
   ·subst htt;rw [Nat.beq_refl,cond_true,e]
   ·rw [beq_ne htt, cond_false]
    refine exactTmps_den h hr' t ?_
    rcases List.mem_cons.1 ht with ht | ht
    ·cases ht;exact absurd rfl htt
    ·exact ht
  | _ =>
   refine exactTmps_den h (l:=l) hr t ?_
   rcases List.mem_cons.1 ht with ht | ht
   ·cases ht
   ·exact ht
theorem pureM_den (h:RelE w0 Z0 L N K σ a w E Z) {o:Oper} (hs:∀ cs b,o.op≠.select cs b) {av:AV} (hr:(pureM P o).run σ=some av):∃ v,(execOp a.eval o).run P w=.ok (.value v) w∧av.den E Z w v∧∀ i∈av.ids,i∈K:=by
 obtain ⟨env,he,hr⟩:=RM.run_bind hr
 have hr:=orFail_run hr
 have hc:execOp a.eval o=execOp (rhoOf env) o:=execOp_congr o hs fun x hx=>by
  cases x with
  | tmp t =>
   have:=exactTmps_den h he t (by simpa using hx)
   simp [rhoOf,this,Act.eval]
  | _=>rfl
 rw [hc]
 cases hp:pureRun P (execOp (rhoOf env) o) with
 | none=>rw [hp] at hr;cases hr
 | some n =>
  rw [hp] at hr
  cases n<;>simp only [Option.bind_some,Next.val?,Option.map_none,Option.map_some,reduceCtorEq,Option.some.injEq] at hr
  rename_i v
  subst hr
  exact ⟨v,pureRun_run hp,constA_den v,by rw [constA_ids];simp⟩
end
end Go.Proofs.Ytmcpigcpachdkaa
