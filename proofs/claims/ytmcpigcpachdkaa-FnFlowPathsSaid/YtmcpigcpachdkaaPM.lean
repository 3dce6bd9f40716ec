/- A region that draws its order: if what its operations write and look at is apart where their order is open, one walk serves every order. No program is named; no condition. -/
import Derived.Test.YtmcpigcpachdkaaPL
namespace Go.Proofs.Ytmcpigcpachdkaa
open Go.RowKit
set_option linter.unusedVariables false
set_option linter.unusedSimpArgs false
def wlocs (d:Option Nat) (e:Eff):List (Bool×Nat):=(match d with | some t=>[(false,t)] | none=>[])++e.obs.map fun p=>(true,p.1)
theorem look_none_of {α:Type} {l:List (Nat×α)} {o:Nat} (h:∀ p∈l,p.1≠o):look l o=none:=by
 induction l with
 | nil=>rfl
 | cons p l ih =>
  obtain ⟨k,x⟩:=p
  simp only [look]
  rw [beq_ne (h (k,x) (by simp)),cond_false]
  exact ih fun p hp=>h p (by simp [hp])
theorem look_some_of {α:Type} {l:List (Nat×α)} {o:Nat} (h:∃ p∈l,p.1=o):∃ x,look l o=some x:=by
 induction l with
 | nil=>obtain ⟨p,hp,_⟩:=h;simp at hp
 | cons p l ih =>
  obtain ⟨k,x⟩:=p
  simp only [look]
  by_cases e:k=o
  ·subst e;rw [Nat.beq_refl,cond_true];exact ⟨x,rfl⟩
  ·rw [beq_ne e, cond_false]
   obtain ⟨p,hp,hpo⟩:=h
   rcases List.mem_cons.1 hp with rfl | hp
   ·exact absurd hpo e
   ·exact ih ⟨p,hp,hpo⟩
theorem app_like_not {σ:St} {d:Option Nat} {e:Eff} {l:Bool×Nat} (h:l ∉ wlocs d e):σ.like (σ.app d e) l:=by
 obtain ⟨b,n⟩:=l
 cases b with
 | false =>
  show (σ.app d e).tmp n=σ.tmp n
  rw [app_tmp,if_neg]
  intro hd;apply h;simp [wlocs,hd]
 | true =>
  show (σ.app d e).obj n=σ.obj n
  rw [app_obj,look_none_of]
  intro p hp hn
  apply h
  unfold wlocs
  exact List.mem_append.2 (.inr (List.mem_map.2 ⟨p,hp,by rw [hn]⟩))
theorem app_like_in {σ σ':St} {d:Option Nat} {e:Eff} {l:Bool×Nat} (h:l∈wlocs d e):(σ.app d e).like (σ'.app d e) l:=by
 obtain ⟨b,n⟩:=l
 unfold wlocs at h
 cases b with
 | false =>
  have hd:d=some n:=by
   rcases List.mem_append.1 h with h | h
   ·cases d with
    | none=>simp at h
    | some t=>simp at h;rw [h]
   ·simp at h
  show (σ'.app d e).tmp n=(σ.app d e).tmp n
  rw [app_tmp,app_tmp,if_pos hd,if_pos hd]
 | true =>
  have ho:∃ p∈e.obs,p.1=n:=by
   rcases List.mem_append.1 h with h | h
   ·cases d<;>simp at h
   ·obtain ⟨p, hp, he⟩ := List.mem_map.1 h
    exact ⟨p,hp,by simpa using he⟩
  obtain ⟨x,hx⟩:=look_some_of ho
  show (σ'.app d e).obj n=(σ.app d e).obj n
  rw [app_obj,app_obj,hx]
theorem like_trans {σ σ' σ'':St} {l:Bool×Nat} (h:σ.like σ' l) (k:σ'.like σ'' l):σ.like σ'' l:=by
 obtain ⟨b,n⟩:=l
 cases b<;>exact Eq.trans k h
theorem like_symm {σ σ':St} {l:Bool×Nat} (h:σ.like σ' l):σ'.like σ l:=by
 obtain ⟨b,n⟩:=l
 cases b<;>exact Eq.symm h
theorem like_refl (σ:St) (l:Bool×Nat):σ.like σ l:=by
 obtain ⟨b,n⟩:=l
 cases b<;>rfl
theorem RelE.like {w0:World} {Z0:Nat→Prop} {L:List Nat} {N:Nat} {K:List Nat} {σ σ':St} {a:Act} {w:World} {E:Env} {Z:Nat→Prop} (h:RelE w0 Z0 L N K σ a w E Z) (hl:∀ l,σ.like σ' l):RelE w0 Z0 L N K σ' a w E Z:=by
 have ht:∀ t,σ'.tmp t=σ.tmp t:=fun t=>hl (false,t)
 have ho:∀ o,σ'.obj o=σ.obj o:=fun o=>hl (true,o)
 refine ⟨h.defers,h.size,fun t=>by rw [ht];exact h.tmp t,fun t=>by rw [ht];exact h.tids t,fun o x hx=>h.obj o x (by rw [← ho];exact hx),fun o x hx=>h.oids o x (by rw [← ho];exact hx),fun o x hx=>h.nodup o x (by rw [← ho];exact hx),
  fun o x o' x' hx hx'=>h.apart o x o' x' (by rw [← ho];exact hx) (by rw [← ho];exact hx'),fun o x hx=>h.free o x (by rw [← ho];exact hx),h.znew,h.zlt,h.frame,h.hone⟩
def Vof (ops:List Oper) (effs:List Eff) (σ:St) (D:Nat→Bool):Nat→St
 | 0=>σ
 | n+1=>bif D n then (Vof ops effs σ D n).app (ops.getD n default).dst (effs.getD n ⟨.p (.c .un),[]⟩) else Vof ops effs σ D n
section
variable {ops:List Oper} {effs:List Eff} {σ:St}
def Writes (ops:List Oper) (effs:List Eff) (k:Nat) (l:Bool×Nat):Prop:=l∈wlocs (ops.getD k default).dst (effs.getD k ⟨.p (.c .un),[]⟩)
theorem Vof_succ (D:Nat→Bool) (n:Nat):Vof ops effs σ D (n+1)=bif D n then (Vof ops effs σ D n).app (ops.getD n default).dst (effs.getD n ⟨.p (.c .un),[]⟩) else Vof ops effs σ D n:=rfl
theorem Vof_like {D D':Nat→Bool} {l:Bool×Nat}:∀ (n:Nat),(∀ k,k < n→Writes ops effs k l→D k=D' k)→(Vof ops effs σ D n).like (Vof ops effs σ D' n) l
 | 0,_=>like_refl _ _
 | n + 1, h => by
  have ih:=Vof_like n fun k hk=>h k (by omega)
  unfold Vof
  by_cases hw:Writes ops effs n l
  ·rw [h n (by omega) hw]
   cases D' n
   ·exact ih
   ·exact app_like_in hw
  ·have e1:∀ (b:Bool) (s:St),s.like (bif b then s.app (ops.getD n default).dst (effs.getD n ⟨.p (.c .un),[]⟩) else s) l:=fun b s=>by
    cases b
    ·exact like_refl _ _
    ·exact app_like_not hw
   exact like_trans (like_symm (e1 _ _)) (like_trans ih (e1 _ _))
theorem Vof_above {D:Nat→Bool} {i:Nat} (h:∀ k,i≤k→D k=false):∀ (n:Nat),i≤n→Vof ops effs σ D n=Vof ops effs σ D i
 | 0, hn => by have : i = 0 := by omega
               subst this;rfl
 | n + 1, hn => by
  by_cases e:i=n+1
  ·rw [e]
  ·rw [Vof_succ, h n (by omega), cond_false]
   exact Vof_above h n (by omega)
theorem Vof_add {D:Nat→Bool} {i n:Nat} (hi:i < n) (hD:D i=false) (hw:∀ k l,D k=true→Writes ops effs k l→Writes ops effs i l→k < i) (l:Bool×Nat) :
  (Vof ops effs σ (fun k=>D k || k.beq i) n).like ((Vof ops effs σ D n).app (ops.getD i default).dst (effs.getD i ⟨.p (.c .un),[]⟩)) l:=by
 by_cases hwi:Writes ops effs i l
 ·-- the last writer is i
  have hlast:∀ m,i < m→m≤n→(Vof ops effs σ (fun k=>D k || k.beq i) m).like ((Vof ops effs σ D i).app (ops.getD i default).dst (effs.getD i ⟨.p (.c .un),[]⟩)) l:=by
   intro m
   induction m with
   | zero=>intro h;omega
   | succ m ih =>
    intro hm hmn
    by_cases e:m=i
    ·subst e
     rw [Vof_succ,Nat.beq_refl,Bool.or_true,cond_true]
     exact app_like_in hwi
    ·have ih := ih (by omega) (by omega)
     rw [Vof_succ,show m.beq i=false from beq_ne e,Bool.or_false]
     cases hDm:D m with
     | false=>exact ih
     | true =>
      have hnw:¬ Writes ops effs m l:=fun hwm=>by have:=hw m l hDm hwm hwi;omega
      rw [cond_true]
      exact like_trans (like_symm (app_like_not hnw)) ih
  exact like_trans (hlast n hi (Nat.le_refl _)) (app_like_in hwi)
 ·have h1:(Vof ops effs σ (fun k=>D k || k.beq i) n).like (Vof ops effs σ D n) l:=Vof_like n fun k _ hk=>by
   have:k≠i:=fun e=>hwi (e ▸ hk)
   simp only [beq_ne this,Bool.or_false]
  exact like_trans h1 (app_like_not hwi)
end
def ancsB (ops:List Oper):List (List Nat):=ops.foldl (fun acc o=>acc++[((o.after.toList.filter (Region.binds .any)).flatMap fun e=>e.on::acc.getD e.on []).eraseDups]) []
def traceL (P:Program) (Γ:Gam) (T:List (Nat×Sum)) (ops:Array Oper):List Oper→List Md→St→Option (List (Eff×List (Bool×Nat)))
 | [],_,_=>some []
 | o :: l, mds, σ => match (stepM P Γ T ops (mds.headD {}) o).run σ with
  | some e => match traceL P Γ T ops l mds.tail (σ.app o.dst e) with
   | some r=>some ((e,(stepM P Γ T ops (mds.headD {}) o).reads σ)::r)
   | none=>none
  | none=>none
def meets (l l':List (Bool×Nat)):Bool:=l.any fun x=>l'.any fun y=>(x.1==y.1) && x.2.beq y.2
def pairOK (anc:List (List Nat)) (W R:List (List (Bool×Nat))) (i j:Nat):Bool :=
 (anc.getD j []).any (fun k=>k.beq i) || !(meets (W.getD i []) (W.getD j []) || meets (W.getD i []) (R.getD j []) || meets (R.getD i []) (W.getD j []))
def anyB (P:Program) (Γ:Gam) (T:List (Nat×Sum)) (ops:List Oper) (mds:List Md) (σ:St):Bool :=
 match traceL P Γ T ops.toArray ops mds σ with
 | some tr =>
  let W:=(ops.zip tr).map fun p=>wlocs p.1.dst p.2.1
  let R:=tr.map (·.2)
  let anc:=ancsB ops
  (ops.zipIdx.all fun p=>p.1.after.all fun e=>!Region.binds .any e || Nat.blt e.on p.2) && (List.range ops.length).all fun j=>(List.range j).all fun i=>pairOK anc W R i j
 | none=>false
theorem meets_spec {l l':List (Bool×Nat)} {x:Bool×Nat} (h:x∈l) (h':x∈l'):meets l l'=true:=by
 unfold meets
 rw [List.any_eq_true]
 refine ⟨x,h,?_⟩
 rw [List.any_eq_true]
 exact ⟨x,h',by simp⟩
theorem names_mem:∀ (mds:List Md) (j:Nat),∀ x∈(mds.getD j {}).ids,x∈namesOf mds
 | [],j,x,hx=>by simp at hx
 | m::mds,0,x,hx=>List.mem_append.2 (.inl hx)
 | m::mds,j+1,x,hx=>List.mem_append.2 (.inr (names_mem mds j x (by simpa using hx)))
theorem names_nodup:∀ (mds:List Md),(namesOf mds).Nodup→∀ j,((mds.getD j {}).ids).Nodup
 | [],_,j=>by simp
 | m::mds,h,0=>(List.nodup_append.1 h).1
 | m::mds,h,j+1=>by simpa using names_nodup mds (List.nodup_append.1 h).2.1 j
theorem names_apart:∀ (mds:List Md),(namesOf mds).Nodup→∀ i j,i≠j→∀ x∈(mds.getD i {}).ids,x ∉ (mds.getD j {}).ids
 | [],_,i,j,_,x,hx,_=>by simp at hx
 | m::mds,h,0,0,hij,_,_,_=>hij rfl
 | m::mds,h,0,j+1,_,x,hx,hx'=>(List.nodup_append.1 h).2.2 x hx x (names_mem mds j x (by simpa using hx')) rfl
 | m::mds,h,i+1,0,_,x,hx,hx'=>(List.nodup_append.1 h).2.2 x hx' x (names_mem mds i x (by simpa using hx)) rfl
 | m::mds,h,i+1,j+1,hij,x,hx,hx'=>names_apart mds (List.nodup_append.1 h).2.1 i j (by omega) x (by simpa using hx) (by simpa using hx')
theorem countP_drop {l:List Nat} {p q:Nat→Bool} {i:Nat} (hle:∀ x∈l,q x=true→p x=true) (hi:i∈l) (hp:p i=true) (hq:¬ q i=true):l.countP q < l.countP p:=by
 induction l with
 | nil=>simp at hi
 | cons x l ih =>
  have hmono:l.countP q≤l.countP p:=List.countP_mono_left fun y hy=>hle y (by simp [hy])
  rcases List.mem_cons.1 hi with rfl | hi
  ·rw [List.countP_cons_of_pos hp,List.countP_cons_of_neg hq];omega
  ·have := ih (fun y hy => hle y (by simp [hy])) hi
   rw [List.countP_cons,List.countP_cons]
   by_cases hx:q x=true
   ·rw [if_pos hx,if_pos (hle x (by simp) hx)];omega
   ·rw [if_neg hx];split<;>omega
inductive Anc (ops:List Oper):Nat→Nat→Prop
 | one {i j:Nat} {o:Oper} {e:Edge}:ops[j]?=some o→e∈o.after→Region.binds .any e=true→e.on=i→Anc ops i j
 | more {i j:Nat} {o:Oper} {e:Edge}:ops[j]?=some o→e∈o.after→Region.binds .any e=true→Anc ops i e.on→Anc ops i j
theorem Anc.listed {ops:List Oper} {listed:Array Bool} (hc:ClosedL .any ops.toArray listed) {i j:Nat} (h:Anc ops i j):listed.getD j false=true→listed.getD i false=true:=by
 induction h with
 | one h1 h2 h3 h4=>intro hl;rw [← h4];exact hc _ _ (by rw [List.getElem?_toArray];exact h1) hl _ h2 h3
 | more h1 h2 h3 _ ih=>intro hl;exact ih (hc _ _ (by rw [List.getElem?_toArray];exact h1) hl _ h2 h3)
theorem Anc.ready {ops:List Oper} {listed:Array Bool} (hc:ClosedL .any ops.toArray listed) {i j:Nat} (h:Anc ops i j) (hr:j∈Region.ready .any ops.toArray listed):listed.getD i false=true:=by
 obtain ⟨_,oj,hoj,hall⟩:=mem_ready.1 hr
 rw [List.getElem?_toArray] at hoj
 cases h with
 | one h1 h2 h3 h4 =>
  rw [h1] at hoj;cases hoj
  rw [← h4];exact hall _ h2 h3
 | more h1 h2 h3 h4 =>
  rw [h1] at hoj;cases hoj
  exact h4.listed hc (hall _ h2 h3)
theorem Anc.lt {ops:List Oper} (hE:∀ (j:Nat) (o:Oper) (e:Edge),ops[j]?=some o→e∈o.after→Region.binds .any e=true→e.on < j) {i j:Nat} (h:Anc ops i j):i < j:=by
 induction h with
 | one h1 h2 h3 h4=>rw [← h4];exact hE _ _ _ h1 h2 h3
 | more h1 h2 h3 _ ih=>exact Nat.lt_trans ih (hE _ _ _ h1 h2 h3)
theorem ancsB_spec (ops:List Oper):∀ (j i:Nat),i∈(ancsB ops).getD j []→Anc ops i j:=by
 have key:∀ (rest done:List Oper) (acc:List (List Nat)),ops=done++rest→acc.length=done.length→(∀ j i,i∈acc.getD j []→Anc ops i j) →
   ∀ j i,i∈(rest.foldl (fun acc o=>acc++[((o.after.toList.filter (Region.binds .any)).flatMap fun e=>e.on::acc.getD e.on []).eraseDups]) acc).getD j []→Anc ops i j:=by
  intro rest
  induction rest with
  | nil=>intro done acc _ _ h j i hi;exact h j i hi
  | cons o rest ih =>
   intro done acc hops hlen h j i hi
   rw [List.foldl_cons] at hi
   refine ih (done++[o]) _ (by rw [hops];simp) (by simp [hlen]) ?_ j i hi
   intro j i hi
   have ho:ops[done.length]?=some o:=by rw [hops];simp
   by_cases hj:j < acc.length
   ·rw [List.getD_eq_getElem?_getD, List.getElem?_append_left hj, ← List.getD_eq_getElem?_getD] at hi
    exact h j i hi
   ·by_cases hj2 : j = acc.length
    ·subst hj2
     rw [List.getD_eq_getElem?_getD,List.getElem?_append_right (Nat.le_refl _)] at hi
     simp only [Nat.sub_self,List.getElem?_cons_zero,Option.getD_some,List.mem_eraseDups,List.mem_flatMap,List.mem_filter,List.mem_cons] at hi
     obtain ⟨e,⟨he,hb⟩,hi⟩:=hi
     rw [hlen]
     rcases hi with hi | hi
     ·exact .one ho (by simpa using he) hb hi.symm
     ·exact .more ho (by simpa using he) hb (h e.on i hi)
    ·rw [List.getD_eq_getElem?_getD, List.getElem?_eq_none (by simp; omega)] at hi
     simp at hi
 exact key ops [] [] rfl rfl (by intro j i hi;simp at hi)
section
variable {P:Program} {w0:World} {Z0:Nat→Prop} {L:List Nat} {N:Nat}
theorem traceL_spec {Γ:Gam} {T:List (Nat×Sum)} {ops:List Oper} {mds:List Md} {σ0:St}:∀ (l:List Oper) (k:Nat) (tr0 tr:List (Eff×List (Bool×Nat))) (ms:List Md) (σ σ':St) (ps:List Prop),(∀ j,l[j]?=ops[k+j]?)→(∀ j,ms.getD j {}=mds.getD (k+j) {})→tr0.length=k →
  traceL P Γ T ops.toArray l ms σ=some tr→runL P Γ T ops.toArray l ms σ=some (σ',ps)→AllP ps→(∀ n,n≤k→∀ effs:List Eff,effs=(tr0++tr).map (·.1)→n=k→σ=Vof ops effs σ0 (fun _=>true) n) →
  ∀ effs:List Eff,effs=(tr0++tr).map (·.1)→tr.length=l.length∧σ'=Vof ops effs σ0 (fun _=>true) (k+l.length) ∧
   ∀ j,j < l.length→∃ o e,ops[k+j]?=some o∧effs[k+j]?=some e∧(stepM P Γ T ops.toArray (mds.getD (k+j) {}) o).run (Vof ops effs σ0 (fun _=>true) (k+j))=some e∧AllP ((stepM P Γ T ops.toArray (mds.getD (k+j) {}) o).obl (Vof ops effs σ0 (fun _=>true) (k+j))) ∧
    (tr0++tr)[k+j]?=some (e,(stepM P Γ T ops.toArray (mds.getD (k+j) {}) o).reads (Vof ops effs σ0 (fun _=>true) (k+j)))
 | [], k, tr0, tr, ms, σ, σ', ps, hl, hm, hk, ht, hr, _, hV, effs, he => by
  simp only [traceL,Option.some.injEq] at ht
  simp only [runL,Option.some.injEq,Prod.mk.injEq] at hr
  subst ht
  obtain ⟨rfl,_⟩:=hr
  exact ⟨rfl,hV k (Nat.le_refl _) effs he rfl,fun j hj=>by simp at hj⟩
 | o :: l, k, tr0, tr, ms, σ, σ', ps, hl, hm, hk, ht, hr, hps, hV, effs, he => by
  have h0:ops[k]?=some o:=by simpa using (hl 0).symm
  have hm0:ms.headD {}=mds.getD k {}:=by have:=hm 0;simp only [Nat.add_zero] at this;rw [← this];cases ms<;>rfl
  simp only [traceL] at ht
  simp only [runL] at hr
  split at ht
  ·rename_i e hre
   split at ht
   ·rename_i r hrr
    simp only [Option.some.injEq] at ht
    subst ht
    rw [hre] at hr
    simp only at hr
    split at hr
    ·rename_i σ1 ps1 hr1
     simp only [Option.some.injEq,Prod.mk.injEq] at hr
     obtain ⟨rfl,rfl⟩:=hr
     obtain ⟨hp1,hp2⟩:=AllP.append hps
     have hσ:=hV k (Nat.le_refl _) effs he rfl
     have hek:effs[k]?=some e:=by rw [he,← hk];simp
     have ih:=traceL_spec (Γ:=Γ) (T:=T) (mds:=mds) (σ0:=σ0) l (k+1) (tr0++[(e,(stepM P Γ T ops.toArray (ms.headD {}) o).reads σ)]) r ms.tail (σ.app o.dst e) σ1 ps1
      (fun j=>by have:=hl (j+1);simpa [Nat.add_assoc,Nat.add_comm 1 j] using this) (fun j=>by have:=hm (j+1);rw [show k+1+j=k+(j+1) by omega,← this];cases ms<;>simp [List.getD]) (by simp [hk]) hrr hr1 hp2
      (fun n _ effs' he' hn => by
       have he2:effs'=effs:=by rw [he',he];simp
       subst hn;subst he2
       rw [Vof_succ,cond_true,← hσ]
       congr 1
       ·rw [List.getD_eq_getElem?_getD,h0];rfl
       ·rw [List.getD_eq_getElem?_getD,hek];rfl) effs (by rw [he];simp)
     obtain ⟨i1,i2,i3⟩:=ih
     refine ⟨by simp [i1],by rw [i2];congr 1;simp;omega,fun j hj=>?_⟩
     cases j with
     | zero =>
      refine ⟨o,e,by simpa using h0,by simpa using hek,?_,?_,?_⟩
      ·rw [Nat.add_zero,← hσ,← hm0];exact hre
      ·rw [Nat.add_zero,← hσ,← hm0];exact hp1
      ·rw [Nat.add_zero,← hσ,← hm0,← hk];simp
     | succ j =>
      obtain ⟨o',e',a1,a2,a3,a4,a5⟩:=i3 j (by simpa using hj)
      rw [show k+1+j=k+(j+1) by omega] at a1 a2 a3 a4 a5
      refine ⟨o',e',a1,a2,a3,a4,?_⟩
      rw [← a5];simp
    ·cases hr
   ·cases ht
  ·cases ht
theorem wpAny_runL {Γ:Gam} (hΓ:GamOK P Γ) {T:List (Nat×Sum)} (hT:TabOK P w0 L T) {ops:List Oper} {mds:List Md} {K:List Nat} {σ σ':St} {ps:List Prop} {Q:Exit→Act→World→Prop} (hN:∀ (j d:Nat),(ops.toArray[j]?).bind (·.dst)=some d→d < N) (hml:mds.length=ops.length)
  (hnd:(namesOf mds).Nodup) (hfr:∀ i∈namesOf mds,i ∉ K) (hr:runL P Γ T ops.toArray ops mds σ=some (σ',ps)) (hps:AllP ps) (hB:anyB P Γ T ops mds σ=true) (hQ:∀ a' w',(∃ E Z,RelE w0 Z0 L N (namesOf mds++K) σ' a' w' E Z)→Q .normal a' w')
  {a:Act} {w:World} (hR:∃ E Z,RelE w0 Z0 L N K σ a w E Z):wpAny P .any ops.toArray Q ops.toArray.size (Array.replicate ops.toArray.size false) a w:=by
 unfold anyB at hB
 split at hB
 case h_2=>cases hB
 rename_i tr htr
 simp only [Bool.and_eq_true] at hB
 obtain ⟨hE0,hP0⟩:=hB
 have hE:∀ (j:Nat) (o:Oper) (e:Edge),ops[j]?=some o→e∈o.after→Region.binds .any e=true→e.on < j:=by
  intro j o e ho he hb
  have hmem:(o,j)∈ops.zipIdx:=by rw [List.mem_zipIdx_iff_getElem?];exact ho
  have:=List.all_eq_true.1 hE0 (o,j) hmem
  have:=Array.all_eq_true'.1 this e he
  simp only [hb,Bool.not_true,Bool.false_or] at this
  simpa [Nat.blt_eq] using this
 obtain ⟨hlen,hfin,hstep⟩:=traceL_spec (P:=P) (Γ:=Γ) (T:=T) (mds:=mds) (σ0:=σ) ops 0 [] tr mds σ σ' ps (by simp) (by simp) rfl htr hr hps (fun n hn effs _ e=>by subst e;rfl) (tr.map (·.1)) (by simp)
 simp only [Nat.zero_add,List.nil_append] at hfin hstep
 generalize heffs:tr.map (·.1)=effs at *
 -- what pairOK says
 have hpair:∀ i j:Nat,i < j→j < ops.length→Anc ops i j∨((∀ l,Writes ops effs i l→¬ Writes ops effs j l)∧(∀ l e R,tr[j]?=some (e,R)→Writes ops effs i l→l ∉ R)∧(∀ l e R,tr[i]?=some (e,R)→Writes ops effs j l→l ∉ R)):=by
  intro i j hij hj
  have:=List.all_eq_true.1 (List.all_eq_true.1 hP0 j (List.mem_range.2 hj)) i (List.mem_range.2 hij)
  unfold pairOK at this
  rw [Bool.or_eq_true] at this
  rcases this with h1 | h1
  ·left
   obtain ⟨k,hk,hki⟩:=List.any_eq_true.1 h1
   have:=Nat.eq_of_beq_eq_true hki
   subst this
   exact ancsB_spec ops j k hk
  ·right
   simp only [Bool.not_eq_true',Bool.or_eq_false_iff] at h1
   have hW:∀ k,k < ops.length→((ops.zip tr).map fun p=>wlocs p.1.dst p.2.1).getD k []=wlocs (ops.getD k default).dst (effs.getD k ⟨.p (.c .un),[]⟩):=by
    intro k hk
    obtain ⟨o,e,h1,h2,_,_,h5⟩:=hstep k hk
    rw [List.getD_eq_getElem?_getD,List.getElem?_map]
    have:(ops.zip tr)[k]?=some (o,(e,(stepM P Γ T ops.toArray (mds.getD k {}) o).reads (Vof ops effs σ (fun _=>true) k))):=by rw [List.getElem?_zip_eq_some];exact ⟨h1,h5⟩
    rw [this]
    simp [List.getD_eq_getElem?_getD,h1,h2]
   have hRd:∀ k e R,tr[k]?=some (e,R)→(tr.map (·.2)).getD k []=R:=by
    intro k e R hk
    rw [List.getD_eq_getElem?_getD,List.getElem?_map,hk];rfl
   refine ⟨fun l h2 h3=>?_,fun l e R h2 h3 h4=>?_,fun l e R h2 h3 h4=>?_⟩
   ·have := meets_spec h2 h3
    rw [← hW i (by omega),← hW j hj,h1.1.1] at this;cases this
   ·have := meets_spec h3 h4
    rw [← hW i (by omega),← hRd j e R h2,h1.1.2] at this;cases this
   ·have := meets_spec h4 h3
    rw [← hW j hj,← hRd i e R h2,h1.2] at this;cases this
 have hnames:=names_mem mds
 have hndj:=names_nodup mds hnd
 have hapart:=names_apart mds hnd
 have hsz:ops.toArray.size=ops.length:=by simp
 rw [hsz]
 -- whoever is not listed at the end
 have hall:∀ (listed:Array Bool),listed.size=ops.length→Region.ready .any ops.toArray listed=[]→∀ k,k < ops.length→listed.getD k false=true:=by
  intro listed hls hrd k
  induction k using Nat.strongRecOn with
  | _ k ih =>
   intro hk
   cases hl:listed.getD k false with
   | true=>rfl
   | false =>
    exfalso
    have ho:ops.toArray[k]?=some ops[k]:=by rw [List.getElem?_toArray];simp [hk]
    have:k∈Region.ready .any ops.toArray listed:=mem_ready.2 ⟨by
     rw [Array.getD_eq_getD_getElem?,Array.getElem?_eq_getElem (by omega)] at hl ⊢
     simpa using hl,ops[k],ho,fun e he hb=>ih e.on (hE k ops[k] e (by simp [hk]) he hb) (Nat.lt_trans (hE k ops[k] e (by simp [hk]) he hb) hk)⟩
    rw [hrd] at this;cases this
 have main:∀ (fuel:Nat) (listed:Array Bool) (a:Act) (w:World),listed.size=ops.length→ClosedL .any ops.toArray listed→(List.range ops.length).countP (fun k=>!listed.getD k false)≤fuel →
   (∃ E Z K',RelE w0 Z0 L N K' (Vof ops effs σ (fun k=>listed.getD k false) ops.length) a w E Z∧∀ x∈K',x∈K∨∃ j,listed.getD j false=true∧x∈(mds.getD j {}).ids)→wpAny P .any ops.toArray Q fuel listed a w:=by
  have finish:∀ (listed:Array Bool) (a:Act) (w:World),(∀ k,k < ops.length→listed.getD k false=true) →
    (∃ E Z K',RelE w0 Z0 L N K' (Vof ops effs σ (fun k=>listed.getD k false) ops.length) a w E Z∧∀ x∈K',x∈K∨∃ j,listed.getD j false=true∧x∈(mds.getD j {}).ids)→Q .normal a w:=by
   rintro listed a w hl ⟨E,Z,K',hR,hK'⟩
   refine hQ a w (more_post (hR.like fun l=>?_) fun x hx=>?_)
   ·rw [hfin];exact Vof_like _ fun k hk _=>hl k hk
   ·rcases hK' x hx with h1 | ⟨j, _, h1⟩
    ·exact List.mem_append.2 (.inr h1)
    ·exact List.mem_append.2 (.inl (hnames j x h1))
  intro fuel
  induction fuel with
  | zero =>
   intro listed a w hls hcl hcnt hR
   have hl:∀ k,k < ops.length→listed.getD k false=true:=fun k hk=>by
    have h0:(List.range ops.length).countP (fun k=>!listed.getD k false)=0:=by omega
    have:=List.countP_eq_zero.1 h0 k (List.mem_range.2 hk)
    simpa using this
   refine ⟨?_,finish listed a w hl hR⟩
   rw [List.eq_nil_iff_forall_not_mem]
   intro k hk
   obtain ⟨h1,o,ho,_⟩:=mem_ready.1 hk
   have hk2:k < ops.length:=by
    have:=(Array.getElem?_eq_some_iff.1 ho).1;simpa using this
   exact not_listed h1 (hl k hk2)
  | succ fuel ih =>
   intro listed a w hls hcl hcnt hR
   refine ⟨fun hrd=>finish listed a w (hall listed hls hrd) hR,fun i hi=>?_⟩
   obtain ⟨hun,oi,hoi,_⟩:=mem_ready.1 hi
   have hi2:i < ops.length:=by
    have:=(Array.getElem?_eq_some_iff.1 hoi).1;simpa using this
   have hDi:listed.getD i false=false:=by
    cases hd:listed.getD i false with
    | false=>rfl
    | true=>exact (not_listed hun hd).elim
   obtain ⟨o,e,h1,h2,h3,h4,h5⟩:=hstep i hi2
   have hoo:oi=o:=by rw [List.getElem?_toArray,h1] at hoi;cases hoi;rfl
   subst hoo
   obtain ⟨E,Z,K',hR,hK'⟩:=hR
   -- the operation sees what it saw
   have hsee:∀ l∈(stepM P Γ T ops.toArray (mds.getD i {}) oi).reads (Vof ops effs σ (fun _=>true) i),(Vof ops effs σ (fun _=>true) i).like (Vof ops effs σ (fun k=>listed.getD k false) ops.length) l:=by
    intro l hl
    have e1:(Vof ops effs σ (fun k=>Nat.blt k i) ops.length).like (Vof ops effs σ (fun k=>listed.getD k false) ops.length) l:=Vof_like _ fun k hk hw=>by
     by_cases hki:k < i
     ·have hb : Nat.blt k i = true := by rw [Nat.blt_eq]; exact hki
      rw [hb]
      rcases hpair k i hki hi2 with h6 | ⟨_,h6,_⟩
      ·exact (h6.ready hcl hi).symm
      ·exact absurd hl (h6 l e _ h5 hw)
     ·have hb:Nat.blt k i=false:=by
       cases hbb:Nat.blt k i with
       | false=>rfl
       | true=>rw [Nat.blt_eq] at hbb;exact absurd hbb hki
      rw [hb]
      by_cases hk2:k=i
      ·subst hk2;exact hDi.symm
      ·cases hd : listed.getD k false with
       | false=>rfl
       | true =>
        rcases hpair i k (by omega) hk with h6 | ⟨_,_,h6⟩
        ·have:=h6.listed hcl hd;rw [hDi] at this;cases this
        ·exact absurd hl (h6 l e _ h5 hw)
    have e2:Vof ops effs σ (fun k=>Nat.blt k i) ops.length=Vof ops effs σ (fun k=>Nat.blt k i) i:=Vof_above (fun k hk=>by
     cases hbb:Nat.blt k i with
     | false=>rfl
     | true=>rw [Nat.blt_eq] at hbb;omega) _ (Nat.le_of_lt hi2)
    have e3:(Vof ops effs σ (fun _=>true) i).like (Vof ops effs σ (fun k=>Nat.blt k i) i) l:=Vof_like _ fun k hk _=>by
     have:Nat.blt k i=true:=by rw [Nat.blt_eq];exact hk
     exact this.symm
    rw [e2] at e1
    exact like_trans e3 e1
   obtain ⟨c1,c2,_⟩:=RM.run_congr hsee
   have hst:=stepM_ends hR hΓ hT hoi (md:=mds.getD i {}) (fun x hx hx'=>by
    rcases hK' x hx' with h6 | ⟨j,hj,h6⟩
    ·exact hfr x (hnames i x hx) h6
    ·have : i ≠ j := fun e => by subst e; rw [hDi] at hj; cases hj
     exact hapart i j this x hx h6) (hndj i) hN (by rw [c1];exact h3) (by rw [c2];exact h4) Q
   refine wpOp_mono ?_ hst
   rintro a' w' ⟨v,rfl,E',Z',hR'⟩
   have hD':∀ k,(listed.setIfInBounds i true).getD k false=(listed.getD k false || k.beq i):=fun k=>by
    by_cases hk:i=k
    ·subst hk
     rw [Nat.beq_refl,Bool.or_true,Array.getD_eq_getD_getElem?,Array.getElem?_setIfInBounds]
     simp [hls,hi2]
    ·rw [getD_set_ne false hk,beq_ne (Ne.symm hk),Bool.or_false]
   refine ih _ _ _ (by simpa using hls) (hcl.set hi) ?_ ⟨E',Z',_,hR'.like fun l=>?_,fun x hx=>?_⟩
   ·have:=countP_drop (l:=List.range ops.length) (p:=fun k=>!listed.getD k false) (q:=fun k=>!(listed.setIfInBounds i true).getD k false) (i:=i) (fun x _ hx=>by
     simp only [hD',Bool.not_or,Bool.and_eq_true] at hx;exact hx.1) (List.mem_range.2 hi2) (by simp only [hDi];rfl) (by simp only [hD',Nat.beq_refl,Bool.or_true];simp)
    omega
   ·have:=Vof_add (ops:=ops) (effs:=effs) (σ:=σ) (D:=fun k=>listed.getD k false) hi2 hDi (fun k l hk hw hwi=>by
     rcases Nat.lt_trichotomy k i with h6 | h6 | h6
     ·exact h6
     ·subst h6;rw [hDi] at hk;cases hk
     ·exfalso
      have hkn:k < ops.length:=by
       rcases Nat.lt_or_ge k ops.length with h' | h'
       ·exact h'
       ·rw [Array.getD_eq_getD_getElem?,Array.getElem?_eq_none (by omega)] at hk;cases hk
      rcases hpair i k h6 hkn with h7 | ⟨h7,_⟩
      ·have:=h7.listed hcl hk;rw [hDi] at this;cases this
      ·exact h7 l hwi hw) l
    have e1:(fun k=>(listed.setIfInBounds i true).getD k false)=fun k=>listed.getD k false || k.beq i:=funext hD'
    rw [e1]
    have hd1:(ops.getD i default).dst=oi.dst:=by rw [List.getD_eq_getElem?_getD,h1];rfl
    have hd2:effs.getD i ⟨.p (.c .un),[]⟩=e:=by rw [List.getD_eq_getElem?_getD,h2];rfl
    rw [hd1,hd2] at this
    exact like_symm this
   ·rcases List.mem_append.1 hx with hx | hx
    ·exact .inr ⟨i,by rw [hD',Nat.beq_refl,Bool.or_true],hx⟩
    ·rcases hK' x hx with h6 | ⟨j, hj, h6⟩
     ·exact .inl h6
     ·exact .inr ⟨j,by rw [hD',hj];rfl,h6⟩
 obtain ⟨E,Z,hR⟩:=hR
 refine main _ _ _ _ (by simp) (fun j oj _ hl=>by simp [Array.getD_eq_getD_getElem?,Array.getElem?_replicate] at hl;split at hl<;>simp at hl) ?_ ⟨E,Z,K,hR.like fun l=>?_,fun x hx=>.inl hx⟩
 ·have := List.countP_le_length (p := fun k => !(Array.replicate ops.length false).getD k false) (l := List.range ops.length)
  simpa using this
 ·have e1:Vof ops effs σ (fun k=>(Array.replicate ops.length false).getD k false) ops.length=Vof ops effs σ (fun k=>(Array.replicate ops.length false).getD k false) 0:=Vof_above (fun k _=>by
   rw [Array.getD_eq_getD_getElem?,Array.getElem?_replicate];split<;>rfl) _ (Nat.zero_le _)
  rw [e1];exact like_refl _ _
end
end Go.Proofs.Ytmcpigcpachdkaa
