/- Loads, addresses, lengths, parts: what is known of their value holds. No program is named; no condition. -/
import Derived.Test.YtmcpigcpachdkaaPD
namespace Go.Proofs.Ytmcpigcpachdkaa
open Go.RowKit
set_option linter.unusedVariables false
set_option linter.unusedSimpArgs false
section
variable {P:Program} {w0:World} {Z0:Nat→Prop} {L:List Nat} {N:Nat} {K:List Nat} {σ:St} {a:Act} {w:World} {E:Env} {Z:Nat→Prop}
theorem bif_some {α:Type} {b:Bool} {m:RM α} {σ:St} {x:α} (h:(bif b then m else .fail).run σ=some x):b=true∧m.run σ=some x:=by
 cases b
 ·cases h
 ·exact ⟨rfl,h⟩
theorem dif_some {α:Type} {p:Prop} [Decidable p] {m:p→RM α} {σ:St} {x:α} (h:(if h:p then m h else .fail).run σ=some x):∃ hp:p,(m hp).run σ=some x:=by
 split at h
 ·rename_i hp;exact ⟨hp,h⟩
 ·cases h
theorem obj_some {α:Type} {o:Nat} {k:Ob→RM α} {σ:St} {x:α} (h:(RM.obj o k).run σ=some x):∃ b,σ.obj o=some b∧(k b).run σ=some x:=by
 simp only [RM.run] at h
 cases hb:σ.obj o with
 | none=>rw [hb] at h;cases h
 | some b=>rw [hb] at h;exact ⟨b,rfl,h⟩
theorem obj_obl {α:Type} {o:Nat} {k:Ob→RM α} {σ:St} {b:Ob} (h:AllP ((RM.obj o k).obl σ)) (hb:σ.obj o=some b):AllP ((k b).obl σ):=by
 simp only [RM.obl,hb] at h;exact h
theorem bif_obl {α:Type} {b:Bool} {m:RM α} {σ:St} (h:AllP ((bif b then m else .fail).obl σ)) (hb:b=true):AllP (m.obl σ):=by subst hb;exact h
theorem dif_obl {α:Type} {p:Prop} [Decidable p] {m:p→RM α} {σ:St} (h:AllP ((if h:p then m h else .fail).obl σ)) (hp:p):AllP ((m hp).obl σ):=by rw [dif_pos hp] at h;exact h
theorem bind_split {α β:Type} {m:RM α} {f:α→RM β} {σ:St} {b:β} (hr:(m.bind f).run σ=some b) (ho:AllP ((m.bind f).obl σ)):∃ a,m.run σ=some a∧AllP (m.obl σ)∧(f a).run σ=some b∧AllP ((f a).obl σ):=by
 obtain ⟨a,h1,h2⟩:=RM.run_bind hr
 have h3:=RM.obl_bind ho h1
 exact ⟨a,h1,h3.1,h2,h3.2⟩
theorem obj_split {α:Type} {o:Nat} {k:Ob→RM α} {σ:St} {x:α} (hr:(RM.obj o k).run σ=some x) (ho:AllP ((RM.obj o k).obl σ)):∃ b,σ.obj o=some b∧(k b).run σ=some x∧AllP ((k b).obl σ):=by
 obtain ⟨b,h1,h2⟩:=obj_some hr
 exact ⟨b,h1,h2,obj_obl ho h1⟩
theorem bif_split {α:Type} {b:Bool} {m:RM α} {σ:St} {x:α} (hr:(bif b then m else .fail).run σ=some x) (ho:AllP ((bif b then m else .fail).obl σ)):b=true∧m.run σ=some x∧AllP (m.obl σ):=by
 obtain ⟨h1,h2⟩:=bif_some hr
 exact ⟨h1,h2,bif_obl ho h1⟩
theorem dif_split {α:Type} {p:Prop} [Decidable p] {m:p→RM α} {σ:St} {x:α} (hr:(if h:p then m h else .fail).run σ=some x) (ho:AllP ((if h:p then m h else .fail).obl σ)):∃ hp:p,(m hp).run σ=some x∧AllP ((m hp).obl σ):=by
 obtain ⟨h1,h2⟩:=dif_some hr
 exact ⟨h1,h2,dif_obl ho h1⟩
theorem need_split {α:Type} {p:Prop} {m:RM α} {σ:St} {x:α} (hr:(RM.need p m).run σ=some x) (ho:AllP ((RM.need p m).obl σ)):p∧m.run σ=some x∧AllP (m.obl σ):=⟨ho.1,hr,ho.2⟩
theorem ret_some {α:Type} {y:α} {σ:St} {x:α} (hr:(RM.ret y).run σ=some x):x=y:=by simp only [RM.run,Option.some.injEq] at hr;exact hr.symm
theorem dens.drop_:∀ {cs:List CV} {vs:List Value} (k:Nat),dens E Z w cs vs→dens E Z w (cs.drop k) (vs.drop k)
 | [],[],k,_=>by simp [dens]
 | _::_,_::_,0,h=>h
 | _::_,_::_,k+1,h=>dens.drop_ k h.2
theorem dens.take_:∀ {cs:List CV} {vs:List Value} (k:Nat),dens E Z w cs vs→dens E Z w (cs.take k) (vs.take k)
 | [],[],k,_=>by simp [dens]
 | _::_,_::_,0,h=>by simp [dens]
 | _::_,_::_,k+1,h=>⟨h.1,dens.take_ k h.2⟩
theorem dens.append_:∀ {cs:List CV} {vs:List Value} {ds:List CV} {us:List Value},dens E Z w cs vs→dens E Z w ds us→dens E Z w (cs++ds) (vs++us)
 | [],[],_,_,_,k=>k
 | _::_,_::_,_,_,h,k=>⟨h.1,h.2.append_ k⟩
theorem mem_drop_ids {l:List CV} {k i:Nat} (h:i∈(l.drop k).flatMap CV.ids):i∈l.flatMap CV.ids:=by
 obtain ⟨c,hc,hi⟩:=List.mem_flatMap.1 h
 exact List.mem_flatMap.2 ⟨c,List.mem_of_mem_drop hc,hi⟩
theorem mem_take_ids {l:List CV} {k i:Nat} (h:i∈(l.take k).flatMap CV.ids):i∈l.flatMap CV.ids:=by
 obtain ⟨c,hc,hi⟩:=List.mem_flatMap.1 h
 exact List.mem_flatMap.2 ⟨c,List.mem_of_mem_take hc,hi⟩
theorem cut_some {l l':List CV} {c n:Nat} (h:(cut l c n).run σ=some l'):c+n≤l.length∧l'=(l.drop c).take n:=by
 obtain ⟨h1,h2⟩:=bif_some h
 simp only [RM.run,Option.some.injEq] at h2
 exact ⟨Nat.le_of_ble_eq_true h1,h2.symm⟩
theorem denL_list:∀ {c:CV} {vs:List Value},c.denL E Z w vs→c.isList=true∧dens E Z w c.list vs
 | .cnil,vs,h=>by rw [show vs=[] from h];exact ⟨rfl,trivial⟩
 | .ccons a b, vs, h => by
  obtain ⟨x,xs,rfl,h1,h2⟩:=h
  have:=denL_list h2
  exact ⟨this.1,h1,this.2⟩
 | .un,_,h | .v _,_,h | .ptr _ _,_,h | .sl _,_,h | .pe _ _ _ _,_,h | .ro _ _,_,h | .pr _ _ _,_,h | .cl _ _,_,h | .nb _,_,h=>h.elim
theorem chain_denL:∀ {l:List CV} {vs:List Value},dens E Z w l vs→(CV.chain l).denL E Z w vs
 | [],[],_=>rfl
 | _::_,_::_,h=>⟨_,_,rfl,h.1,chain_denL h.2⟩
theorem chain_ids:∀ (l:List CV),(CV.chain l).ids=l.flatMap CV.ids
 | []=>rfl
 | c::l=>by simp [CV.chain,CV.ids,chain_ids l]
theorem list_ids:∀ (c:CV),c.isList=true→c.list.flatMap CV.ids=c.ids
 | .cnil,_=>rfl
 | .ccons a b,h=>by simp only [CV.list,CV.ids,List.flatMap_cons,list_ids b h]
 | .un,h | .v _,h | .ptr _ _,h | .sl _,h | .pe _ _ _ _,h | .ro _ _,h | .pr _ _ _,h | .cl _ _,h | .nb _,h=>by cases h
theorem Sh.cvs_den:∀ (s:Sh) {cs:List Value} {x:s.D},s.rd w Z cs x→dens E Z w (s.cvs false x) cs
 | .int _,_,_,h=>by rw [show _=_ from h];exact ⟨rfl,trivial⟩
 | .bool _,_,_,h=>by rw [show _=_ from h];exact ⟨rfl,trivial⟩
 | .u8 _,_,_,h=>by rw [h.1];exact ⟨rfl,trivial⟩
 | .str _,_,_,h=>by rw [show _=_ from h];exact ⟨rfl,trivial⟩
 | .pair a b, _, _, h => by
  obtain ⟨c,d,rfl,h1,h2⟩:=h
  exact (a.cvs_den h1).append_ (b.cvs_den h2)
 | .st _ a,_,_,h=>a.cvs_den h
 | .sl t a, _, _, h => by
  have h':=h
  obtain ⟨A,c,vs,rfl,_⟩:=h
  exact ⟨h',trivial⟩
 | .fn0 f, _, _, h => by
  rw [show _=_ from h]
  refine ⟨?_,trivial⟩
  unfold kC kV
  cases f.beq 4294967295
  ·exact ⟨[],rfl,rfl⟩
  ·exact rfl
 | .fn f a, _, _, h => by
  obtain ⟨ps,rfl,h1⟩:=h
  exact ⟨⟨ps,rfl,chain_denL (a.cvs_den h1)⟩,trivial⟩
 | .pt a, _, _, h => by
  obtain ⟨b,off,ds,rfl,h1,h2,h3⟩:=h
  exact ⟨⟨b,off,ds,rfl,h1,h2,h3⟩,trivial⟩
theorem Sh.cvs_own:∀ (s:Sh) {cs:List Value} {x:s.D} {F:List Nat},s.ow w cs x F→dens E Z w (s.cvs true x) cs
 | .int _,_,_,_,h=>by rw [h.1];exact ⟨rfl,trivial⟩
 | .bool _,_,_,_,h=>by rw [h.1];exact ⟨rfl,trivial⟩
 | .u8 _,_,_,_,h=>by rw [h.1];exact ⟨rfl,trivial⟩
 | .str _,_,_,_,h=>by rw [h.1];exact ⟨rfl,trivial⟩
 | .pair a b, _, _, _, h => by
  obtain ⟨c,d,G,H,rfl,rfl,h1,h2⟩:=h
  exact (a.cvs_own h1).append_ (b.cvs_own h2)
 | .st _ a,_,_,_,h=>a.cvs_own h
 | .sl t a, _, _, _, h => by
  obtain ⟨v,vs,Fs,rfl,_⟩:=h
  exact ⟨trivial,trivial⟩
 | .fn0 _,_,_,_,h | .fn _ _,_,_,_,h | .pt _,_,_,_,h=>h.elim
theorem Sh.cvs_ids (dp:Bool):∀ (s:Sh) (x:s.D),(s.cvs dp x).flatMap CV.ids=[]
 | .int _,_ | .bool _,_ | .u8 _,_ | .str _,_=>rfl
 | .pair a b,x=>by simp only [Sh.cvs,List.flatMap_append,a.cvs_ids,b.cvs_ids];rfl
 | .st _ a,x=>a.cvs_ids dp x
 | .sl _ a,xs=>by cases dp<;>rfl
 | .fn0 f, _ => by
  show [kC f].flatMap CV.ids=[]
  unfold kC;cases f.beq 4294967295<;>rfl
 | .fn _ a,x=>by simp [Sh.cvs,CV.ids,chain_ids,a.cvs_ids]
 | .pt _,_=>rfl
theorem row_cell {e:TypeId} {k:Nat} {h:Value} {n:Nat} {fl:List Value} (ho:ownsRw w 0 e k h n fl) {g off l cap:Nat} (hh:h=.slice (some ⟨g,off,none⟩) l cap) {j:Nat} {u:Value} (hj:fl[j]?=some u):w.cell? ⟨g,off+j,none⟩=some u:=by
 rcases ho.2 with ⟨e1,_⟩ | ⟨g',off',cap',cur,e1,_,hg,_,_,_,ht⟩
 ·rw [e1] at hh;cases hh
 ·rw [e1] at hh; cases hh
  rw [cell_of_row w g (off+j) cur _ (0,0) hg]
  rw [← ht,List.getElem?_take] at hj
  split at hj
  ·rw [List.getElem?_drop] at hj;simpa using hj
  ·cases hj
theorem agg_run {t:TypeId} {ag:Bool} (h:isAggT P t=some ag) (w:World):(isAgg t).run P w=.ok ag w:=by
 unfold isAggT at h
 cases hu:P.underlying t with
 | none=>rw [hu] at h;cases h
 | some d =>
  rw [hu] at h
  simp only [Option.map_some,Option.some.injEq] at h
  unfold isAgg
  simp only [Sem.run_bind,run_underlying hu,Result.andThen_ok]
  cases d<;>simp_all
theorem size_run {t:TypeId} {n:Nat} (h:infoSize P t=some n) (w:World):(sizeOf t).run P w=.ok n w:=by
 unfold infoSize at h
 cases hi:P.info? t with
 | none=>rw [hi] at h;cases h
 | some i =>
  rw [hi] at h
  simp only [Option.map_some,Option.some.injEq] at h
  simp [sizeOf,typeInfo,hi,h]
theorem addr_add (b o j:Nat):(⟨b,o,none⟩:Addr).add j=⟨b,o+j,none⟩:=by
 unfold Addr.add;split
 ·rename_i h;rw [h];rfl
 ·rfl
theorem load_at {t:TypeId} {n b o:Nat} {ag:Bool} {l:List CV} {vs:List Value} {p:PV} (hn:infoSize P t=some n) (ha:isAggT P t=some ag) (hl:l.length=n) (hd:dens E Z w l vs) (hc:∀ j u,vs[j]?=some u→w.cell? ⟨b,o+j,none⟩=some u)
  (hp:(asPV ag l).run σ=some p):∃ v,(loadVar t ⟨b,o,none⟩).run P w=.ok v w∧p.den E Z w v∧p.ids=l.flatMap CV.ids:=by
 unfold loadVar
 simp only [Sem.run_bind,agg_run ha,Result.andThen_ok]
 cases ag with
 | true =>
  simp only [asPV,cond_true,RM.run,Option.some.injEq] at hp
  subst hp
  have hv:vs.length=n:=by rw [hd.len,hl]
  have:=run_loadCells_list (P:=P) w ⟨b,o,none⟩ vs (fun j u hu=>by rw [addr_add];exact hc j u hu)
  refine ⟨.agg vs.toArray,?_,⟨vs,rfl,hd⟩,rfl⟩
  simp [size_run hn,← hv,this]
 | false =>
  simp only [asPV,cond_false] at hp
  match l,hp,hd with
  | [x], hp, hd =>
   simp only [RM.run,Option.some.injEq] at hp
   subst hp
   match vs,hd with
   | [u], hd =>
    refine ⟨u,?_,hd.1,by simp [PV.ids]⟩
    have:=hc 0 u rfl
    simp only [Nat.add_zero] at this
    simp [this]
  | [],hp,_=>cases hp
  | _::_::_,hp,_=>cases hp
theorem Els.at_ {dp:Bool} {s:Sh} {vs:List (List Value)} {xs:List s.D} {Fs:List (List Nat)} (h:Els Z w dp s vs xs Fs) {i:Nat} (hi:i < xs.length):∃ c,vs[i]?=some c∧dens E Z w (s.cvs dp (xs.getD i s.z)) c:=by
 have hg:xs.getD i s.z=xs[i]:=by simp [List.getD,hi]
 rw [hg]
 cases dp
 ·obtain ⟨c, h1, h2⟩ := h.1.at_ hi
  exact ⟨c,h1,s.cvs_den h2⟩
 ·obtain ⟨c, G, h1, _, h2⟩ := Ow2.at_ hi h
  exact ⟨c,h1,s.cvs_own h2⟩
theorem Els.lens {dp:Bool} {s:Sh} {vs:List (List Value)} {xs:List s.D} {Fs:List (List Nat)} (h:Els Z w dp s vs xs Fs):vs.length=xs.length∧∀ v∈vs,v.length=s.size:=by
 cases dp
 ·exact ⟨h.1.len,h.1.lens fun c x h=>s.rd_len h⟩
 ·refine ⟨(Ow2.len h).1, fun v hv => ?_⟩
  obtain ⟨i,hi,rfl⟩:=List.getElem_of_mem hv
  obtain ⟨c,G,h1,_,h2⟩:=Ow2.at_ (i:=i) (by rw [← (Ow2.len h).1];exact hi) h
  rw [List.getElem?_eq_getElem hi] at h1
  cases h1
  exact s.ow_len h2
theorem loadM_den (h:RelE w0 Z0 L N K σ a w E Z) {t:TypeId} {x:Operand} {e:Eff} (hr:(loadM P t x).run σ=some e) (ho:AllP ((loadM P t x).obl σ)) :
  ∃ v,(Instr.loadAt t (a.eval x)).run P w=.ok v w∧e.res.den E Z w v∧(∀ i∈e.res.ids,i∈K)∧e.obs=[]:=by
 obtain ⟨c,hc,_,hr1,ho1⟩:=bind_split hr ho
 obtain ⟨n,hn,_,hr2,ho2⟩:=bind_split hr1 ho1
 obtain ⟨ag,ha,_,hr3,ho3⟩:=bind_split hr2 ho2
 obtain ⟨l,hl,hlo,hr4,ho4⟩:=bind_split hr3 ho3
 obtain ⟨p,hp,_,hr5,_⟩:=bind_split hr4 ho4
 replace hn:=orFail_run hn
 replace ha:=orFail_run ha
 have hr6:=ret_some hr5
 subst hr6
 clear hr ho hr1 ho1 hr2 ho2 hr3 ho3 hr4 ho4 hr5
 have hcd:=evalC_den h hc
 -- the address and its cells
 have key:∃ b off vs,a.eval x=.pointer (some ⟨b,off,none⟩)∧l.length=n∧dens E Z w l vs∧(∀ j u,vs[j]?=some u→w.cell? ⟨b,off+j,none⟩=some u)∧∀ i∈l.flatMap CV.ids,i∈K:=by
  cases c with
  | ptr o k =>
   obtain ⟨ob,hob,hl,_⟩:=obj_split hl hlo
   cases ob with
   | row dp s xs=>cases hl
   | pin _ _=>cases hl
   | mp _ _=>cases hl
   | op _ _ _ _=>cases hl
   | bx t' cs =>
    obtain ⟨hle,rfl⟩:=cut_some hl
    obtain ⟨b,hb,hv⟩:=hcd.1
    obtain ⟨b',vs,hb',_,hbx,hd⟩:=h.obj o _ hob
    rw [hb] at hb';cases hb'
    refine ⟨b,k,(vs.drop k).take n,hv,by simp;omega,(hd.drop_ k).take_ n,fun j u hu=>?_,fun i hi=>(h.oids o _ hob).2 i (mem_drop_ids (mem_take_ids hi))⟩
    rw [cell_of_row w b _ vs.toArray t' (0,0) hbx]
    rw [List.getElem?_take] at hu
    split at hu
    ·rw [List.getElem?_drop] at hu;simpa using hu
    ·cases hu
  | pe r i k m =>
   obtain ⟨ob,hob,hl,hlo⟩:=obj_split hl hlo
   cases ob with
   | bx t' cs=>cases hl
   | pin _ _=>cases hl
   | mp _ _=>cases hl
   | op s xs i' cs =>
    obtain ⟨hm,hl1,hlo1⟩:=bif_split hl hlo
    obtain ⟨hi,hl2,_⟩:=need_split hl1 hlo1
    have hm':=Nat.eq_of_beq_eq_true hm
    subst hm';subst hi
    obtain ⟨hle,rfl⟩:=cut_some hl2
    obtain ⟨g,off,l',cap,hh,hv⟩:=hcd.1
    obtain ⟨vs,us,Fs,h1,h2,h3,h4,h5⟩:=h.obj r _ hob
    have hlens:∀ v∈vs,v.length=s.size:=fun v hv=>by
     obtain ⟨j,hj,rfl⟩:=List.getElem_of_mem hv
     by_cases e:j=i
     ·subst e
      have:=h2.2.2.1
      rw [List.getElem?_eq_getElem hj] at this
      cases this;exact h2.2.2.2
     ·exact (h4.rd (R:=s.rd w (fun _=>True)) (Z:=fun _=>True) (fun c x F ho _=>s.ow_rd ho fun _ _=>trivial) fun _ _=>trivial).lens (fun c x hh=>s.rd_len hh) _ (by
       refine List.mem_iff_getElem?.2 ?_
       rcases Nat.lt_or_gt_of_ne e with h' | h'
       ·exact ⟨j,by rw [List.getElem?_eraseIdx_of_lt h',List.getElem?_eq_getElem hj]⟩
       ·exact ⟨j - 1,by rw [List.getElem?_eraseIdx_of_ge (by omega),show j - 1+1=j by omega,List.getElem?_eq_getElem hj]⟩)
    refine ⟨g,off+(i*s.size+k),(us.drop k).take n,hv,by rw [List.length_take,List.length_drop];omega,(h3.drop_ k).take_ n,fun j u hu=>?_,fun i hi=>(h.oids r _ hob).2 i (mem_drop_ids (mem_take_ids hi))⟩
    rw [List.getElem?_take] at hu
    split at hu
    ·rw [List.getElem?_drop] at hu
     rw [Nat.add_assoc,Nat.add_assoc]
     exact row_cell h1 hh (flat_at_of hlens h2.2.2.1 hu)
    ·cases hu
   | row dp s xs =>
    obtain ⟨hm,hl1,hlo1⟩:=bif_split hl hlo
    obtain ⟨hi,hl2,_⟩:=need_split hl1 hlo1
    have hm':=Nat.eq_of_beq_eq_true hm
    subst hm'
    obtain ⟨hle,rfl⟩:=cut_some hl2
    obtain ⟨g,off,l',cap,hh,hv⟩:=hcd.1
    obtain ⟨vs,Fs,h1,h2,h3⟩:=h.obj r _ hob
    obtain ⟨c,hc',hd⟩:=h2.at_ (E:=E) hi
    refine ⟨g,off+(i*s.size+k),(c.drop k).take n,hv,by rw [List.length_take,List.length_drop];omega,(hd.drop_ k).take_ n,fun j u hu=>?_,fun i hi=>by have:=mem_drop_ids (mem_take_ids hi);rw [s.cvs_ids] at this;simp at this⟩
    rw [List.getElem?_take] at hu
    split at hu
    ·rw [List.getElem?_drop] at hu
     rw [Nat.add_assoc,Nat.add_assoc]
     exact row_cell h1 hh (flat_at_of h2.lens.2 hc' hu)
    ·cases hu
  | pr s x k =>
   obtain ⟨hle,rfl⟩:=cut_some hl
   obtain ⟨b,off,cs,hv,hz,hrd,hcell⟩:=hcd.1
   refine ⟨b,off+k,(cs.drop k).take n,hv,by simp;omega,((s.cvs_den hrd).drop_ k).take_ n,fun j u hu=>?_,fun i hi=>by have:=mem_drop_ids (mem_take_ids hi);rw [s.cvs_ids] at this;simp at this⟩
   rw [List.getElem?_take] at hu
   split at hu
   ·rw [List.getElem?_drop] at hu
    rw [Nat.add_assoc]
    exact hcell _ u hu
   ·cases hu
  | _=>cases hl
 obtain ⟨b,off,vs,hv,hlen,hd,hcell,hid⟩:=key
 obtain ⟨v,h1,h2,h3⟩:=load_at (P:=P) hn ha hlen hd hcell hp
 refine ⟨v,?_,h2,by rw [show (AV.p p).ids=p.ids from rfl,h3];exact hid,rfl⟩
 simp [Instr.loadAt,Instr.sureAddr,hv,h1]
theorem field_run {s:TypeId} {f:Nat} {q:Nat×TypeId} (h:fieldOf P s f=some q):∃ fs fld,P.underlying s=some (.struct fs)∧fs[f]?=some fld∧q=(fld.offset,fld.type):=by
 unfold fieldOf at h
 cases hu:P.underlying s with
 | none=>rw [hu] at h;cases h
 | some d =>
  rw [hu] at h
  cases d<;>simp only [reduceCtorEq,Option.map_eq_some_iff] at h
  rename_i fs
  obtain ⟨fld,h1,h2⟩:=h
  exact ⟨fs,fld,rfl,h1,h2.symm⟩
theorem fieldAddrM_den (h:RelE w0 Z0 L N K σ a w E Z) {s:TypeId} {x:Operand} {f:Nat} {e:Eff} (hr:(fieldAddrM P s x f).run σ=some e) :
  ∃ v,(Instr.fieldAt s (a.eval x) f).run P w=.ok v w∧e.res.den E Z w v∧(∀ i∈e.res.ids,i∈K)∧e.obs=[]:=by
 obtain ⟨q,hq,hr1⟩:=RM.run_bind hr
 obtain ⟨n,hn,hr2⟩:=RM.run_bind hr1
 replace hq:=orFail_run hq
 replace hn:=orFail_run hn
 obtain ⟨fs,fld,hu,hf,rfl⟩:=field_run hq
 cases hb:n.beq 0 with
 | true=>rw [hb] at hr2;cases hr2
 | false =>
  rw [hb,cond_false] at hr2
  obtain ⟨c,hc,hr3⟩:=RM.run_bind hr2
  have hcd:=evalC_den h hc
  have hn0:¬ n=0:=fun e=>by rw [e] at hb;cases hb
  have key:∀ b off:Nat,a.eval x=.pointer (some ⟨b,off,none⟩)→(Instr.fieldAt s (a.eval x) f).run P w=.ok (.pointer (some ⟨b,off+fld.offset,none⟩)) w:=fun b off hv=>by
   simp [Instr.fieldAt,run_underlying hu,hf,Instr.sureAddr,hv,fieldPlace,size_run hn,hn0,addr_add]
  cases c with
  | ptr o k =>
   have e1:=ret_some hr3;subst e1
   obtain ⟨b,hb,hv⟩:=hcd.1
   exact ⟨_,key b k hv,⟨b,hb,rfl⟩,hcd.2,rfl⟩
  | pr s x k =>
   have e1:=ret_some hr3;subst e1
   obtain ⟨b,off,cs,hv,hz⟩:=hcd.1
   refine ⟨_,key b (off+k) hv,⟨b,off,cs,by rw [Nat.add_assoc],hz⟩,hcd.2,rfl⟩
  | pe r i k m =>
   have e1:=ret_some hr3;subst e1
   obtain ⟨g,off,l,cap,hh,hv⟩:=hcd.1
   exact ⟨_,key g (off+(i*m+k)) hv,⟨g,off,l,cap,hh,by rw [Nat.add_assoc,Nat.add_assoc]⟩,hcd.2,rfl⟩
  | _=>cases hr3
theorem nilCheckM_den (h:RelE w0 Z0 L N K σ a w E Z) {x:Operand} {e:Eff} (hr:(nilCheckM x).run σ=some e) :
  ∃ p,a.eval x=.pointer (some p)∧e.res.den E Z w (.pointer (some p))∧(∀ i∈e.res.ids,i∈K)∧e.obs=[]:=by
 obtain ⟨c,hc,hr3⟩:=RM.run_bind hr
 have hcd:=evalC_den h hc
 cases c with
 | ptr o k =>
  have e1:=ret_some hr3;subst e1
  obtain ⟨b,hb,hv⟩:=hcd.1
  exact ⟨_,hv,by rw [← hv];exact hcd.1,hcd.2,rfl⟩
 | pr s x k =>
  have e1:=ret_some hr3;subst e1
  obtain ⟨b,off,cs,hv,hz⟩:=hcd.1
  exact ⟨_,hv,by rw [← hv];exact hcd.1,hcd.2,rfl⟩
 | pe r i k m =>
  have e1:=ret_some hr3;subst e1
  obtain ⟨g,off,l,cap,hh,hv⟩:=hcd.1
  exact ⟨_,hv,by rw [← hv];exact hcd.1,hcd.2,rfl⟩
 | _=>cases hr3
theorem extract_list {vs:List Value} (c n:Nat):(vs.toArray.extract c (c+n))=((vs.drop c).take n).toArray:=by
 apply Array.ext'
 simp [List.extract]
theorem fieldM_den (h:RelE w0 Z0 L N K σ a w E Z) {s:TypeId} {x:Operand} {f:Nat} {e:Eff} (hr:(fieldM P s x f).run σ=some e) :
  ∃ v,(Instr.field s (a.eval x) f).run P w=.ok v w∧e.res.den E Z w v∧(∀ i∈e.res.ids,i∈K)∧e.obs=[]:=by
 obtain ⟨q,hq,hr1⟩:=RM.run_bind hr
 obtain ⟨n,hn,hr2⟩:=RM.run_bind hr1
 obtain ⟨ag,ha,hr3⟩:=RM.run_bind hr2
 obtain ⟨p,hp,hr4⟩:=RM.run_bind hr3
 replace hq:=orFail_run hq
 replace hn:=orFail_run hn
 replace ha:=orFail_run ha
 obtain ⟨fs,fld,hu,hf,rfl⟩:=field_run hq
 have hpd:=evalP_den h hp
 cases p with
 | c x=>cases hr4
 | ag l =>
  obtain ⟨cs,hcs,hr5⟩:=RM.run_bind hr4
  obtain ⟨p',hp',hr6⟩:=RM.run_bind hr5
  have e1:=ret_some hr6;subst e1
  obtain ⟨hle,rfl⟩:=cut_some hcs
  obtain ⟨vs,hv,hd⟩:=hpd.1
  have hd':=(hd.drop_ fld.offset).take_ n
  have hids:∀ i∈((l.drop fld.offset).take n).flatMap CV.ids,i∈K:=fun i hi=>hpd.2 i (mem_drop_ids (mem_take_ids hi))
  cases ag with
  | true =>
   have e1:=ret_some hp';subst e1
   refine ⟨.agg ((vs.drop fld.offset).take n).toArray,?_,⟨_,rfl,hd'⟩,hids,rfl⟩
   simp [Instr.field,run_underlying hu,hf,hv,part,agg_run ha,asAgg,size_run hn,extract_list]
  | false =>
   simp only [asPV,cond_false] at hp'
   generalize hl:(l.drop fld.offset).take n=l' at *
   match l',hp',hd' with
   | [y], hp', hd' =>
    have e1:=ret_some hp';subst e1
    generalize hvs:(vs.drop fld.offset).take n=vs' at *
    match vs',hd' with
    | [u], hd' =>
     refine ⟨u,?_,hd'.1,by simpa [AV.ids,PV.ids] using hids,rfl⟩
     have hget:vs[fld.offset]?=some u:=by
      have:=congrArg (fun l=>l[0]?) hvs
      simp only [List.getElem?_take,List.getElem?_drop,Nat.add_zero] at this
      split at this
      ·simpa using this
      ·simp at this
     simp [Instr.field,run_underlying hu,hf,hv,part,agg_run ha,asAgg,hget]
   | [],hp',_=>cases hp'
   | _::_::_,hp',_=>cases hp'
theorem slice_form {s:Sh} {xs:List s.D} {u:Value} (h:(Sh.sl 0 s).rd w Z [u] xs):∃ A c,u=.slice A xs.length c∧xs.length≤c∧c≤maxLen:=by
 obtain ⟨A,c,vs,e,h1,h2,_⟩:=h
 exact ⟨A,c,by simpa using e,h1,h2⟩
theorem row_form {e:TypeId} {k:Nat} {h:Value} {n:Nat} {fl:List Value} (ho:ownsRw w 0 e k h n fl):∃ A c,h=.slice A n c∧n≤c∧c≤maxLen∧(0 < n→∃ g off,A=some ⟨g,off,none⟩):=by
 rcases ho.2 with ⟨e1,hn⟩ | ⟨g,off,cap,cur,e1,_,hg,hnc,hcm,_⟩
 ·exact ⟨none,0,by rw [e1,hn],by omega,by simp [maxLen],fun h=>by omega⟩
 ·exact ⟨_,cap,e1,hnc,hcm,fun _=>⟨g,off,rfl⟩⟩
theorem lenM_den (h:RelE w0 Z0 L N K σ a w E Z) {o:Oper} {t:TypeId} {x:Operand} {e:Eff} (ho:o.op=.call { callee:=.builtin .len,args:=#[x],argTypes:=#[t] }) (hr:(lenM P o t x).run σ=some e) :
  ∃ v,(execOp a.eval o).run P w=.ok (.value v) w∧e.res.den E Z w v∧(∀ i∈e.res.ids,i∈K)∧e.obs=[]:=by
 unfold lenM at hr
 split at hr
 ·rename_i el hu
  obtain ⟨c,hc,hr1⟩:=RM.run_bind hr
  have hcd:=evalC_den h hc
  have key:∀ A n cap,a.eval x=.slice A n cap→(execOp a.eval o).run P w=.ok (.value (.int .i64 n)) w:=fun A n cap hv=>by
   simp [execOp,ho,resolve,invoke,builtin,hv,Builtin.len_,run_underlying hu,goInt]
  cases c with
  | ro s xs =>
   have e1:=ret_some hr1;subst e1
   obtain ⟨A,c,hv,_⟩:=slice_form hcd.1
   exact ⟨_,key A _ c hv,rfl,by simp [AV.ids,PV.ids,CV.ids],rfl⟩
  | sl r =>
   obtain ⟨ob,hob,hr2⟩:=obj_some hr1
   cases ob with
   | bx t cs=>cases hr2
   | pin _ _=>cases hr2
   | mp _ _=>cases hr2
   | op s xs _ _ =>
    have e1:=ret_some hr2;subst e1
    obtain ⟨vs,us,Fs,h1,_⟩:=h.obj r _ hob
    obtain ⟨A,c,hv,_⟩:=row_form h1
    exact ⟨_,key A _ c (by rw [← hv];exact hcd.1),rfl,by simp [AV.ids,PV.ids,CV.ids],rfl⟩
   | row dp s xs =>
    have e1:=ret_some hr2;subst e1
    obtain ⟨vs,Fs,h1,_⟩:=h.obj r _ hob
    obtain ⟨A,c,hv,_⟩:=row_form h1
    exact ⟨_,key A _ c (by rw [← hv];exact hcd.1),rfl,by simp [AV.ids,PV.ids,CV.ids],rfl⟩
  | v u =>
   match u,hr1,hcd with
   | .slice none 0 0, hr1, hcd =>
    have e1:=ret_some hr1;subst e1
    exact ⟨_,key none 0 0 hcd.1,rfl,by simp [AV.ids,PV.ids,CV.ids],rfl⟩
  | _=>cases hr1
 ·obtain ⟨v, hv, hr1⟩ := RM.run_bind hr
  have e1:=ret_some hr1;subst e1
  obtain ⟨u,h1,h2,h3⟩:=pureM_den (P:=P) h (by intro cs b;rw [ho];simp) hv
  exact ⟨u,h1,h2,h3,rfl⟩
theorem indexAddrM_den (h:RelE w0 Z0 L N K σ a w E Z) {t:TypeId} {x ix:Operand} {e:Eff} (hr:(indexAddrM P t x ix).run σ=some e) (ho:AllP ((indexAddrM P t x ix).obl σ)) :
  ∃ v,(Instr.indexAt t (a.eval x) (a.eval ix)).run P w=.ok v w∧e.res.den E Z w v∧(∀ i∈e.res.ids,i∈K)∧e.obs=[]:=by
 unfold indexAddrM at hr ho
 split at hr
 ·rename_i el hu
  simp only [hu] at ho
  obtain ⟨n,hn,_,hr1,ho1⟩:=bind_split hr ho
  obtain ⟨c,hc,_,hr2,ho2⟩:=bind_split hr1 ho1
  obtain ⟨d,hd,_,hr3,ho3⟩:=bind_split hr2 ho2
  replace hn:=orFail_run hn
  have hcd:=evalC_den h hc
  have hdd:=evalC_den h hd
  clear hr ho hr1 ho1 hr2 ho2
  match d,hr3,ho3,hdd with
  | .v (.int kd i), hr3, ho3, hdd =>
   have hi:a.eval ix=.int kd i:=hdd.1
   have key:∀ (b off l cap:Nat),a.eval x=.slice (some ⟨b,off,none⟩) l cap→0≤i→i < l→(Instr.indexAt t (a.eval x) (a.eval ix)).run P w=.ok (.pointer (some ⟨b,off+i.toNat*n,none⟩)) w:=fun b off l cap hv h0 h1=>by
    simp [Instr.indexAt,hi,asIntOf,run_underlying hu,hv,size_run hn,h0,h1,addr_add]
   cases c with
   | ro s xs =>
    obtain ⟨hm,hr4,ho4⟩:=bif_split hr3 ho3
    obtain ⟨hb,hr5,_⟩:=need_split hr4 ho4
    have e1:=ret_some hr5;subst e1
    have hm':=Nat.eq_of_beq_eq_true hm
    subst hm'
    obtain ⟨A,c,vs,e,h1,h2,h3,h4⟩:=hcd.1
    have hlt:i.toNat < xs.length:=by omega
    obtain ⟨b,off,rfl,hz,hcell⟩:=h4 (by show 0 < xs.length;omega)
    obtain ⟨cs,hcs,hrd⟩:=h3.at_ hlt
    refine ⟨_,key b off _ c (by simpa using e) hb.1 hb.2,⟨b,off+i.toNat*s.size,cs,rfl,hz,?_,fun j u hu=>?_⟩,by simp [AV.ids,PV.ids,CV.ids],rfl⟩
    ·have : xs.getD i.toNat s.z = xs[i.toNat] := by simp [List.getD, hlt]
     rw [this];exact hrd
    ·rw [Nat.add_assoc]
     exact hcell _ u (flat_at_of (h3.lens fun c x h=>s.rd_len h) hcs hu)
   | sl r =>
    obtain ⟨ob,hob,hr4,ho4⟩:=obj_split hr3 ho3
    cases ob with
    | bx t cs=>cases hr4
    | pin _ _=>cases hr4
    | mp _ _=>cases hr4
    | op s xs _ _ =>
     obtain ⟨hm,hr5,ho5⟩:=bif_split hr4 ho4
     obtain ⟨hb,hr6,_⟩:=need_split hr5 ho5
     have e1:=ret_some hr6;subst e1
     have hm':=Nat.eq_of_beq_eq_true hm
     subst hm'
     obtain ⟨vs,us,Fs,h1,_⟩:=h.obj r _ hob
     obtain ⟨A,c,hv,_,_,hA⟩:=row_form h1
     obtain ⟨g,off,rfl⟩:=hA (by omega)
     refine ⟨_,key g off _ c (by rw [← hv];exact hcd.1) hb.1 hb.2,⟨g,off,_,c,hv,by simp⟩,by simpa [AV.ids,PV.ids,CV.ids] using hcd.2,rfl⟩
    | row dp s xs =>
     obtain ⟨hm,hr5,ho5⟩:=bif_split hr4 ho4
     obtain ⟨hb,hr6,_⟩:=need_split hr5 ho5
     have e1:=ret_some hr6;subst e1
     have hm':=Nat.eq_of_beq_eq_true hm
     subst hm'
     obtain ⟨vs,Fs,h1,h2,_⟩:=h.obj r _ hob
     obtain ⟨A,c,hv,_,_,hA⟩:=row_form h1
     obtain ⟨g,off,rfl⟩:=hA (by omega)
     refine ⟨_,key g off _ c (by rw [← hv];exact hcd.1) hb.1 hb.2,⟨g,off,_,c,hv,by simp⟩,by simpa [AV.ids,PV.ids,CV.ids] using hcd.2,rfl⟩
   | _=>cases hr3
 ·cases hr
theorem intsOf_den:∀ {l:List CV} {ns:List Int} {vs:List Value},intsOf l=some ns→dens E Z w l vs→vs=ns.map (.int .i64)
 | [], ns, vs, h, hd => by
  cases vs with
  | nil=>cases h;rfl
  | cons _ _=>exact hd.elim
 | c :: l, ns, vs, h, hd => by
  cases vs with
  | nil=>exact hd.elim
  | cons v vs =>
   match c,h,hd with
   | .v (.int .i64 n), h, hd =>
    simp only [intsOf] at h
    split at h
    ·rename_i ms hm
     cases h
     rw [List.map_cons,← intsOf_den hm hd.2,show v=_ from hd.1]
    ·cases h
theorem eqFields_run (d:Nat):∀ {fs:List Field} {k:Nat} {as bs:List Int} {xs ys:List Value},eqFieldsOK P fs k=true→as.length=fs.length→bs.length=fs.length→xs.drop k=as.map (.int .i64)→ys.drop k=bs.map (.int .i64)→(Op.eqFields (d+1) xs.toArray ys.toArray fs).run P w=.ok (allEq as bs) w
 | [], k, as, bs, xs, ys, _, ha, hb, _, _ => by
  rw [List.eq_nil_of_length_eq_zero ha,List.eq_nil_of_length_eq_zero hb];rfl
 | f :: fs, k, as, bs, xs, ys, hok, ha, hb, hx, hy => by
  cases as with
  | nil=>simp at ha
  | cons m as =>
  cases bs with
  | nil=>simp at hb
  | cons n bs =>
   unfold eqFieldsOK at hok
   simp only [Bool.and_eq_true] at hok
   obtain ⟨⟨⟨h1,h2⟩,h3⟩,h4⟩:=hok
   have h2:f.offset=k:=Nat.eq_of_beq_eq_true h2
   have h3 : f.name ≠ "_" := by simpa using h3
   have hu:P.underlying f.type=some (.int .i64):=by
    split at h1
    ·assumption
    ·cases h1
   have hxk:xs[k]?=some (.int .i64 m):=by have:=congrArg (fun l=>l[0]?) hx;simpa using this
   have hyk:ys[k]?=some (.int .i64 n):=by have:=congrArg (fun l=>l[0]?) hy;simpa using this
   have hp1:(part f.type xs.toArray f.offset).run P w=.ok (.int .i64 m) w:=by simp [part,isAgg,run_underlying hu,h2,hxk]
   have hp2:(part f.type ys.toArray f.offset).run P w=.ok (.int .i64 n) w:=by simp [part,isAgg,run_underlying hu,h2,hyk]
   have heq:(Op.equalIn (d+1) f.type (.int .i64 m) (.int .i64 n)).run P w=.ok (m==n) w:=by simp [Op.equalIn,run_underlying hu]
   have hx':xs.drop (k+1)=as.map (.int .i64):=by have:=congrArg List.tail hx;simpa using this
   have hy':ys.drop (k+1)=bs.map (.int .i64):=by have:=congrArg List.tail hy;simpa using this
   have ih:=eqFields_run d h4 (by simpa using ha) (by simpa using hb) hx' hy'
   unfold Op.eqFields
   rw [if_pos h3]
   simp only [Sem.run_bind,hp1,hp2,heq,Result.andThen_ok]
   by_cases e:m=n
   ·subst e;simp [ih,allEq]
   ·have hb : (m == n) = false := by simpa using e
    rw [hb]
    simp [allEq,e]
theorem structEqM_den (h:RelE w0 Z0 L N K σ a w E Z) {o:Oper} {neg:Bool} {t t':TypeId} {x y:Operand} {e:Eff} (ho:o.op=.binOp (bif neg then .neq else .eql) t x y t') (hr:(structEqM P neg t x y).run σ=some e) :
  ∃ v,(execOp a.eval o).run P w=.ok (.value v) w∧e.res.den E Z w v∧(∀ i∈e.res.ids,i∈K)∧e.obs=[]:=by
 unfold structEqM at hr
 split at hr
 ·rename_i fs hu
  obtain ⟨hb,hr1⟩:=bif_some hr
  simp only [Bool.and_eq_true] at hb
  obtain ⟨p,hp,hr2⟩:=RM.run_bind hr1
  obtain ⟨q,hq,hr3⟩:=RM.run_bind hr2
  have hpd:=evalP_den h hp
  have hqd:=evalP_den h hq
  match p,q,hr3,hpd,hqd with
  | .ag l, .ag l', hr3, hpd, hqd =>
   obtain ⟨as,has,hr4⟩:=RM.run_bind hr3
   obtain ⟨bs,hbs,hr5⟩:=RM.run_bind hr4
   obtain ⟨hl,hr6⟩:=bif_some hr5
   simp only [Bool.and_eq_true] at hl
   have e1:=ret_some hr6;subst e1
   obtain ⟨vs,hv,hd⟩:=hpd.1
   obtain ⟨us,hu',hd'⟩:=hqd.1
   have h1:=intsOf_den (orFail_run has) hd
   have h2:=intsOf_den (orFail_run hbs) hd'
   subst h1;subst h2
   have hf:P.fieldsOf t=fs:=by unfold Program.fieldsOf;rw [hu]
   have hst:P.stoodInHeld t=false:=by simpa using hb.1.1
   have hgd:P.eqGuardType P.depth t=false:=by simpa using hb.1.2
   have hrun:(Op.equalIn 10000 t (.agg (as.map (.int .i64)).toArray) (.agg (bs.map (.int .i64)).toArray)).run P w=.ok (allEq as bs) w:=by
    rw [show (10000:Nat)=9999+1 from rfl,run_equalIn_struct w 9999 t _ _ (by rw [hf];exact hu) hst,hf]
    exact eqFields_run 9998 hb.2 (Nat.eq_of_beq_eq_true hl.1) (Nat.eq_of_beq_eq_true hl.2) rfl rfl
   have hg:=run_eqGuard_agg w (bif neg then .neq else .eql) t x y (as.map (.int .i64)).toArray (bs.map (.int .i64)).toArray hgd
   refine ⟨.bool (bif neg then !allEq as bs else allEq as bs),?_,rfl,by simp [AV.ids,PV.ids,CV.ids],rfl⟩
   cases neg with
   | false =>
    have hk:=run_eql_struct (P:=P) w t (as.map (.int .i64)).toArray (bs.map (.int .i64)).toArray
    rw [hrun] at hk
    simp only [cond_false] at ho hg
    simp only [execOp,ho,hv,hu',Sem.run_bind,hg,Result.andThen_ok,hk]
    rfl
   | true =>
    have hk:=run_neq_struct (P:=P) w t (as.map (.int .i64)).toArray (bs.map (.int .i64)).toArray
    rw [hrun] at hk
    simp only [cond_true] at ho hg
    simp only [execOp,ho,hv,hu',Sem.run_bind,hg,Result.andThen_ok,hk]
    rfl
 ·cases hr
theorem nilM_den (h:RelE w0 Z0 L N K σ a w E Z) {o:Oper} {t t':TypeId} {x y:Operand} {e:Eff} (ho:o.op=.binOp .eql t x y t') (hr:(nilM P o t x y).run σ=some e) :
  ∃ v,(execOp a.eval o).run P w=.ok (.value v) w∧e.res.den E Z w v∧(∀ i∈e.res.ids,i∈K)∧e.obs=[]:=by
 unfold nilM at hr
 split at hr
 ·rename_i el hu
  obtain ⟨d,hd,hr1⟩:=RM.run_bind hr
  have hdd:=evalC_den h hd
  match d,hr1,hdd with
  | .v (.slice none 0 0), hr1, hdd =>
   obtain ⟨c,hc,hr2⟩:=RM.run_bind hr1
   have hcd:=evalC_den h hc
   have hy:a.eval y=.slice none 0 0:=hdd.1
   have key:∀ A n cap,a.eval x=.slice A n cap→(execOp a.eval o).run P w=.ok (.value (.bool A.isNone)) w:=fun A n cap hv=>by
    have heq:∀ (d:Nat),(Op.equalIn (d+1) t (.slice A n cap) (.slice none 0 0)).run P w=.ok A.isNone w:=fun d=>by cases A<;>simp [Op.equalIn,run_underlying hu]
    have hg:eqGuard .eql t x y (.slice A n cap) (.slice none 0 0)=pure ():=rfl
    simp [execOp,ho,hv,hy,binOp,Op.equal,Op.maxDepth,heq,hg]
   cases c with
   | ro s xs =>
    have e1:=ret_some hr2;subst e1
    obtain ⟨A,c,vs,e,h1,h2,h3,h4⟩:=hcd.1
    refine ⟨_,key A _ c (by simpa using e),⟨_,rfl,fun hA=>?_⟩,by simp [AV.ids,PV.ids,CV.ids],rfl⟩
    rcases Nat.eq_zero_or_pos xs.length with h0 | h0
    ·exact h0
    ·obtain ⟨b,off,rfl,_⟩:=h4 h0;cases hA
   | sl r =>
    obtain ⟨ob,hob,hr3⟩:=obj_some hr2
    cases ob with
    | bx t cs=>cases hr3
    | pin _ _=>cases hr3
    | mp _ _=>cases hr3
    | op _ _ _ _=>cases hr3
    | row dp s xs =>
     have e1:=ret_some hr3;subst e1
     obtain ⟨vs,Fs,h1,_⟩:=h.obj r _ hob
     obtain ⟨A,c,hv,_,_,hA⟩:=row_form h1
     refine ⟨_,key A _ c (by rw [← hv];exact hcd.1),⟨_,rfl,fun hA'=>?_⟩,by simp [AV.ids,PV.ids,CV.ids],rfl⟩
     rcases Nat.eq_zero_or_pos xs.length with h0 | h0
     ·exact h0
     ·obtain ⟨g,off,rfl⟩:=hA h0;cases hA'
   | v u =>
    match u,hr2,hcd with
    | .slice none 0 0, hr2, hcd =>
     have e1:=ret_some hr2;subst e1
     exact ⟨_,key none 0 0 hcd.1,rfl,by simp [AV.ids,PV.ids,CV.ids],rfl⟩
   | _=>cases hr2
 ·exact structEqM_den (neg:=false) h ho hr
 ·obtain ⟨v, hv, hr1⟩ := RM.run_bind hr
  have e1:=ret_some hr1;subst e1
  obtain ⟨u,h1,h2,h3⟩:=pureM_den (P:=P) h (by intro cs b;rw [ho];simp) hv
  exact ⟨u,h1,h2,h3,rfl⟩
theorem arithM_den (h:RelE w0 Z0 L N K σ a w E Z) {o:Oper} {md:Md} {op:BinOp} {t t':TypeId} {x y:Operand} {e:Eff} (ho:o.op=.binOp op t x y t') (hr:(arithM P o md op x y).run σ=some e) (hob:AllP ((arithM P o md op x y).obl σ)) :
  ∃ v,(execOp a.eval o).run P w=.ok (.value v) w∧e.res.den E Z w v∧(∀ i∈e.res.ids,i∈K)∧e.obs=[]:=by
 have wid:∀ {n:Int},I64 n→IntKind.i64.wrap n=n:=fun {n} h=>by rw [IntKind.wrap_i64];unfold I64 at h;omega
 unfold arithM at hr hob
 cases hnw:md.nw with
 | false =>
  rw [hnw,cond_false] at hr
  obtain ⟨v,hv,hr1⟩:=RM.run_bind hr
  have e1:=ret_some hr1;subst e1
  obtain ⟨u,h1,h2,h3⟩:=pureM_den (P:=P) h (by intro cs b;rw [ho];simp) hv
  exact ⟨u,h1,h2,h3,rfl⟩
 | true =>
  rw [hnw,cond_true] at hr hob
  obtain ⟨c,hc,_,hr1,ho1⟩:=bind_split hr hob
  obtain ⟨d,hd,_,hr2,ho2⟩:=bind_split hr1 ho1
  have hcd:=evalC_den h hc
  have hdd:=evalC_den h hd
  match c,d,hr2,ho2,hcd,hdd with
  | .v (.int .i64 m), .v (.int .i64 n), hr2, ho2, hcd, hdd =>
   have hx:a.eval x=.int .i64 m:=hcd.1
   have hy:a.eval y=.int .i64 n:=hdd.1
   cases op<;>first | cases hr2;done | skip
   case quo =>
    obtain ⟨hn,hr4,_⟩:=need_split hr2 ho2
    have e1:=ret_some hr4;subst e1
    exact ⟨_,by simp [execOp,ho,hx,hy,binOp,Op.intDiv,hn.1,eqGuard,wid hn.2],rfl,by simp [AV.ids,PV.ids,CV.ids],rfl⟩
   all_goals
    obtain ⟨hn,hr4,_⟩:=need_split hr2 ho2
    have e1:=ret_some hr4;subst e1
    exact ⟨_,by simp [execOp,ho,hx,hy,binOp,Op.intArith,eqGuard,wid hn],rfl,by simp [AV.ids,PV.ids,CV.ids],rfl⟩
theorem divM_den (h:RelE w0 Z0 L N K σ a w E Z) {o:Oper} {op:BinOp} {t t':TypeId} {x y:Operand} {e:Eff} (ho:o.op=.binOp op t x y t') (hr:(divM op x y).run σ=some e) (hob:AllP ((divM op x y).obl σ)) :
  ∃ v,(execOp a.eval o).run P w=.ok (.value v) w∧e.res.den E Z w v∧(∀ i∈e.res.ids,i∈K)∧e.obs=[]:=by
 obtain ⟨c,hc,_,hr1,ho1⟩:=bind_split hr hob
 obtain ⟨d,hd,_,hr2,ho2⟩:=bind_split hr1 ho1
 have hcd:=evalC_den h hc
 have hdd:=evalC_den h hd
 match c,d,hr2,ho2,hcd,hdd with
 | .v (.int k m), .v (.int k' n), hr2, ho2, hcd, hdd =>
  obtain ⟨hk,hr3,ho3⟩:=bif_split hr2 ho2
  have hk:=of_decide_eq_true hk
  subst hk
  obtain ⟨hn,hr4,_⟩:=need_split hr3 ho3
  have hx:a.eval x=.int k m:=hcd.1
  have hy:a.eval y=.int k n:=hdd.1
  cases op<;>first | cases hr4;done | skip
  ·have e1 := ret_some hr4; subst e1
   exact ⟨_,by simp [execOp,ho,hx,hy,binOp,Op.intDiv,hn,eqGuard],rfl,by simp [AV.ids,PV.ids,CV.ids],rfl⟩
  ·have e1 := ret_some hr4; subst e1
   exact ⟨_,by simp [execOp,ho,hx,hy,binOp,Op.intDiv,hn,eqGuard],rfl,by simp [AV.ids,PV.ids,CV.ids],rfl⟩
theorem shiftM_den (h:RelE w0 Z0 L N K σ a w E Z) {o:Oper} {op:BinOp} {t t':TypeId} {x y:Operand} {e:Eff} (ho:o.op=.binOp op t x y t') (hr:(shiftM op x y).run σ=some e) (hob:AllP ((shiftM op x y).obl σ)) :
  ∃ v,(execOp a.eval o).run P w=.ok (.value v) w∧e.res.den E Z w v∧(∀ i∈e.res.ids,i∈K)∧e.obs=[]:=by
 obtain ⟨c,hc,_,hr1,ho1⟩:=bind_split hr hob
 obtain ⟨d,hd,_,hr2,ho2⟩:=bind_split hr1 ho1
 have hcd:=evalC_den h hc
 have hdd:=evalC_den h hd
 match c,d,hr2,ho2,hcd,hdd with
 | .v (.int k m), .v (.int k' n), hr2, ho2, hcd, hdd =>
  obtain ⟨hn,hr4,_⟩:=need_split hr2 ho2
  have hn':¬ n < 0:=by omega
  have hx:a.eval x=.int k m:=hcd.1
  have hy:a.eval y=.int k' n:=hdd.1
  cases op<;>first | cases hr4;done | skip
  ·have e1 := ret_some hr4; subst e1
   exact ⟨_,by simp [execOp,ho,hx,hy,binOp,Op.shift,hn',eqGuard],rfl,by simp [AV.ids,PV.ids,CV.ids],rfl⟩
  ·have e1 := ret_some hr4; subst e1
   exact ⟨_,by simp [execOp,ho,hx,hy,binOp,Op.shift,hn',eqGuard],rfl,by simp [AV.ids,PV.ids,CV.ids],rfl⟩
theorem extractM_den (h:RelE w0 Z0 L N K σ a w E Z) {x:Operand} {i:Nat} {e:Eff} (hr:(extractM x i).run σ=some e) :
  ∃ v,(Instr.extract (a.eval x) i).run P w=.ok v w∧e.res.den E Z w v∧(∀ j∈e.res.ids,j∈K)∧e.obs=[]:=by
 obtain ⟨av,hav,hr1⟩:=RM.run_bind hr
 have had:=evalO_den h hav
 cases av with
 | p q=>cases hr1
 | tu l =>
  obtain ⟨p,hp,hr2⟩:=RM.run_bind hr1
  replace hp:=orFail_run hp
  have e1:=ret_some hr2;subst e1
  obtain ⟨vs,hv,hd⟩:=had.1
  have key:∀ {l:List PV} {vs:List Value} {i:Nat},pdens E Z w l vs→l[i]?=some p→∃ u,vs[i]?=some u∧p.den E Z w u:=by
   intro l
   induction l with
   | nil=>intro vs i _ h;simp at h
   | cons q l ih =>
    intro vs i hd hi
    match vs,hd with
    | u :: vs, hd =>
     cases i with
     | zero=>simp at hi;subst hi;exact ⟨u,rfl,hd.1⟩
     | succ i=>obtain ⟨u',h1,h2⟩:=ih hd.2 (by simpa using hi);exact ⟨u',by simpa using h1,h2⟩
  obtain ⟨u,h1,h2⟩:=key hd hp
  refine ⟨u,?_,h2,fun j hj=>had.2 j (List.mem_flatMap.2 ⟨p,List.mem_of_getElem? hp,hj⟩),rfl⟩
  simp [Instr.extract,hv,h1]
end
end Go.Proofs.Ytmcpigcpachdkaa
