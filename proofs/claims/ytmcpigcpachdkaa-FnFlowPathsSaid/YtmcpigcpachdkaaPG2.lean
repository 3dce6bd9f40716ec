/- Calls that change arguments in place. No program is named; no condition. -/
import Derived.Test.YtmcpigcpachdkaaPK
namespace Go.Proofs.Ytmcpigcpachdkaa
open Go.RowKit
set_option linter.unusedVariables false
set_option linter.unusedSimpArgs false
section
variable {P:Program} {w0:World} {Z0:Nat→Prop} {L:List Nat} {N:Nat} {K:List Nat} {σ:St} {a:Act} {w:World} {E:Env} {Z:Nat→Prop}
theorem nodup_flat {f:Nat→List Nat}:∀ {l:List Nat},l.Nodup→(∀ r∈l,(f r).Nodup)→(∀ r∈l,∀ r'∈l,r≠r'→∀ b∈f r,b ∉ f r')→(l.flatMap f).Nodup
 | [],_,_,_=>by simp
 | r :: l, h1, h2, h3 => by
  have h1:=List.nodup_cons.1 h1
  rw [List.flatMap_cons]
  refine List.nodup_append.2 ⟨h2 r (by simp),nodup_flat h1.2 (fun r hr=>h2 r (by simp [hr])) (fun r hr r' hr'=>h3 r (by simp [hr]) r' (by simp [hr'])),fun b hb c hc e=>?_⟩
  subst e
  obtain ⟨r',hr',hb'⟩:=List.mem_flatMap.1 hc
  exact h3 r (by simp) r' (by simp [hr']) (fun e=>h1.1 (e ▸ hr')) b hb hb'
theorem add_gone {σ:St} {l:List Nat} {o:Nat} {x:Ob} (h:(σ.add (gone l)).obj o=some x):o ∉ l∧σ.obj o=some x:=by
 unfold St.add St.obj at h
 simp only at h
 rw [look_append] at h
 cases hl:look (gone l) o with
 | some y =>
  rw [hl] at h
  have:=(look_gone hl).1
  subst this;cases h
 | none=>rw [hl] at h;exact ⟨look_gone_none hl,h⟩
theorem RelE.lend (h:RelE w0 Z0 L N K σ a w E Z) {l:List Nat} (hl:∀ m∈l,∃ y,σ.obj m=some y) {w':World} (hs:SameBut (l.flatMap E.fp) w w'):RelE w0 Z0 L N K (σ.add (gone l)) a w' E Z :=
 h.step (M:=fun o=>o∈l) hs.1 hs.2.1 hs.2.2.1 hs.size (fun b hb hnot=>hs.2.2.2.2 b hb fun hm=>by
   obtain ⟨o,ho,hbo⟩:=List.mem_flatMap.1 hm
   obtain ⟨y,hy⟩:=hl o ho
   exact hnot o y hy ho hbo) (fun i hi=>hi) (fun i hi=>.inl hi) (fun i hi=>rfl) (fun _ _ _ _=>rfl) (fun _ h=>h) (fun _ h=>.inl h)
  (fun o x ho=>.inl (add_gone ho)) (fun o x o' x' ho _ _ hc=>absurd (add_gone ho) hc) h.defers h.size (fun t=>.inl ⟨rfl,rfl⟩)
theorem RelE.readopt (h:RelE w0 Z0 L N K σ a w E Z) {id:Nat} (hid:id∈K) (hno:σ.obj id=none) {ob:Ob} {F:List Nat} (hden:ob.den (E.set id (E.hdr id) F) Z w (E.hdr id) F) (hnd:F.Nodup) (hF:∀ b∈F,Free w0 L σ w E Z b) (hoi:∀ i∈ob.ids,i∈K) :
  RelE w0 Z0 L N K (σ.add [(id,some ob)]) a w (E.set id (E.hdr id) F) Z:=by
 have hhd:∀ i,(E.set id (E.hdr id) F).hdr i=E.hdr i:=fun i=>by
  by_cases e:i=id
  ·subst e;simp [Env.set]
  ·simp [Env.set,e]
 have hset:∀ i,i≠id→(E.set id (E.hdr id) F).fp i=E.fp i:=fun i hi=>by simp [Env.set,hi]
 have hself:(E.set id (E.hdr id) F).fp id=F:=by simp [Env.set]
 have hkh:∀ i∈K,(E.set id (E.hdr id) F).hdr i=E.hdr i:=fun i _=>hhd i
 refine ⟨h.defers,h.size,fun t=>AV.keep hkh (fun _ h=>h) (fun _ _=>rfl) (h.tmp t) (h.tids t),h.tids,fun o x ho=>?_,fun o x ho=>?_,fun o x ho=>?_,fun o x o' x' ho ho' hne b hb hb'=>?_,fun o x ho b hb=>?_,h.znew,h.zlt,h.frame,fun i hi=>by rw [hhd];exact h.hone i hi⟩
 ·rcases add_one ho with ⟨rfl, rfl⟩ | ⟨h1, h2⟩
  ·rw [hhd,hself];exact hden
  ·rw [hhd,hset o h1];exact Ob.keep hkh (fun _ h=>h) (fun _ _=>rfl) (h.obj o x h2) (h.oids o x h2).2 fun _ _=>rfl
 ·rcases add_one ho with ⟨rfl, rfl⟩ | ⟨h1, h2⟩
  ·exact ⟨hid,hoi⟩
  ·exact h.oids o x h2
 ·rcases add_one ho with ⟨rfl, rfl⟩ | ⟨h1, h2⟩
  ·rw [hself];exact hnd
  ·rw [hset o h1];exact h.nodup o x h2
 ·rcases add_one ho with ⟨rfl, rfl⟩ | ⟨h1, h2⟩ <;> rcases add_one ho' with ⟨rfl, rfl⟩ | ⟨h1', h2'⟩
  ·exact hne rfl
  ·rw [hself] at hb;rw [hset o' h1'] at hb';exact (hF b hb).2.2.2 o' x' h2' hb'
  ·rw [hself] at hb';rw [hset o h1] at hb;exact (hF b hb').2.2.2 o x h2 hb
  ·rw [hset o h1] at hb;rw [hset o' h1'] at hb';exact h.apart o x o' x' h2 h2' hne b hb hb'
 ·rcases add_one ho with ⟨rfl, rfl⟩ | ⟨h1, h2⟩
  ·rw [hself] at hb;have:=hF b hb;exact ⟨this.1,this.2.1,this.2.2.1⟩
  ·rw [hset o h1] at hb;exact h.free o x h2 b hb
theorem add_none {σ:St} {l:List (Nat×Option Ob)} {o:Nat} (h:∀ p∈l,p.1≠o):(σ.add l).obj o=σ.obj o:=by
 have:look l o=none:=by
  induction l with
  | nil=>rfl
  | cons p l ih =>
   obtain ⟨k,x⟩:=p
   simp only [look]
   rw [beq_ne (h (k,x) (by simp)),cond_false]
   exact ih fun p hp=>h p (by simp [hp])
 unfold St.add St.obj
 simp only
 rw [look_append,this]
theorem ioC_ids {σ0:St}:∀ (s:Sh) {cvs:List CV} {x0 x:s.D} {ids:List Nat},(owC s cvs).run σ0=some (x0,ids)→∀ p∈ioC s cvs x,p.1∈ids
 | .int _,_,_,_,_,_,p,hp=>by simp [ioC] at hp
 | .bool _,_,_,_,_,_,p,hp=>by simp [ioC] at hp
 | .u8 _,_,_,_,_,_,p,hp=>by simp [ioC] at hp
 | .str _,_,_,_,_,_,p,hp=>by simp [ioC] at hp
 | .st _ q,cvs,x0,x,ids,hr,p,hp=>ioC_ids q (x:=x) (by unfold owC at hr;exact hr) p hp
 | .pair q r, cvs, x0, x, ids, hr, p, hp => by
  unfold owC at hr
  obtain ⟨y,hy,hr1⟩:=RM.run_bind hr
  obtain ⟨z,hz,hr2⟩:=RM.run_bind hr1
  have e1:=ret_some hr2;cases e1
  rcases List.mem_append.1 (show p∈ioC r (cvs.drop q.size) x.2++ioC q (cvs.take q.size) x.1 from hp) with hp | hp
  ·exact List.mem_append.2 (.inr (ioC_ids r hz p hp))
  ·exact List.mem_append.2 (.inl (ioC_ids q hy p hp))
 | .sl _ q, cvs, x0, x, ids, hr, p, hp => by
  unfold owC slO at hr
  split at hr
  ·simp [ioC] at hp
  ·rename_i r
   obtain ⟨b,hb,hr⟩:=obj_some hr
   match b,hr with
   | .row dp a' ys, hr =>
    obtain ⟨hq,hr⟩:=dif_some hr
    obtain ⟨hc,hr⟩:=bif_some hr
    have e1:=ret_some hr
    simp only [Prod.mk.injEq] at e1
    rw [e1.2]
    simp only [ioC,List.mem_singleton] at hp
    rw [hp];simp
  ·cases hr
theorem adopt_io {σ0:St} {w1:World} {E0:Env} {Z1:Nat→Prop}:∀ (s:Sh) {K:List Nat} {σ:St} {E:Env} {cvs:List CV} {cs:List Value} {x0 x:s.D} {ids F:List Nat},RelE w0 Z0 L N K σ a w E Z→(owC s cvs).run σ0=some (x0,ids)→dens E0 Z1 w1 cvs cs→(∀ i∈ids,E.hdr i=E0.hdr i)→s.ow w cs x F→F.Nodup→(∀ b∈F,Free w0 L σ w E Z b) →
   ids.Nodup→(∀ r∈ids,r∈K∧σ.obj r=none) →
  ∃ E',RelE w0 Z0 L N K (σ.add (ioC s cvs x)) a w E' Z∧(∀ i,E'.hdr i=E.hdr i)∧∀ b,Free w0 L σ w E Z b→b ∉ F→Free w0 L (σ.add (ioC s cvs x)) w E' Z b
 | .int _,K,σ,E,_,_,_,_,_,_,h,_,_,_,_,_,_,_,_=>⟨E,h,fun _=>rfl,fun b hb _=>hb⟩
 | .bool _,K,σ,E,_,_,_,_,_,_,h,_,_,_,_,_,_,_,_=>⟨E,h,fun _=>rfl,fun b hb _=>hb⟩
 | .u8 _,K,σ,E,_,_,_,_,_,_,h,_,_,_,_,_,_,_,_=>⟨E,h,fun _=>rfl,fun b hb _=>hb⟩
 | .str _,K,σ,E,_,_,_,_,_,_,h,_,_,_,_,_,_,_,_=>⟨E,h,fun _=>rfl,fun b hb _=>hb⟩
 | .st _ p,K,σ,E,cvs,cs,x0,x,ids,F,h,hr,hd,he,ho,hn,hf,hi,hk=>adopt_io p (x:=x) h (by unfold owC at hr;exact hr) hd he ho hn hf hi hk
 | .pair p q, K, σ, E, cvs, cs, x0, x, ids, F, h, hr, hd, he, ho, hn, hf, hi, hk => by
  unfold owC at hr
  obtain ⟨y,hy,hr1⟩:=RM.run_bind hr
  obtain ⟨z,hz,hr2⟩:=RM.run_bind hr1
  have e1:=ret_some hr2;cases e1
  obtain ⟨y1,y2⟩:=y;obtain ⟨z1,z2⟩:=z
  obtain ⟨c,d,G,H,rfl,rfl,h1,h2⟩:=ho
  have hlc:c.length=p.size:=by have:=p.rd_len (p.ow_rd (Z:=fun _=>True) h1 fun _ _=>trivial);exact this
  have hn':=List.nodup_append.1 hn
  have hi':=List.nodup_append.1 hi
  have hd1:=hd.take_ p.size
  have hd2:=hd.drop_ p.size
  rw [← hlc,List.take_left,hlc] at hd1
  rw [← hlc,List.drop_left,hlc] at hd2
  obtain ⟨E1,r1,e1,f1⟩:=adopt_io p (x:=x.1) h hy hd1 (fun i hi=>he i (List.mem_append.2 (.inl hi))) h1 hn'.1 (fun b hb=>hf b (List.mem_append.2 (.inl hb))) hi'.1 (fun r hr=>hk r (List.mem_append.2 (.inl hr)))
  obtain ⟨E2,r2,e2,f2⟩:=adopt_io q (x:=x.2) r1 hz hd2 (fun i hi=>by rw [e1];exact he i (List.mem_append.2 (.inr hi))) h2 hn'.2.1 (fun b hb=>f1 b (hf b (List.mem_append.2 (.inr hb))) fun hg=>hn'.2.2 b hg b hb rfl) hi'.2.1
   (fun r hr => ⟨(hk r (List.mem_append.2 (.inr hr))).1, by
    rw [add_none fun pp hpp e=>hi'.2.2 pp.1 (ioC_ids p hy pp hpp) r hr e]
    exact (hk r (List.mem_append.2 (.inr hr))).2⟩)
  refine ⟨E2,?_,fun i=>by rw [e2,e1],fun b hb hbF=>?_⟩
  ·show RelE w0 Z0 L N K (σ.add (ioC q (cvs.drop p.size) x.2 ++ ioC p (cvs.take p.size) x.1)) a w E2 Z
   rw [← add_add];exact r2
  ·show Free w0 L (σ.add (ioC q (cvs.drop p.size) x.2 ++ ioC p (cvs.take p.size) x.1)) w E2 Z b
   rw [← add_add]
   exact f2 b (f1 b hb fun hg=>hbF (List.mem_append.2 (.inl hg))) fun hg=>hbF (List.mem_append.2 (.inr hg))
 | .sl t p, K, σ, E, cvs, cs, x0, x, ids, F, h, hr, hd, he, ho, hn, hf, hi, hk => by
  unfold owC slO at hr
  split at hr
  ·exact ⟨E,h,fun _=>rfl,fun b hb _=>hb⟩
  ·rename_i r
   obtain ⟨b,hb,hr⟩:=obj_some hr
   match b,hr with
   | .row dp a' ys, hr =>
    obtain ⟨hq,hr⟩:=dif_some hr
    obtain ⟨hc,hr⟩:=bif_some hr
    have e1:=ret_some hr
    simp only [Prod.mk.injEq] at e1
    obtain ⟨_,rfl⟩:=e1
    obtain ⟨v,vs,Fs,rfl,h1,h2,rfl⟩:=ho
    have hv:v=E.hdr r:=(show v=E0.hdr r from hd.1).trans (he r (by simp)).symm
    subst hv
    have hk:=hk r (by simp)
    have r1:=h.readopt (id:=r) hk.1 hk.2 (ob:=.row true p x) (F:=Value.blk (E.hdr r)++Fs.flatten) ⟨vs,Fs,h1,h2,rfl⟩ hn hf (by simp [Ob.ids])
    refine ⟨_,r1,fun i=>?_,fun b hb hbF=>?_⟩
    ·by_cases e : i = r
     ·subst e;simp [Env.set]
     ·simp [Env.set,e]
    ·refine ⟨hb.1, hb.2.1, hb.2.2.1, fun o x' ho => ?_⟩
     rcases add_one (id:=r) (ob:=.row true p x) ho with ⟨rfl,rfl⟩ | ⟨h1,h2⟩
     ·simp only [Env.set,if_true];exact hbF
     ·simp only [Env.set,h1,if_false];exact hb.2.2.2 o x' h2
  ·cases hr
theorem memN_not {i:Nat} {l:List Nat} (h:memN i l=false):i ∉ l:=fun hi=>by
 have:memN i l=true:=List.any_eq_true.2 ⟨i,hi,Nat.beq_refl i⟩
 rw [this] at h;cases h
theorem ioArg_arg (h:RelE w0 Z0 L N K σ a w E Z) {Zr:Nat→Prop} (hZ:∀ b,Z b→Zr b) {lent:List Nat} (hown:∀ o x,o ∉ lent→σ.obj o=some x→∀ b∈E.fp o,Zr b) {s:Sh} {p:PV} {u:Value} (hp:p.den E Z w u) (hpi:∀ i∈p.ids,i∈K) :
  ∀ {k:Kd} {x:s.D} {l r:List Nat},(ioArg s p k).run σ=some (x,l,r)→AllP ((ioArg s p k).obl σ)→(∀ i∈r,i ∉ lent)→k.arg w Zr s u x (l.flatMap E.fp)∧∀ m∈l,∃ y,σ.obj m=some y:=by
 have form:p.isAg=s.agg→p.cells.all CV.one=true→dens E Z w p.cells u.cells.toList∧resForm s u:=fun hag h1=>by
  refine ⟨?_,fun hs=>?_,fun hs=>?_⟩
  ·cases p with
   | c x =>
    have h1:u.oneCell'=true:=CV.one_cell h (by simpa [PV.cells] using h1) hp hpi
    rw [cells_one h1]
    exact ⟨hp,trivial⟩
   | ag l=>obtain ⟨vs,hv,hd⟩:=hp;rw [hv];exact hd
  ·rw [hs] at hag
   cases p with
   | c _=>cases hag
   | ag l=>obtain ⟨vs,hv,_⟩:=hp;exact ⟨vs,hv⟩
  ·rw [hs] at hag
   cases p with
   | c x=>exact CV.one_cell h (by simpa [PV.cells] using h1) hp hpi
   | ag l=>cases hag
 intro k x l r hr ho hrd
 cases k with
 | rd =>
  obtain ⟨hb,hr1,ho1⟩:=bif_split hr ho
  simp only [Bool.and_eq_true] at hb
  obtain ⟨y,hy,hyo,hr2,_⟩:=bind_split hr1 ho1
  have e1:=ret_some hr2;cases e1
  have hag':p.isAg=s.agg:=by simpa using hb.2
  refine ⟨⟨?_,rfl⟩,by simp⟩
  have hY:(∀ i∈p.cells.flatMap CV.ids,i ∉ lent)∧(s.data=true∨∀ i,i ∉ lent):=⟨fun i hi=>hrd i (by cases p with
   | c c=>simpa [PV.ids,PV.cells] using hi
   | ag l=>exact hi),.inl hb.1⟩
  cases p with
  | c c =>
   have hd:dens E Z w [c] [u]:=⟨hp,trivial⟩
   have hrd:=rdC_rdY h hZ true (Y:=fun i=>i ∉ lent) (fun _=>hown) s hy hyo hd hY
   have h1:=s.rd_one hrd u (by simp)
   refine ⟨by rw [cells_one h1];exact hrd,fun hs=>?_,fun _=>h1⟩
   rw [hs] at hag';cases hag'
  | ag cs =>
   obtain ⟨vs,hv,hd⟩:=hp
   have hrd:=rdC_rdY h hZ true (Y:=fun i=>i ∉ lent) (fun _=>hown) s hy hyo hd hY
   refine ⟨by rw [hv];exact hrd,fun _=>⟨vs,hv⟩,fun hs=>?_⟩
   rw [hs] at hag';cases hag'
 | io =>
  obtain ⟨hb,hr1,ho1⟩:=bif_split hr ho
  simp only [Bool.and_eq_true] at hb
  obtain ⟨y,hy,hyo,hr2,_⟩:=bind_split hr1 ho1
  have e1:=ret_some hr2;cases e1
  obtain ⟨hd,hf⟩:=form (by simpa using hb.1) hb.2
  have hw:=owC_ow h s hy hyo hd
  exact ⟨⟨hw.1,hf⟩,hw.2⟩
 | tk =>
  obtain ⟨hb,hr1,ho1⟩:=bif_split hr ho
  simp only [Bool.and_eq_true] at hb
  obtain ⟨y,hy,hyo,hr2,_⟩:=bind_split hr1 ho1
  have e1:=ret_some hr2;cases e1
  obtain ⟨hd,hf⟩:=form (by simpa using hb.1) hb.2
  have hw:=owC_ow h s hy hyo hd
  exact ⟨⟨hw.1,hf⟩,hw.2⟩
 | bx t off =>
  replace hr:(bxArg s t off p).run σ=some (x,l,r):=hr
  replace ho:AllP ((bxArg s t off p).obl σ):=ho
  unfold bxArg at hr ho
  split at hr
  ·rename_i o k
   obtain ⟨hk,hr1,ho1⟩:=bif_split hr ho
   have hk:=Nat.eq_of_beq_eq_true hk
   subst hk
   obtain ⟨b,hb,hr2,ho2⟩:=obj_split hr1 ho1
   match b,hb,hr2,ho2 with
   | .bx t' cs, hb, hr2, ho2 =>
    obtain ⟨ht,hr3,ho3⟩:=bif_split hr2 ho2
    have ht:=Nat.eq_of_beq_eq_true ht
    subst ht
    obtain ⟨y,hy,hyo,hr4,_⟩:=bind_split hr3 ho3
    have e1:=ret_some hr4;cases e1
    obtain ⟨c,hc,rfl⟩:=hp
    obtain ⟨c',vs,hc',hF,hbx,hd⟩:=h.obj o _ hb
    rw [hc] at hc';cases hc'
    have hw:=owC_ow h s hy hyo hd
    refine ⟨⟨c,vs,y.2.flatMap E.fp,rfl,hbx,hw.1,by rw [List.flatMap_cons,hF];rfl⟩,fun m hm=>?_⟩
    rcases List.mem_cons.1 hm with rfl | hm
    ·exact ⟨_,hb⟩
    ·exact hw.2 m hm
  ·cases hr
theorem ioArgs_args (h:RelE w0 Z0 L N K σ a w E Z) {Zr:Nat→Prop} (hZ:∀ b,Z b→Zr b) {lent:List Nat} (hown:∀ o x,o ∉ lent→σ.obj o=some x→∀ b∈E.fp o,Zr b) :
  ∀ {ks:List Kd} {l:List Sh} {us:List Value} {ps:List PV} {x:Dom l} {ids rs:List Nat},pdens E Z w ps us→(∀ i∈ps.flatMap PV.ids,i∈K)→(ioArgs ks l ps).run σ=some (x,ids,rs)→AllP ((ioArgs ks l ps).obl σ)→(∀ i∈rs,i ∉ lent) →
  argsIO w Zr ks l us x (ids.flatMap E.fp)∧∀ m∈ids,∃ y,σ.obj m=some y
 | [], [], us, ps, x, ids, rs, he, _, hr, ho, _ => by
  cases ps with
  | cons _ _=>cases hr
  | nil =>
   have e1:=ret_some hr;cases e1
   cases us with
   | nil=>exact ⟨rfl,by simp⟩
   | cons _ _=>exact he.elim
 | [],_::_,_,ps,_,_,_,_,_,hr,_,_=>by cases ps<;>cases hr
 | _::_,[],_,ps,_,_,_,_,_,hr,_,_=>by cases ps<;>cases hr
 | k :: ks, s :: l, us, ps, x, ids, rs, he, hi, hr, ho, hrd => by
  cases ps with
  | nil=>cases hr
  | cons p ps =>
  cases us with
  | nil=>exact he.elim
  | cons u us =>
   unfold ioArgs at hr ho
   obtain ⟨y,hy,hyo,hr1,ho1⟩:=bind_split hr ho
   obtain ⟨z,hz,hzo,hr2,_⟩:=bind_split hr1 ho1
   have e1:=ret_some hr2;cases e1
   obtain ⟨y1,y2,y3⟩:=y;obtain ⟨z1,z2,z3⟩:=z
   rw [List.flatMap_cons] at hi
   have h1:=ioArg_arg h hZ hown he.1 (fun i hi'=>hi i (List.mem_append.2 (.inl hi'))) hy hyo (fun i hi'=>hrd i (List.mem_append.2 (.inl hi')))
   have h2:=ioArgs_args h hZ hown he.2 (fun i hi'=>hi i (List.mem_append.2 (.inr hi'))) hz hzo (fun i hi'=>hrd i (List.mem_append.2 (.inr hi')))
   refine ⟨⟨_,_,by rw [List.flatMap_append],h1.1,h2.1⟩,fun m hm=>?_⟩
   rcases List.mem_append.1 hm with hm | hm
   ·exact h1.2 m hm
   ·exact h2.2 m hm
def Kd.cnt (s:Sh):Kd→Nat
 | .bx _ _=>s.cnt
 | _=>0
theorem back_one {K0:List Nat} {σ0:St} {w1:World} {E0:Env} {Z1:Nat→Prop} (h0:RelE w0 Z0 L N K0 σ0 a w1 E0 Z1) (h:RelE w0 Z0 L N K σ a w E Z) {s:Sh} {p:PV} {u:Value} (hp:p.den E0 Z1 w1 u) (hpi:∀ i∈p.ids,i∈K0) :
  ∀ {k:Kd} {x0 x:s.D} {l r ids G:List Nat},(ioArg s p k).run σ0=some (x0,l,r)→(∀ i∈l,E.hdr i=E0.hdr i)→k.out w s u x G→G.Nodup→(∀ b∈G,Free w0 L σ w E Z b)→l.Nodup→(∀ r∈l,r∈K∧σ.obj r=none)→ids.Nodup→(∀ i∈ids,i ∉ K)→k.cnt s≤ids.length →
  ∃ E' K',RelE w0 Z0 L N K' (σ.add (ioBack s p x ids k).1) a w E' Z∧(ioBack s p x ids k).2=ids.drop (k.cnt s)∧(∀ i,i∈K'↔i∈ids.take (k.cnt s)∨i∈K)∧(∀ i∈K,E'.hdr i=E.hdr i) ∧
   (∀ b,Free w0 L σ w E Z b→b ∉ G→Free w0 L (σ.add (ioBack s p x ids k).1) w E' Z b)∧∀ q∈(ioBack s p x ids k).1,q.1∈l∨q.1∈ids.take (k.cnt s):=by
 intro k x0 x l r ids G hr he ho hn hf hl hk hi hik hc
 cases k with
 | rd=>exact ⟨E,K,h,by simp [ioBack,Kd.cnt],by simp [Kd.cnt],fun _ _=>rfl,fun b hb _=>hb,by simp [ioBack]⟩
 | tk=>exact ⟨E,K,h,by simp [ioBack,Kd.cnt],by simp [Kd.cnt],fun _ _=>rfl,fun b hb _=>hb,by simp [ioBack]⟩
 | io =>
  obtain ⟨hb,hr1⟩:=bif_some hr
  simp only [Bool.and_eq_true] at hb
  obtain ⟨y,hy,hr2⟩:=RM.run_bind hr1
  have e1:=ret_some hr2;cases e1
  have hcd:dens E0 Z1 w1 p.cells u.cells.toList:=by
   cases p with
   | c x =>
    have h1:u.oneCell'=true:=CV.one_cell h0 (by simpa [PV.cells] using hb.2) hp hpi
    rw [cells_one h1]
    exact ⟨hp,trivial⟩
   | ag l=>obtain ⟨vs,hv,hd⟩:=hp;rw [hv];exact hd
  obtain ⟨E1,r1,e1,f1⟩:=adopt_io s (x:=x) h hy hcd he ho hn hf hl hk
  exact ⟨E1,K,r1,by simp [ioBack,Kd.cnt],by simp [Kd.cnt],fun i _=>e1 i,f1,fun q hq=>.inl (ioC_ids s (x0:=y.1) (ids:=y.2) hy q hq)⟩
 | bx t off =>
  replace hr:(bxArg s t off p).run σ0=some (x0,l,r):=hr
  unfold bxArg at hr
  split at hr
  ·rename_i o kk
   obtain ⟨hkk,hr1⟩:=bif_some hr
   have hkk:=Nat.eq_of_beq_eq_true hkk
   subst hkk
   obtain ⟨b,hb,hr2⟩:=obj_some hr1
   match b,hb,hr2 with
   | .bx t' cs, hb, hr2 =>
    obtain ⟨ht,hr3⟩:=bif_some hr2
    have ht:=Nat.eq_of_beq_eq_true ht
    subst ht
    obtain ⟨y,hy,hr4⟩:=RM.run_bind hr3
    have e1:=ret_some hr4;cases e1
    obtain ⟨c,hcc,hu⟩:=hp
    obtain ⟨c',vs,H,hu',hbx,how,rfl⟩:=ho
    rw [hu] at hu'
    cases hu'
    have hhd:E.hdr o=.pointer (some ⟨c,0,none⟩):=by rw [he o (by simp)];exact hcc
    have hn':=List.nodup_cons.1 hn
    obtain ⟨E1,K1,r1,d1,i1,j1,k1,e1,f1⟩:=adopt_res s (dp:=true) (y:=x) h (ow_res s how) hn'.2 (fun b hb=>hf b (by simp [hb])) hi hik hc
    have hoK:=hk o (by simp)
    have hres:∀ (s:Sh) (x:s.D) (ids:List Nat),s.cnt≤ids.length→(resC true s x ids).2.2=ids.drop s.cnt∧∀ q∈(resC true s x ids).2.1,q.1∈ids.take s.cnt:=by
     intro s
     induction s with
     | pair p q ihp ihq =>
      intro x ids hle
      have hle:p.cnt+q.cnt≤ids.length:=hle
      have e1:=ihp x.1 ids (by omega)
      have e2:=ihq x.2 (ids.drop p.cnt) (by rw [List.length_drop];omega)
      refine ⟨?_,fun z hz=>?_⟩
      ·show (resC true q x.2 (resC true p x.1 ids).2.2).2.2 = ids.drop (p.cnt + q.cnt)
       rw [e1.1,e2.1,List.drop_drop]
      ·have hz : z ∈ (resC true q x.2 (resC true p x.1 ids).2.2).2.1 ++ (resC true p x.1 ids).2.1 := hz
       show z.1∈ids.take (p.cnt+q.cnt)
       rw [List.take_add]
       rw [e1.1] at hz
       rcases List.mem_append.1 hz with hz | hz
       ·exact List.mem_append.2 (.inr (e2.2 z hz))
       ·exact List.mem_append.2 (.inl (e1.2 z hz))
     | st t p ih=>intro x ids hle;exact ih x ids hle
     | sl t p _ =>
      intro x ids hle
      cases ids with
      | nil=>simp [Sh.cnt] at hle
      | cons i ids=>exact ⟨by simp [resC,Sh.cnt],by simp [resC,Sh.cnt]⟩
     | int t=>intro x ids _;exact ⟨by simp [resC,Sh.cnt],by simp [resC]⟩
     | bool t=>intro x ids _;exact ⟨by simp [resC,Sh.cnt],by simp [resC]⟩
     | u8 t=>intro x ids _;exact ⟨by simp [resC,Sh.cnt],by simp [resC]⟩
     | str t=>intro x ids _;exact ⟨by simp [resC,Sh.cnt],by simp [resC]⟩
     | fn0 f=>intro x ids _;exact ⟨by simp [resC,Sh.cnt],by simp [resC]⟩
     | fn f p _=>intro x ids _;exact ⟨by simp [resC,Sh.cnt],by simp [resC]⟩
     | pt p _=>intro x ids _;exact ⟨by simp [resC,Sh.cnt],by simp [resC]⟩
    have hrs:=hres s x ids hc
    have hno:(σ.add (resC true s x ids).2.1).obj o=none:=by
     rw [add_none fun q hq e=>hik o (by rw [← e];exact List.mem_of_mem_take (hrs.2 q hq)) hoK.1]
     exact hoK.2
    have hoK1:o∈K1:=(k1 o).2 (.inr hoK.1)
    have hhd1:E1.hdr o=.pointer (some ⟨c,0,none⟩):=by rw [e1 o hoK.1];exact hhd
    have hset:∀ i,(E1.set o (E1.hdr o) [c]).hdr i=E1.hdr i:=fun i=>by
     by_cases e:i=o
     ·subst e;simp [Env.set]
     ·simp [Env.set,e]
    have r2:=r1.readopt (id:=o) hoK1 hno (ob:=.bx t' (resC true s x ids).1) (F:=[c]) ⟨c,vs,hhd1,rfl,hbx,d1.keep (fun i _=>hset i) (fun _ h=>h) (fun _ _=>rfl) i1⟩ (by simp) (fun b hb=>by
     have e:b=c:=by simpa using hb
     subst e
     exact f1 b (hf b (by simp)) hn'.1) i1
    refine ⟨_,K1,?_,j1,k1,fun i hi'=>by rw [hset,e1 i hi'],fun b hb hbG=>?_,fun q hq=>?_⟩
    ·show RelE w0 Z0 L N K1 (σ.add ((o, some (.bx t' (resC true s x ids).1)) :: (resC true s x ids).2.1)) a w _ Z
     rw [show (o,some (Ob.bx t' (resC true s x ids).1))::(resC true s x ids).2.1=[(o,some (.bx t' (resC true s x ids).1))]++(resC true s x ids).2.1 from rfl,← add_add]
     exact r2
    ·have hb1 := f1 b hb fun hm => hbG (by simp [hm])
     show Free w0 L (σ.add ((o,some (.bx t' (resC true s x ids).1))::(resC true s x ids).2.1)) w _ Z b
     rw [show (o,some (Ob.bx t' (resC true s x ids).1))::(resC true s x ids).2.1=[(o,some (.bx t' (resC true s x ids).1))]++(resC true s x ids).2.1 from rfl,← add_add]
     refine ⟨hb1.1,hb1.2.1,hb1.2.2.1,fun o' x' ho'=>?_⟩
     rcases add_one ho' with ⟨rfl,rfl⟩ | ⟨h1,h2⟩
     ·simp only [Env.set,if_true];intro hm;exact hbG (by simp at hm;simp [hm])
     ·simp only [Env.set,h1,if_false];exact hb1.2.2.2 o' x' h2
    ·rcases List.mem_cons.1 (show q ∈ (o, some (Ob.bx t' (resC true s x ids).1)) :: (resC true s x ids).2.1 from hq) with rfl | hq
     ·left;simp
     ·right;exact hrs.2 q hq
  ·cases hr
theorem back_all {K0:List Nat} {σ0:St} {w1:World} {E0:Env} {Z1:Nat→Prop} (h0:RelE w0 Z0 L N K0 σ0 a w1 E0 Z1) :
  ∀ {ks:List Kd} {l:List Sh} {K:List Nat} {σ:St} {E:Env} {us:List Value} {ps:List PV} {x0 x:Dom l} {lent rs ids F:List Nat},RelE w0 Z0 L N K σ a w E Z→pdens E0 Z1 w1 ps us→(∀ i∈ps.flatMap PV.ids,i∈K0)→(ioArgs ks l ps).run σ0=some (x0,lent,rs)→(∀ i∈lent,E.hdr i=E0.hdr i) →
   outIO w ks l us x F→F.Nodup→(∀ b∈F,Free w0 L σ w E Z b)→lent.Nodup→(∀ r∈lent,r∈K∧σ.obj r=none)→ids.Nodup→(∀ i∈ids,i ∉ K)→cntB ks l≤ids.length →
  ∃ E' K',RelE w0 Z0 L N K' (σ.add (ioBacks ks l ps x ids).1) a w E' Z∧(ioBacks ks l ps x ids).2=ids.drop (cntB ks l)∧(∀ i,i∈K'↔i∈ids.take (cntB ks l)∨i∈K)∧(∀ i∈K,E'.hdr i=E.hdr i) ∧
   (∀ b,Free w0 L σ w E Z b→b ∉ F→Free w0 L (σ.add (ioBacks ks l ps x ids).1) w E' Z b)
 | [], [], K, σ, E, us, ps, x0, x, lent, rs, ids, F, h, _, _, _, _, _, _, _, _, _, _, _, _ => by
  have:ioBacks [] [] ps x ids=([],ids):=by cases ps<;>rfl
  rw [this]
  exact ⟨E,K,h,by simp [cntB],by simp [cntB],fun _ _=>rfl,fun b hb _=>hb⟩
 | [],_::_,_,_,_,_,ps,_,_,_,_,_,_,_,_,_,hr,_,_,_,_,_,_,_,_,_=>by cases ps<;>cases hr
 | _::_,[],_,_,_,_,ps,_,_,_,_,_,_,_,_,_,hr,_,_,_,_,_,_,_,_,_=>by cases ps<;>cases hr
 | k :: ks, s :: l, K, σ, E, us, ps, x0, x, lent, rs, ids, F, h, hpd, hpi, hr, he, ho, hn, hf, hl, hk, hi, hik, hc => by
  cases ps with
  | nil=>cases hr
  | cons p ps =>
  cases us with
  | nil=>exact hpd.elim
  | cons u us =>
   unfold ioArgs at hr
   obtain ⟨y,hy,hr1⟩:=RM.run_bind hr
   obtain ⟨z,hz,hr2⟩:=RM.run_bind hr1
   have e1:=ret_some hr2;cases e1
   obtain ⟨y1,y2,y3⟩:=y;obtain ⟨z1,z2,z3⟩:=z
   obtain ⟨G,H,rfl,h1,h2⟩:=ho
   have hn':=List.nodup_append.1 hn
   have hl':=List.nodup_append.1 hl
   rw [List.flatMap_cons] at hpi
   have hcB:cntB (k::ks) (s::l)=k.cnt s+cntB ks l:=by cases k<;>simp [cntB,Kd.cnt]
   rw [hcB] at hc
   obtain ⟨E1,K1,r1,j1,k1,e1,f1,g1⟩:=back_one h0 h (x:=x.1) (ids:=ids) hpd.1 (fun i hi'=>hpi i (List.mem_append.2 (.inl hi'))) hy (fun i hi'=>he i (List.mem_append.2 (.inl hi'))) h1 hn'.1 (fun b hb=>hf b (List.mem_append.2 (.inl hb))) hl'.1 (fun r hr=>hk r (List.mem_append.2 (.inl hr))) hi hik (by omega)
   have hnd2:(ids.drop (k.cnt s)).Nodup:=by have:=hi;rw [← List.take_append_drop (k.cnt s) ids] at this;exact (List.nodup_append.1 this).2.1
   have hdis:∀ i∈ids.drop (k.cnt s),i ∉ ids.take (k.cnt s):=fun i hi1 hi2=>by have:=hi;rw [← List.take_append_drop (k.cnt s) ids] at this;exact (List.nodup_append.1 this).2.2 i hi2 i hi1 rfl
   obtain ⟨E2,K2,r2,j2,k2,e2,f2⟩:=back_all h0 (x:=x.2) (ids:=ids.drop (k.cnt s)) r1 hpd.2 (fun i hi'=>hpi i (List.mem_append.2 (.inr hi'))) hz (fun i hi'=>by rw [e1 i (hk i (List.mem_append.2 (.inr hi'))).1];exact he i (List.mem_append.2 (.inr hi'))) h2 hn'.2.1
    (fun b hb => f1 b (hf b (List.mem_append.2 (.inr hb))) fun hg => hn'.2.2 b hg b hb rfl) hl'.2.1 (fun r hr => ⟨(k1 r).2 (.inr (hk r (List.mem_append.2 (.inr hr))).1), by
     rw [add_none fun q hq e=>by
      rcases g1 q hq with h' | h'
      ·exact hl'.2.2 q.1 h' r hr e
      ·exact hik q.1 (List.mem_of_mem_take h') (e ▸ (hk r (List.mem_append.2 (.inr hr))).1)]
     exact (hk r (List.mem_append.2 (.inr hr))).2⟩) hnd2
    (fun i hi1 hi2=>by rcases (k1 i).1 hi2 with h' | h';exact hdis i hi1 h';exact hik i (List.mem_of_mem_drop hi1) h') (by rw [List.length_drop];omega)
   have hb:ioBacks (k::ks) (s::l) (p::ps) x ids=((ioBacks ks l ps x.2 (ids.drop (k.cnt s))).1++(ioBack s p x.1 ids k).1,(ioBacks ks l ps x.2 (ids.drop (k.cnt s))).2):=by
    simp only [ioBacks,j1]
   rw [hb,hcB]
   refine ⟨E2,K2,?_,by rw [j2,List.drop_drop],fun i=>?_,fun i hi'=>by rw [e2 i ((k1 i).2 (.inr hi')),e1 i hi'],fun b hb hbF=>?_⟩
   ·simp only;rw [← add_add];exact r2
   ·rw [k2, k1, List.take_add, List.mem_append]
    constructor
    ·rintro (h | h | h)
     ·exact .inl (.inr h)
     ·exact .inl (.inl h)
     ·exact .inr h
    ·rintro ((h | h) | h)
     ·exact .inr (.inl h)
     ·exact .inl h
     ·exact .inr (.inr h)
   ·simp only; rw [← add_add]
    exact f2 b (f1 b hb fun hg=>hbF (List.mem_append.2 (.inl hg))) fun hg=>hbF (List.mem_append.2 (.inr hg))
theorem pdens_get {E:Env}:∀ {ps:List PV} {us:List Value} (j:Nat),pdens E Z w ps us→(ps.getD j (.c .un)).den E Z w (us.getD j undef)
 | [],[],j,_=>by simp [PV.den,CV.den]
 | p::ps,u::us,0,h=>h.1
 | p::ps,u::us,j+1,h=>by simpa using pdens_get j h.2
theorem getD_ids {ps:List PV} {j i:Nat} (h:i∈(ps.getD j (.c .un)).ids):i∈ps.flatMap PV.ids:=by
 rw [List.getD_eq_getElem?_getD] at h
 cases hj:ps[j]? with
 | none=>rw [hj] at h;simp [PV.ids,CV.ids] at h
 | some p=>rw [hj] at h;exact List.mem_flatMap.2 ⟨p,List.mem_of_getElem? hj,h⟩
theorem callG_ends (h:RelE w0 Z0 L N K σ a w E Z) {md:Md} {d:Option Nat} {f:FuncId} {S:Sum} {e:Eff} {ps:List PV} {us:List Value} (hok:FnOKI P f S) (hpd:pdens E Z w ps us) (hpi:∀ i∈ps.flatMap PV.ids,i∈K)
  (hids:∀ i∈md.ids,i ∉ K) (hndI:md.ids.Nodup) (hdst:∀ d',d=some d'→d' < N) (hr:(S.callG md ps).run σ=some e) (ho:AllP ((S.callG md ps).obl σ)):CallEnds P w0 Z0 L N (md.ids++K) σ a w d f us e:=by
 obtain ⟨x,hx,hxo,hr2,ho2⟩:=bind_split hr ho
 obtain ⟨hb,hr2,ho2⟩:=bif_split hr2 ho2
 obtain ⟨hpre,hr3,ho3⟩:=need_split hr2 ho2
 have e1:=ret_some hr3;subst e1
 obtain ⟨x,ids,rs⟩:=x
 simp only [Bool.and_eq_true] at hb
 have hnd:ids.Nodup:=nodupB_spec hb.1.1
 have hrs:∀ i∈rs,i ∉ ids:=fun i hi=>memN_not (by have:=List.all_eq_true.1 hb.1.2 i hi;simpa using this)
 have hcnt:cntB S.kinds S.dom+cntP S.cod≤md.ids.length:=Nat.le_of_ble_eq_true hb.2
 clear hr ho hr2 ho2
 -- what the callee may read: all but what is lent
 let Zr:Nat→Prop:=fun b=>b < w.heap.size∧b ∉ ids.flatMap E.fp
 have hex0:∀ m∈ids,∃ y,σ.obj m=some y:=(ioArgs_args h (Zr:=fun _=>True) (lent:=ids) (fun _ _=>trivial) (fun _ _ _ _ _ _=>trivial) hpd hpi hx hxo hrs).2
 have hZr:∀ b,Z b→Zr b:=fun b hb=>⟨h.zlt b hb,fun hm=>by
  obtain ⟨r,hr,hbr⟩:=List.mem_flatMap.1 hm
  obtain ⟨y,hy⟩:=hex0 r hr
  exact (h.free r y hy b hbr).2.1 hb⟩
 have hargs:=ioArgs_args h hZr (lent:=ids) (fun o x ho hx b hb=>⟨(h.free o x hx b hb).1,fun hm=>by
  obtain ⟨r,hr,hbr⟩:=List.mem_flatMap.1 hm
  obtain ⟨y,hy⟩:=hex0 r hr
  exact h.apart o x r y hx hy (fun e=>ho (e ▸ hr)) b hb hbr⟩) hpd hpi hx hxo hrs
 have hFn:(ids.flatMap E.fp).Nodup:=nodup_flat hnd (fun r hr=>by obtain ⟨y,hy⟩:=hex0 r hr;exact h.nodup r y hy) fun r hr r' hr' hne b hb hb'=>by
  obtain ⟨y,hy⟩:=hex0 r hr
  obtain ⟨y',hy'⟩:=hex0 r' hr'
  exact h.apart r y r' y' hy hy' hne b hb hb'
 have hF:∀ b∈ids.flatMap E.fp,b < w.heap.size∧¬ Z b∧(w0.heap.size≤b∨b∈L):=fun b hb=>by
  obtain ⟨r,hr,hb⟩:=List.mem_flatMap.1 hb
  obtain ⟨y,hy⟩:=hex0 r hr
  exact h.free r y hy b hb
 have hcall:=hok w Zr _ x _ (fun b hb=>hb.1) hargs.1 hFn (fun b hb=>⟨(hF b hb).1,fun hz=>hz.2 hb⟩) hpre
 refine hcall.mono ?_
 rintro e' w' ⟨vs,F1,F2,rfl,hout,hres,hFn',hF',hsame⟩
 refine ⟨_,rfl,?_⟩
 have h1:=h.lend hex0 hsame
 have hFn2:=List.nodup_append.1 hFn'
 have hfree:∀ b∈F1++F2,Free w0 L (σ.add (gone ids)) w' E Z b:=fun b hb=>by
  have hb':=hF' b hb
  have hz:¬ Z b:=fun hz=>by
   rcases hb'.2 with h' | h'
   ·have:=h.zlt b hz;omega
   ·exact (hF b h').2.1 hz
  refine ⟨hb'.1,hz,?_,fun o x ho hbo=>?_⟩
  ·rcases hb'.2 with h' | h'
   ·have:=h.frame.size;exact .inl (by omega)
   ·exact (hF b h').2.2
  ·have ho := add_gone ho
   rcases hb'.2 with h' | h'
   ·have:=(h.free o x ho.2 b hbo).1;omega
   ·obtain ⟨r, hr, hbr⟩ := List.mem_flatMap.1 h'
    obtain ⟨y,hy⟩:=hex0 r hr
    exact h.apart o x r y ho.2 hy (fun e=>ho.1 (e ▸ hr)) b hbo hbr
 obtain ⟨E2,K2,h2,j2,k2,e2,f2⟩:=back_all h (x:=S.upd x) (ids:=md.ids) h1 hpd hpi hx (fun _ _=>rfl) hout hFn2.1 (fun b hb=>hfree b (List.mem_append.2 (.inl hb))) hnd (fun r hr=>by
  obtain ⟨y,hy⟩:=hex0 r hr
  refine ⟨(h.oids r y hy).1,?_⟩
  cases hg:(σ.add (gone ids)).obj r with
  | none=>rfl
  | some z=>exact absurd hr (add_gone hg).1) hndI hids (by omega)
 have hnd2:(md.ids.drop (cntB S.kinds S.dom)).Nodup:=by have:=hndI;rw [← List.take_append_drop (cntB S.kinds S.dom) md.ids] at this;exact (List.nodup_append.1 this).2.1
 have hdis:∀ i∈md.ids.drop (cntB S.kinds S.dom),i ∉ md.ids.take (cntB S.kinds S.dom):=fun i hi1 hi2=>by have:=hndI;rw [← List.take_append_drop (cntB S.kinds S.dom) md.ids] at this;exact (List.nodup_append.1 this).2.2 i hi2 i hi1 rfl
 have fin:∀ (av:AV) (obs:List (Nat×Option Ob)) (E3:Env) (K3:List Nat),RelE w0 Z0 L N K3 (((σ.add (gone ids)).add (ioBacks S.kinds S.dom ps (S.upd x) md.ids).1).add obs) a w' E3 Z→av.den E3 Z w' (S.val us vs)→(∀ i∈av.ids,i∈K3)→(∀ i∈K3,i∈md.ids++K) →
   Post w0 Z0 L N (md.ids++K) σ a d ⟨av,obs++(ioBacks S.kinds S.dom ps (S.upd x) md.ids).1++gone ids⟩ (S.val us vs) w':=by
  intro av obs E3 K3 h3 hd hi hK
  obtain ⟨E4,Z4,hv⟩:=h3.val hdst hd hi []
  have e:σ.app d ⟨av,obs++(ioBacks S.kinds S.dom ps (S.upd x) md.ids).1++gone ids⟩=(((σ.add (gone ids)).add (ioBacks S.kinds S.dom ps (S.upd x) md.ids).1).add obs).app d ⟨av,[]⟩:=by
   rw [add_add,add_add]
   simp only [List.append_assoc]
   cases d<;>rfl
  rw [← e] at hv
  exact more_post hv (fun i hi=>hK i (by simpa using hi))
 have hK2:∀ i∈K2,i∈md.ids++K:=fun i hi=>by
  rcases (k2 i).1 hi with h' | h'
  ·exact List.mem_append.2 (.inl (List.mem_of_mem_take h'))
  ·exact List.mem_append.2 (.inr h')
 cases hali:S.ali with
 | some j =>
  have hre:S.resG ps (S.g x) (ioBacks S.kinds S.dom ps (S.upd x) md.ids).2=(.p (ps.getD j (.c .un)),[]):=by unfold Sum.resG;rw [hali]
  have hval:S.val us vs=us.getD j undef:=by unfold Sum.val;rw [hali]
  have hg:=pdens_get j hpd
  have:=fin (.p (ps.getD j (.c .un))) [] E2 K2 (by rw [add_nil];exact h2) (by
   rw [hval]
   exact PV.keep (K:=K) e2 (fun _ h=>h) (fun b hb=>hsame.2.2.2.2 b (h.zlt b hb) fun hm=>(hF b hm).2.1 hb) hg fun i hi=>hpi i (getD_ids hi)) (fun i hi=>(k2 i).2 (.inr (hpi i (getD_ids hi)))) hK2
  simpa [hre] using this
 | none =>
  have hre:S.resG ps (S.g x) (ioBacks S.kinds S.dom ps (S.upd x) md.ids).2=(tupA (resP true S.cod (S.g x) (md.ids.drop (cntB S.kinds S.dom))).1,(resP true S.cod (S.g x) (md.ids.drop (cntB S.kinds S.dom))).2):=by unfold Sum.resG;rw [hali,j2]
  have hval:S.val us vs=tupV vs:=by unfold Sum.val;rw [hali]
  obtain ⟨E3,K3,h3,d3,i3,k3,e3⟩:=adopt_all S.cod h2 (resAll_deep (Z2:=Z) _ (hres hali)) hFn2.2.1 (fun b hb=>f2 b (hfree b (List.mem_append.2 (.inr hb))) fun hm=>hFn2.2.2 b hm b hb rfl) hnd2 (fun i hi1 hi2=>by
   rcases (k2 i).1 hi2 with h' | h'
   ·exact hdis i hi1 h'
   ·exact hids i (List.mem_of_mem_drop hi1) h') (by rw [List.length_drop];omega)
  have:=fin (tupA (resP true S.cod (S.g x) (md.ids.drop (cntB S.kinds S.dom))).1) (resP true S.cod (S.g x) (md.ids.drop (cntB S.kinds S.dom))).2 E3 K3 h3 (by rw [hval];exact tup_den d3) (fun i hi=>i3 i (tup_ids _ i hi)) (fun i hi=>by
   rcases (k3 i).1 hi with h' | h'
   ·exact List.mem_append.2 (.inl (List.mem_of_mem_drop (List.mem_of_mem_take h')))
   ·exact hK2 i h')
  simpa [hre] using this
end
end Go.Proofs.Ytmcpigcpachdkaa
