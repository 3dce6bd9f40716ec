/- Stores: what is known afterwards holds. No program is named; no condition. -/
import Derived.Test.YtmcpigcpachdkaaPG
namespace Go.Proofs.Ytmcpigcpachdkaa
open Go.RowKit
set_option linter.unusedVariables false
set_option linter.unusedSimpArgs false
section
variable {P:Program} {w0:World} {Z0:Nat→Prop} {L:List Nat} {N:Nat} {K:List Nat} {σ:St} {a:Act} {w:World} {E:Env} {Z:Nat→Prop}
theorem store_at {t:TypeId} {n b o:Nat} {val:Value} {cur:Array Value} {tt:TypeId} (hn:infoSize P t=some n) (hl:val.cells.toList.length=n) (hg:w.heap[b]?=some (.cells cur tt (0,0))) (hle:o+val.cells.toList.length≤cur.size) (h1:∀ u∈val.cells.toList,u.oneCell'=true) :
  (Instr.storeAt t (.pointer (some ⟨b,o,none⟩)) val).run P w=.ok () (w.setRow b (cur.toList.take o++val.cells.toList++cur.toList.drop (o+val.cells.toList.length)).toArray):=by
 have:=run_storeCells_at P b o tt val.cells.toList 0 cur w hg (by simpa using hle) h1
 simp only [Nat.add_zero] at this
 have hl':val.cells.size=n:=by simpa using hl
 simp only [Instr.storeAt,Instr.sureAddr,storeVar,Sem.run_bind,Sem.run_pure,Result.andThen_ok,size_run hn,hl']
 simpa using this
theorem splice_flat {s:Nat} {us:List Value} {k:Nat}:∀ {vs:List (List Value)} {i:Nat} {c:List Value},(∀ v∈vs,v.length=s)→vs[i]?=some c→k+us.length≤s →
  (vs.set i (c.take k++us++c.drop (k+us.length))).flatten=vs.flatten.take (i*s+k)++us++vs.flatten.drop (i*s+k+us.length)
 | [],_,_,_,h,_=>by simp at h
 | v :: vs, 0, c, hl, hc, hk => by
  simp only [List.getElem?_cons_zero,Option.some.injEq] at hc
  subst hc
  have hv:=hl v (by simp)
  rw [List.set_cons_zero,List.flatten_cons,List.flatten_cons,Nat.zero_mul,Nat.zero_add,List.take_append_of_le_length (by omega),List.drop_append_of_le_length (by omega)]
  simp [List.append_assoc]
 | v :: vs, i + 1, c, hl, hc, hk => by
  have hv:=hl v (by simp)
  rw [List.set_cons_succ,List.flatten_cons,List.flatten_cons,splice_flat (fun v hv=>hl v (by simp [hv])) (by simpa using hc) hk]
  have e1:(i+1)*s+k=v.length+(i*s+k):=by rw [Nat.add_mul,hv];omega
  rw [e1,List.take_length_add_append,Nat.add_assoc (v.length),List.drop_length_add_append]
  simp [List.append_assoc]
theorem splice_off (cl us:List Value) (off m:Nat) (h:off+m≤cl.length):List.drop off (cl.take (off+m)++us++cl.drop (off+m+us.length))=(cl.drop off).take m++us++(cl.drop off).drop (m+us.length):=by
 rw [List.append_assoc,List.drop_append_of_le_length (by rw [List.length_take];omega),List.drop_take,List.drop_drop,Nat.add_sub_cancel_left,List.append_assoc,Nat.add_assoc]
theorem own_splice {e:TypeId} {s n l cap g off i k:Nat} {h:Value} {vs:List (List Value)} {c us:List Value} (ho:ownsRw w 0 e s h n vs.flatten) (hh:h=.slice (some ⟨g,off,none⟩) l cap) (hl:∀ v∈vs,v.length=s) (hvl:vs.length=n) (hc:vs[i]?=some c) (hk:k+us.length≤s) :
  ∃ cur,w.heap[g]?=some (.cells cur e (0,0))∧off+(i*s+k)+us.length≤cur.size ∧
   ownsRw (w.setRow g (cur.toList.take (off+(i*s+k))++us++cur.toList.drop (off+(i*s+k)+us.length)).toArray) 0 e s h n (vs.set i (c.take k++us++c.drop (k+us.length))).flatten:=by
 have hfl:=ho.1
 rcases ho.2 with ⟨e1,_⟩ | ⟨g',off',cap',cur,e1,_,hg,hnc,hcm,hcs,ht⟩
 ·rw [e1] at hh;cases hh
 ·rw [e1] at hh; cases hh
  have hi:i < vs.length:=by
   rcases Nat.lt_or_ge i vs.length with h' | h'
   ·exact h'
   ·rw [List.getElem?_eq_none h'] at hc;cases hc
  have h1:i*s+s≤n*s:=by rw [← Nat.succ_mul];exact Nat.mul_le_mul_right _ (by omega)
  have h2:n*s≤cap*s:=Nat.mul_le_mul_right _ hnc
  have hcl:cur.toList.length=cur.size:=Array.length_toList
  refine ⟨cur,hg,by omega,⟨?_,.inr ⟨g,off,cap,_,e1,Nat.zero_le _,setRow_heap w g cur _ e (0,0) hg,hnc,hcm,?_,?_⟩⟩⟩
  ·rw [splice_flat hl hc hk]
   simp only [List.length_append,List.length_take,List.length_drop,hfl]
   omega
  ·simp only [List.size_toArray, List.length_append, List.length_take, List.length_drop, hcl]
   omega
  ·rw [splice_flat hl hc hk, ← ht]
   show List.take (n*s) (List.drop off (cur.toList.take (off+(i*s+k))++us++cur.toList.drop (off+(i*s+k)+us.length)))=_
   rw [splice_off cur.toList us off (i*s+k) (by omega)]
   have hdl:(cur.toList.drop off).length=cur.size - off:=by rw [List.length_drop,hcl]
   generalize cur.toList.drop off=dl at hdl
   simp only [List.take_append,List.length_append,List.length_take,hdl]
   rw [List.take_take,Nat.min_eq_right (by omega:i*s+k≤n*s),List.take_take,Nat.min_eq_left (by omega:i*s+k≤n*s),Nat.min_eq_left (by omega:i*s+k≤cur.size - off),List.take_of_length_le (by omega:us.length≤n*s - (i*s+k)),List.drop_take]
theorem Els.at1 {dp:Bool} {s:Sh} {vs:List (List Value)} {xs:List s.D} {Fs:List (List Nat)} (h:Els Z w dp s vs xs Fs) {i:Nat} (hi:i < xs.length):∃ c G,vs[i]?=some c∧El1 Z w dp s c xs[i] G∧(∀ b∈G,b∈Fs.flatten)∧(dp=true→Fs[i]?=some G):=by
 cases dp
 ·obtain ⟨c, h1, h2⟩ := h.1.at_ hi
  exact ⟨c,[],h1,⟨h2,rfl⟩,by simp,by simp⟩
 ·obtain ⟨c, G, h1, h2, h3⟩ := Ow2.at_ hi h
  exact ⟨c,G,h1,h3,fun b hb=>mem_flatten_of h2 hb,fun _=>h2⟩
theorem Els.set1 {dp:Bool} {s:Sh} {vs:List (List Value)} {xs:List s.D} {Fs:List (List Nat)} (h:Els Z w dp s vs xs Fs) {i:Nat} {c:List Value} {y:s.D} {G:List Nat} (hc:El1 Z w dp s c y G):Els Z w dp s (vs.set i c) (xs.set i y) (bif dp then Fs.set i G else []):=by
 cases dp
 ·exact ⟨h.1.set_ hc.1,rfl⟩
 ·exact Ow2.set_ h hc
theorem row_store (h:RelE w0 Z0 L N K σ a w E Z) {r:Nat} {dp:Bool} {s:Sh} {xs:List s.D} (hob:σ.obj r=some (.row dp s xs)) {g off l cap:Nat} (hh:E.hdr r=.slice (some ⟨g,off,none⟩) l cap) {i:Nat} (hi:i < xs.length) {k:Nat} {us:List Value} (hk:k+us.length≤s.size) :
  ∃ c Gi cur,El1 Z w dp s c xs[i] Gi∧w.heap[g]?=some (.cells cur s.ty (0,0))∧off+(i*s.size+k)+us.length≤cur.size ∧
   ∀ (y:s.D) (G:List Nat) (cons:List Nat) (d:Option Nat),((G=Gi∧cons=[])∨(G=cons.flatMap E.fp∧cons.Nodup))→(∀ m∈cons,∃ y,σ.obj m=some y)→r ∉ cons→(∀ d',d=some d'→d' < N) →
    El1 Z w dp s (c.take k++us++c.drop (k+us.length)) y G →
    ∃ E' Z',RelE w0 Z0 L N K (σ.app d ⟨.p (.c .un),(r,some (.row dp s (xs.set i y)))::gone cons⟩) (a.put d undef) (w.setRow g (cur.toList.take (off+(i*s.size+k))++us++cur.toList.drop (off+(i*s.size+k)+us.length)).toArray) E' Z':=by
 obtain ⟨vs,Fs,h1,h2,h3⟩:=h.obj r _ hob
 obtain ⟨c,Gi,hc,hel,hGi,hFi⟩:=h2.at1 hi
 have hlens:=h2.lens
 obtain ⟨cur,hg,hle,hown⟩:=own_splice h1 hh hlens.2 hlens.1 hc hk
 have hblk:Value.blk (E.hdr r)=[g]:=by rw [hh];rfl
 have hnd:=h.nodup r _ hob
 have hfr:=h.free r _ hob
 rw [h3,hblk] at hnd hfr
 have hnd':=List.nodup_append.1 hnd
 have hgF:g ∉ Fs.flatten:=fun hf=>hnd'.2.2 g (by simp) g hf rfl
 have hgfp:g∈E.fp r:=by rw [h3,hblk];simp
 have hgZ:¬ Z g:=(hfr g (by simp)).2.1
 have hFr:∀ b∈Fs.flatten,b∈E.fp r:=fun b hb=>by rw [h3];exact List.mem_append.2 (.inr hb)
 refine ⟨c,Gi,cur,hel,hg,hle,fun y G cons d hG hcons hrc hdst hel'=>?_⟩
 have hw1:∀ b,b≠g→(w.setRow g (cur.toList.take (off+(i*s.size+k))++us++cur.toList.drop (off+(i*s.size+k)+us.length)).toArray).heap[b]?=w.heap[b]?:=fun b hb=>setRow_other w g b _ hb
 generalize hW:w.setRow g (cur.toList.take (off+(i*s.size+k))++us++cur.toList.drop (off+(i*s.size+k)+us.length)).toArray=w1 at *
 have hsize:w1.heap.size=w.heap.size:=by rw [← hW];simp
 -- the blocks of the new element
 have hGsub:∀ b∈G,(b∈Fs.flatten∧cons=[])∨∃ m∈cons,b∈E.fp m:=fun b hb=>by
  rcases hG with ⟨rfl,e⟩ | ⟨rfl,_⟩
  ·exact .inl ⟨hGi b hb,e⟩
  ·obtain ⟨m,hm,hbm⟩:=List.mem_flatMap.1 hb;exact .inr ⟨m,hm,hbm⟩
 have hGcons:∀ m∈cons,∀ b∈E.fp m,b ∉ E.fp r:=fun m hm b hb hbr=>by
  obtain ⟨z,hz⟩:=hcons m hm
  exact h.apart m z r _ hz hob (fun e=>hrc (e ▸ hm)) b hb hbr
 have hGg:∀ b∈G,b≠g:=fun b hb e=>by
  subst e
  rcases hGsub b hb with ⟨h1,_⟩ | ⟨m,hm,hbm⟩
  ·exact hgF h1
  ·exact hGcons m hm b hbm hgfp
 have hel1:El1 Z w1 dp s (c.take k++us++c.drop (k+us.length)) y G:=hel'.keep (fun b hb=>hw1 b fun e=>hgZ (e ▸ hb)) fun b hb=>hw1 b (hGg b hb)
 have hels:Els Z w1 dp s vs xs Fs:=h2.keep (fun _ h=>h) (fun b hb=>hw1 b fun e=>hgZ (e ▸ hb)) fun b hb=>hw1 b fun e=>hgF (e ▸ hb)
 have hnew:=hels.set1 (i:=i) hel1
 -- its blocks all in all
 have hF2:∀ b∈(bif dp then Fs.set i G else []).flatten,b∈Fs.flatten∨b∈G:=fun b hb=>by
  cases dp
  ·simp at hb
  ·exact mem_flat_set hb
 have hnd2:((bif dp then Fs.set i G else []):List (List Nat)).flatten.Nodup:=by
  cases dp
  ·simp
  ·show (Fs.set i G).flatten.Nodup
   rcases hG with ⟨rfl,_⟩ | ⟨e,hn⟩
   ·have:Fs.set i G=Fs:=by
     apply List.ext_getElem?
     intro j
     by_cases hj:i=j
     ·subst hj
      have hFl:i < Fs.length:=by rw [(Ow2.len h2).2];exact hi
      rw [List.getElem?_set_self hFl];exact (hFi rfl).symm
     ·rw [List.getElem?_set_ne hj]
    rw [this];exact hnd'.2.1
   ·refine nodup_flat_set hnd'.2.1 (by rw [e]; exact fps_nodup h hn hcons) fun b hb hbF => ?_
    rw [e] at hb
    obtain ⟨m,hm,hbm⟩:=List.mem_flatMap.1 hb
    exact hGcons m hm b hbm (hFr b hbF)
 refine ⟨_,_,h.upd hob hcons hrc (w':=w1) (F:=[g]++(bif dp then Fs.set i G else []).flatten) (by rw [← hW];rfl) (by rw [← hW];rfl) (by rw [← hW];rfl) (by omega) (fun b hb hbr _=>hw1 b fun e=>hbr (e ▸ hgfp)) ?_ ?_ ?_ (by simp [Ob.ids]) hdst⟩
 ·exact ⟨_,_,by rw [List.length_set];exact hown,hnew,by rw [hblk]⟩
 ·refine List.nodup_append.2 ⟨by simp, hnd2, fun b hb b' hb' e => ?_⟩
  subst e
  have hbg:b=g:=by simpa using hb
  rcases hF2 b hb' with hb' | hb'
  ·exact hgF (hbg ▸ hb')
  ·exact hGg b hb' hbg
 ·intro b hb
  rcases List.mem_append.1 hb with hb | hb
  ·have hbg : b = g := by simpa using hb
   subst hbg
   exact ⟨by rw [hsize];exact (h.free r _ hob b hgfp).1,.inl hgfp⟩
  ·rcases hF2 b hb with hb | hb
   ·exact ⟨by rw [hsize];exact (h.free r _ hob b (hFr b hb)).1,.inl (hFr b hb)⟩
   ·rcases hGsub b hb with ⟨h1, _⟩ | ⟨m, hm, hbm⟩
    ·exact ⟨by rw [hsize];exact (h.free r _ hob b (hFr b h1)).1,.inl (hFr b h1)⟩
    ·obtain ⟨z, hz⟩ := hcons m hm
     exact ⟨by rw [hsize];exact (h.free m z hz b hbm).1,.inr ⟨m,hm,hbm⟩⟩
theorem dens_put {l cs:List CV} {vs us:List Value} {k:Nat} (h:dens E Z w l vs) (h':dens E Z w cs us):dens E Z w (put l k cs) (vs.take k++us++vs.drop (k+us.length)):=by
 unfold put
 rw [h'.len]
 exact ((h.take_ k).append_ h').append_ (h.drop_ _)
theorem put_ids {l cs:List CV} {k i:Nat} (h:i∈(put l k cs).flatMap CV.ids):i∈l.flatMap CV.ids∨i∈cs.flatMap CV.ids:=by
 unfold put at h
 rw [List.flatMap_append,List.flatMap_append] at h
 rcases List.mem_append.1 h with h | h
 ·rcases List.mem_append.1 h with h | h
  ·exact .inl (mem_take_ids h)
  ·exact .inr h
 ·exact .inl (mem_drop_ids h)
theorem op_lens {s:Sh} {xs:List s.D} {i:Nat} {vs:List (List Value)} {us:List Value} {Fs:List (List Nat)} (h2:i < xs.length∧vs.length=xs.length∧vs[i]?=some us∧us.length=s.size) (h4:Ow2 (s.ow w) (vs.eraseIdx i) (xs.eraseIdx i) Fs):∀ v∈vs,v.length=s.size:=fun v hv=>by
 obtain ⟨j,hj,rfl⟩:=List.getElem_of_mem hv
 by_cases e:j=i
 ·subst e
  have:=h2.2.2.1
  rw [List.getElem?_eq_getElem hj] at this
  cases this;exact h2.2.2.2
 ·exact (h4.rd (R:=s.rd w (fun _=>True)) (Z:=fun _=>True) (fun c x F ho _=>s.ow_rd ho fun _ _=>trivial) fun _ _=>trivial).lens (fun c x hh=>s.rd_len hh) _ (by
   refine List.mem_iff_getElem?.2 ?_
   rcases Nat.lt_or_gt_of_ne e with h' | h'
   ·exact ⟨j,by rw [List.getElem?_eraseIdx_of_lt h',List.getElem?_eq_getElem hj]⟩
   ·exact ⟨j - 1,by rw [List.getElem?_eraseIdx_of_ge (by omega),show j - 1+1=j by omega,List.getElem?_eq_getElem hj]⟩)
theorem storeM_ends (h:RelE w0 Z0 L N K σ a w E Z) {o:Oper} {md:Md} {t:TypeId} {x v:Operand} {e:Eff} (hop:o.op=.store t x v) (hdst:∀ d',o.dst=some d'→d' < N) (hr:(storeM P t x v).run σ=some e) (ho:AllP ((storeM P t x v).obl σ)):Ends P w0 Z0 L N (md.ids++K) σ a w o e:=by
 obtain ⟨c,hc,_,hr1,ho1⟩:=bind_split hr ho
 obtain ⟨cs,hcs,_,hr2,ho2⟩:=bind_split hr1 ho1
 obtain ⟨n,hn,_,hr3,ho3⟩:=bind_split hr2 ho2
 replace hn:=orFail_run hn
 obtain ⟨hb,hr4,ho4⟩:=bif_split hr3 ho3
 simp only [Bool.and_eq_true] at hb
 have hlen:=Nat.eq_of_beq_eq_true hb.1
 have hcd:=evalC_den h hc
 have hvd:=evalCells_den h hcs hb.2
 have hul:=hvd.1.len
 clear hr ho hr1 ho1 hr2 ho2 hr3 ho3
 intro Q
 cases c with
 | ptr ob k =>
  obtain ⟨b0,hob,hr5,_⟩:=obj_split hr4 ho4
  cases b0 with
  | row _ _ _=>cases hr5
  | pin _ _=>cases hr5
  | mp _ _=>cases hr5
  | op _ _ _ _=>cases hr5
  | bx t' l =>
   obtain ⟨hle,hr6⟩:=bif_some hr5
   have hle:=Nat.le_of_ble_eq_true hle
   have e1:=ret_some hr6;subst e1
   obtain ⟨b,hb1,hv⟩:=hcd.1
   obtain ⟨b',vs,hb',hF,hbx,hd⟩:=h.obj ob _ hob
   rw [hb1] at hb';cases hb'
   have hvl:=hd.len
   have hst:=store_at (P:=P) (val:=a.eval v) (o:=k) hn (by omega) hbx (by simp only [List.size_toArray];omega) hvd.2.1
   simp only at hst
   refine wp_of_skip (w':=w.setRow b (vs.take k++(a.eval v).cells.toList++vs.drop (k+(a.eval v).cells.toList.length)).toArray) (by simp [execOp,hop,hv,hst]) ?_
   have hZb:¬ Z b:=(h.free ob _ hob b (by rw [hF];simp)).2.1
   have:=h.upd hob (x':=.bx t' (put l k cs)) (cons:=[]) (by simp) (by simp) (w':=w.setRow b (vs.take k++(a.eval v).cells.toList++vs.drop (k+(a.eval v).cells.toList.length)).toArray) (F:=[b]) rfl rfl rfl (by simp)
    (fun b' hb' hbr _=>setRow_other w b b' _ fun e=>hbr (by rw [hF,e];simp))
    ⟨b, _, hb1, rfl, setRow_heap w b vs.toArray _ t' (0, 0) hbx, (dens_put hd hvd.1).keep (K := K) (fun i hi => by by_cases e : i = ob <;> simp [Env.set, e]) (fun _ h => h) (fun b' hb' => setRow_other w b b' _ fun e => hZb (e ▸ hb')) (fun i hi => by
     rcases put_ids hi with hi | hi
     ·exact (h.oids ob _ hob).2 i hi
     ·exact hvd.2.2 i hi)⟩ (by simp)
    (fun b' hb' => by have e : b' = b := by simpa using hb'
                      subst e
                      exact ⟨by simpa using (h.free ob _ hob b' (by rw [hF];simp)).1,.inl (by rw [hF];simp)⟩)
    (fun i hi => by
     rcases put_ids hi with hi | hi
     ·exact (h.oids ob _ hob).2 i hi
     ·exact hvd.2.2 i hi) (d:=o.dst) (v:=undef) hdst
   exact more_post this (fun i hi=>List.mem_append.2 (.inr hi))
 | pe r i k m =>
  obtain ⟨b0,hob,hr5,ho5⟩:=obj_split hr4 ho4
  cases b0 with
  | bx _ _=>cases hr5
  | pin _ _=>cases hr5
  | mp _ _=>cases hr5
  | op s xs j l =>
   obtain ⟨hm,hr6,ho6⟩:=bif_split hr5 ho5
   simp only [Bool.and_eq_true] at hm
   have hm1:=Nat.eq_of_beq_eq_true hm.1.1
   subst hm1
   have hle:=Nat.le_of_ble_eq_true hm.1.2
   have hll:=Nat.eq_of_beq_eq_true hm.2
   obtain ⟨hi,hr7,ho7⟩:=need_split hr6 ho6
   subst hi
   have e1:=ret_some hr7;subst e1
   obtain ⟨g,off,l',cap,hh,hv⟩:=hcd.1
   obtain ⟨vs,us,Fs,h1,h2,h3,h4,h5⟩:=h.obj r _ hob
   have hlens:=op_lens h2 h4
   obtain ⟨cur,hg,hle2,hown⟩:=own_splice h1 hh hlens h2.2.1 h2.2.2.1 (k:=k) (us:=(a.eval v).cells.toList) (by omega)
   have hst:=store_at (P:=P) (val:=a.eval v) (o:=off+(i*s.size+k)) hn (by omega) hg (by omega) hvd.2.1
   refine wp_of_skip (w':=w.setRow g (cur.toList.take (off+(i*s.size+k))++(a.eval v).cells.toList++cur.toList.drop (off+(i*s.size+k)+(a.eval v).cells.toList.length)).toArray) (by simp [execOp,hop,hv,hst]) ?_
   have hblk:Value.blk (E.hdr r)=[g]:=by rw [hh];rfl
   have hgr:g∈E.fp r:=by rw [h5,hblk];simp
   have hZg:¬ Z g:=(h.free r _ hob g hgr).2.1
   have hnd:=h.nodup r _ hob
   have hnd0:=hnd
   rw [h5,hblk] at hnd
   have hgF:g ∉ Fs.flatten:=fun hm=>(List.nodup_append.1 hnd).2.2 g (by simp) g hm rfl
   have this1:=h.upd hob (x':=.op s xs i (put l k cs)) (cons:=[]) (by simp) (by simp) (w':=w.setRow g (cur.toList.take (off+(i*s.size+k))++(a.eval v).cells.toList++cur.toList.drop (off+(i*s.size+k)+(a.eval v).cells.toList.length)).toArray) (F:=E.fp r) rfl rfl rfl (by simp)
    (fun b' hb' hbr _=>setRow_other w g b' _ fun e=>hbr (by rw [e];exact hgr))
    ⟨vs.set i (us.take k ++ (a.eval v).cells.toList ++ us.drop (k + (a.eval v).cells.toList.length)), us.take k ++ (a.eval v).cells.toList ++ us.drop (k + (a.eval v).cells.toList.length), Fs, hown, ⟨h2.1, by simp [h2.2.1], by rw [List.getElem?_set_self (by omega)], by simp only [List.length_append, List.length_take, List.length_drop, h2.2.2.2]; omega⟩,
     (dens_put h3 hvd.1).keep (K := K) (fun i hi => by by_cases e : i = r <;> simp [Env.set, e]) (fun _ h => h) (fun b' hb' => setRow_other w g b' _ fun e => hZg (e ▸ hb')) (fun i hi => by
      rcases put_ids hi with hi | hi
      ·exact (h.oids r _ hob).2 i hi
      ·exact hvd.2.2 i hi),by
      rw [List.eraseIdx_set_eq]
      exact h4.keep fun c x F hF' ho'=>s.ow_keep ho' fun b' hb'=>setRow_other w g b' _ fun e=>hgF (hF' g (e ▸ hb')),h5⟩ hnd0
    (fun b' hb'=>⟨by simpa using (h.free r _ hob b' hb').1,.inl hb'⟩)
    (fun i hi => by
     rcases put_ids hi with hi | hi
     ·exact (h.oids r _ hob).2 i hi
     ·exact hvd.2.2 i hi) (d:=o.dst) (v:=undef) hdst
   exact more_post this1 (fun i hi=>List.mem_append.2 (.inr hi))
  | row dp s xs =>
   obtain ⟨hm,hr6,ho6⟩:=bif_split hr5 ho5
   simp only [Bool.and_eq_true] at hm
   have hm1:=Nat.eq_of_beq_eq_true hm.1
   subst hm1
   have hle:=Nat.le_of_ble_eq_true hm.2
   obtain ⟨hi,hr7,ho7⟩:=need_split hr6 ho6
   obtain ⟨g,off,l',cap,hh,hv⟩:=hcd.1
   obtain ⟨c,Gi,cur,hel,hg,hle2,post⟩:=row_store h hob hh hi (k:=k) (us:=(a.eval v).cells.toList) (by omega)
   have hst:=store_at (P:=P) (val:=a.eval v) (o:=off+(i*s.size+k)) hn (by omega) hg (by omega) hvd.2.1
   refine wp_of_skip (w':=w.setRow g (cur.toList.take (off+(i*s.size+k))++(a.eval v).cells.toList++cur.toList.drop (off+(i*s.size+k)+(a.eval v).cells.toList.length)).toArray) (by simp [execOp,hop,hv,hst]) ?_
   cases hb2:n.beq s.size with
   | true =>
    rw [hb2,cond_true] at hr7 ho7
    have hns:=Nat.eq_of_beq_eq_true hb2
    obtain ⟨⟨y,ids⟩,hy,hyo,hr8,ho8⟩:=bind_split hr7 ho7
    obtain ⟨hnd,hr9⟩:=bif_some hr8
    have e1:=ret_some hr9;subst e1
    obtain ⟨k1,k2⟩:=takeC_el h hy hyo hvd.1
    have hnd':=nodupB_spec hnd
    rw [List.nodup_cons] at hnd'
    have hk0:k=0:=by omega
    subst hk0
    have hcl:=hel.len
    obtain ⟨E',Z',h'⟩:=post y (ids.flatMap E.fp) ids o.dst (.inr ⟨rfl,hnd'.2⟩) k2 hnd'.1 hdst (by
     rwa [show c.take 0++(a.eval v).cells.toList++c.drop (0+(a.eval v).cells.toList.length)=(a.eval v).cells.toList by rw [List.drop_of_length_le (by omega)];simp])
    exact more_post h' (fun i hi=>List.mem_append.2 (.inr hi))
   | false =>
    rw [hb2,cond_false] at hr7 ho7
    obtain ⟨y,hy,hyo,hr8,_⟩:=bind_split hr7 ho7
    have e1:=ret_some hr8;subst e1
    have hgd:xs.getD i s.z=xs[i]:=by simp [List.getD,hi]
    rw [hgd] at hy hyo
    by_cases hz:cs.length=0
    ·have : infoSize P t = some 0 := by rw [hn, ← hlen, hz]
     -- nothing is stored: the row is as it was
     have hcs0:cs=[]:=List.eq_nil_of_length_eq_zero hz
     have hempty:∀ (s:Sh) (x y:s.D) (k:Nat),(updC dp s x k []).run σ=some y→False:=by
      intro s
      induction s with
      | pair p q ihp ihq =>
       intro x y k hh
       unfold updC at hh
       cases hb3:Nat.ble (k+([]:List CV).length) p.size with
       | true=>rw [hb3,cond_true] at hh;obtain ⟨z,hz,_⟩:=RM.run_bind hh;exact ihp _ _ _ hz
       | false =>
        rw [hb3,cond_false] at hh
        obtain ⟨_,hh⟩:=bif_some hh
        obtain ⟨z,hz,_⟩:=RM.run_bind hh
        exact ihq _ _ _ hz
      | st t p ih=>intro x y k hh;unfold updC at hh;exact ih _ _ _ hh
      | sl t p ih=>intro x y k hh;unfold updC at hh;obtain ⟨_,hh⟩:=bif_some hh;cases hh
      | int t=>intro x y k hh;unfold updC at hh;obtain ⟨_,hh⟩:=bif_some hh;cases hh
      | bool t=>intro x y k hh;unfold updC at hh;obtain ⟨_,hh⟩:=bif_some hh;cases hh
      | u8 t=>intro x y k hh;unfold updC at hh;obtain ⟨_,hh⟩:=bif_some hh;cases hh
      | str t=>intro x y k hh;unfold updC at hh;obtain ⟨_,hh⟩:=bif_some hh;cases hh
      | fn0 f=>intro x y k hh;cases hh
      | fn f p _=>intro x y k hh;cases hh
      | pt p _=>intro x y k hh;cases hh
     rw [hcs0] at hy
     exact (hempty s _ _ _ hy).elim
    ·have k1 := updC_el h dp s hy hyo hvd.1 hel hz
     obtain ⟨E',Z',h'⟩:=post y Gi [] o.dst (.inl ⟨rfl,rfl⟩) (by simp) (by simp) hdst k1
     exact more_post h' (fun i hi=>List.mem_append.2 (.inr hi))
 | _=>cases hr4
end
end Go.Proofs.Ytmcpigcpachdkaa
