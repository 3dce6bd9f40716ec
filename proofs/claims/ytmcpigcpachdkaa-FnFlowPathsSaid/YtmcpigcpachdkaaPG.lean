/- Cells that read as data, cells that are taken over as data: what the walk reckons of them holds. No program is named; no condition. -/
import Derived.Test.YtmcpigcpachdkaaPF
namespace Go.Proofs.Ytmcpigcpachdkaa
open Go.RowKit
set_option linter.unusedVariables false
set_option linter.unusedSimpArgs false
section
variable {P:Program} {w0:World} {Z0:Nat→Prop} {L:List Nat} {N:Nat} {K:List Nat} {σ:St} {a:Act} {w:World} {E:Env} {Z:Nat→Prop}
theorem dens_one {c:CV} {vs:List Value} (h:dens E Z w [c] vs):∃ u,vs=[u]∧c.den E Z w u:=by
 match vs,h with
 | [u],h=>exact ⟨u,rfl,h.1⟩
theorem Els.rd {dp:Bool} {s:Sh} {vs:List (List Value)} {xs:List s.D} {Fs:List (List Nat)} {Zr:Nat→Prop} (h:Els Z w dp s vs xs Fs) (hZ:∀ b,Z b→Zr b) (hF:∀ b∈Fs.flatten,Zr b):Rd2 (s.rd w Zr) vs xs:=by
 cases dp
 ·exact h.1.imp fun c x hc=>s.rd_keep hc hZ fun _ _=>rfl
 ·exact Ow2.rd (Z:=Zr) (fun c x F ho hz=>s.ow_rd ho hz) h hF
theorem intC_some {cs:List CV} {n:Int} (h:(intC cs).run σ=some n):cs=[.v (.int .i64 n)]:=by
 unfold intC at h;split at h
 ·have:=ret_some h;subst this;rfl
 ·cases h
theorem boolC_some {cs:List CV} {n:Bool} (h:(boolC cs).run σ=some n):cs=[.v (.bool n)]:=by
 unfold boolC at h;split at h
 ·have:=ret_some h;subst this;rfl
 ·cases h
theorem strC_some {cs:List CV} {n:ByteArray} (h:(strC cs).run σ=some n):cs=[.v (.string n)]:=by
 unfold strC at h;split at h
 ·have:=ret_some h;subst this;rfl
 ·cases h
theorem u8C_some {cs:List CV} {n:Int} (h:(u8C cs).run σ=some n) (ho:AllP ((u8C cs).obl σ)):cs=[.v (.int .u8 n)]∧0≤n∧n < 256:=by
 unfold u8C at h ho;split at h
 ·simp only [RM.run,Option.some.injEq] at h;subst h;exact ⟨rfl,ho.1⟩
 ·cases h
theorem rdC_rdY (h:RelE w0 Z0 L N K σ a w E Z) {Zr:Nat→Prop} (hZ:∀ b,Z b→Zr b) (own:Bool) {Y:Nat→Prop} (hown:own=true→∀ o x,Y o→σ.obj o=some x→∀ b∈E.fp o,Zr b) :
  ∀ (s:Sh) {cs:List CV} {vs:List Value} {x:s.D},(rdC own s cs).run σ=some x→AllP ((rdC own s cs).obl σ)→dens E Z w cs vs→((∀ i∈cs.flatMap CV.ids,Y i)∧(s.data=true∨∀ i,Y i))→s.rd w Zr vs x
 | .int _, cs, vs, x, hr, ho, hd, _ => by
  have:=intC_some (σ:=σ) hr;subst this
  obtain ⟨u,rfl,hu⟩:=dens_one hd
  show _=_;rw [show u=_ from hu]
 | .bool _, cs, vs, x, hr, ho, hd, _ => by
  have:=boolC_some (σ:=σ) hr;subst this
  obtain ⟨u,rfl,hu⟩:=dens_one hd
  show _=_;rw [show u=_ from hu]
 | .u8 _, cs, vs, x, hr, ho, hd, _ => by
  obtain ⟨rfl,h1⟩:=u8C_some (σ:=σ) hr ho
  obtain ⟨u,rfl,hu⟩:=dens_one hd
  exact ⟨by rw [show u=_ from hu],h1⟩
 | .str _, cs, vs, x, hr, ho, hd, _ => by
  have:=strC_some (σ:=σ) hr;subst this
  obtain ⟨u,rfl,hu⟩:=dens_one hd
  show _=_;rw [show u=_ from hu]
 | .pair p q, cs, vs, x, hr, ho, hd, hY => by
  unfold rdC at hr ho
  obtain ⟨y,hy,hyo,hr1,ho1⟩:=bind_split hr ho
  obtain ⟨z,hz,hzo,hr2,_⟩:=bind_split hr1 ho1
  have e1:=ret_some hr2;subst e1
  have hY':(p.data=true∨∀ i,Y i)∧(q.data=true∨∀ i,Y i):=by
   rcases hY.2 with h' | h'
   ·simp only [Sh.data,Bool.and_eq_true] at h';exact ⟨.inl h'.1,.inl h'.2⟩
   ·exact ⟨.inr h',.inr h'⟩
  exact ⟨vs.take p.size,vs.drop p.size,(List.take_append_drop _ _).symm,rdC_rdY h hZ own hown p hy hyo (hd.take_ _) ⟨fun i hi=>hY.1 i (mem_take_ids hi),hY'.1⟩,rdC_rdY h hZ own hown q hz hzo (hd.drop_ _) ⟨fun i hi=>hY.1 i (mem_drop_ids hi),hY'.2⟩⟩
 | .st _ p,cs,vs,x,hr,ho,hd,hY=>rdC_rdY h hZ own hown p (by unfold rdC at hr;exact hr) (by unfold rdC at ho;exact ho) hd hY
 | .fn0 f, cs, vs, x, hr, ho, hd, hY => by
  unfold rdC at hr
  split at hr
  ·rename_i f'
   obtain ⟨hb,_⟩:=bif_some hr
   simp only [Bool.and_eq_true,Bool.not_eq_true'] at hb
   have hb1:=Nat.eq_of_beq_eq_true hb.1
   subst hb1
   obtain ⟨u,rfl,hu⟩:=dens_one hd
   obtain ⟨ps,rfl,hps⟩:=hu
   rw [show ps=[] from hps]
   show _=[kV f']
   unfold kV;rw [hb.2,cond_false]
  ·obtain ⟨hb, _⟩ := bif_some hr
   obtain ⟨u,rfl,hu⟩:=dens_one hd
   rw [show u=_ from hu]
   show _=[kV f]
   unfold kV;rw [hb,cond_true]
  ·cases hr
 | .fn f p, cs, vs, x, hr, ho, hd, hY => by
  unfold rdC at hr ho
  split at hr
  ·rename_i f' c
   obtain ⟨hb,hr1,ho1⟩:=bif_split hr ho
   simp only [Bool.and_eq_true] at hb
   have hb1:=Nat.eq_of_beq_eq_true hb.1
   subst hb1
   obtain ⟨u,rfl,hu⟩:=dens_one hd
   obtain ⟨ps,rfl,hps⟩:=hu
   have hall:∀ i,Y i:=by rcases hY.2 with h' | h';cases h';exact h'
   exact ⟨ps,rfl,rdC_rdY h hZ own hown p hr1 ho1 (denL_list hps).2 ⟨fun i _=>hall i,.inr hall⟩⟩
  ·cases hr
 | .pt p, cs, vs, x, hr, ho, hd, hY => by
  have hall:∀ i,Y i:=by rcases hY.2 with h' | h';cases h';exact h'
  unfold rdC at hr ho
  split at hr
  ·rename_i s' y k
   obtain ⟨hk,hr1⟩:=bif_some hr
   have hk:=Nat.eq_of_beq_eq_true hk
   subst hk
   obtain ⟨hb,hr2⟩:=dif_some hr1
   have e1:=ret_some hr2
   obtain ⟨u,rfl,hu⟩:=dens_one hd
   have hpp:=Sh.eq_of_beq hb
   subst hpp
   simp only [castD] at e1;subst e1
   obtain ⟨b,off,ds,rfl,h1,h2,h3⟩:=hu
   exact ⟨b,off,ds,rfl,hZ b h1,s'.rd_keep h2 hZ fun _ _=>rfl,h3⟩
  ·rename_i o k
   obtain ⟨hk,hr1,ho1⟩:=bif_split hr ho
   simp only [Bool.and_eq_true] at hk
   have hk2:=Nat.eq_of_beq_eq_true hk.2
   subst hk2
   obtain ⟨ob,hob,hr2,ho2⟩:=obj_split hr1 ho1
   cases ob with
   | row _ _ _=>cases hr2
   | pin _ _=>cases hr2
   | mp _ _=>cases hr2
   | op _ _ _ _=>cases hr2
   | bx t' ds =>
    obtain ⟨hl,hr3,ho3⟩:=bif_split hr2 ho2
    obtain ⟨u,rfl,hu⟩:=dens_one hd
    obtain ⟨b,hb,rfl⟩:=hu
    obtain ⟨b',us,hb',hF,hbx,hds⟩:=h.obj o _ hob
    rw [hb] at hb';cases hb'
    have hf:=hown hk.1 o _ (hall o) hob b (by rw [hF];simp)
    refine ⟨b,0,us,rfl,hf,rdC_rdY h hZ own hown p hr3 ho3 hds ⟨fun i _=>hall i,.inr hall⟩,fun j u hu=>?_⟩
    rw [Nat.zero_add,cell_of_row w b j us.toArray t' (0,0) hbx]
    simpa using hu
  ·cases hr
 | .sl t p, cs, vs, x, hr, ho, hd, hY => by
  replace hr:(slC own p cs).run σ=some x:=hr
  replace ho:AllP ((slC own p cs).obl σ):=ho
  unfold slC at hr ho
  split at hr
  ·rename_i p' ys
   obtain ⟨hb,hr1⟩:=dif_some hr
   have e1:=ret_some hr1
   obtain ⟨u,rfl,hu⟩:=dens_one hd
   have hpp:=Sh.eq_of_beq hb
   subst hpp
   simp only [castL] at e1;subst e1
   exact (Sh.sl t p').rd_keep hu hZ fun _ _=>rfl
  ·have e1 := ret_some hr; subst e1
   obtain ⟨u,rfl,hu⟩:=dens_one hd
   refine ⟨none,0,[],by rw [show u=_ from hu];rfl,Nat.le_refl _,by simp [maxLen],trivial,fun hh=>absurd hh (by simp)⟩
  ·rename_i r
   cases own with
   | false=>cases hr
   | true =>
    simp only [cond_true] at hr ho
    obtain ⟨ob,hob,hr1,_⟩:=obj_split hr ho
    cases ob with
    | bx _ _=>cases hr1
    | pin _ _=>cases hr1
    | mp _ _=>cases hr1
    | op _ _ _ _=>cases hr1
    | row dp p' ys =>
     obtain ⟨hb,hr2⟩:=dif_some hr1
     have e1:=ret_some hr2
     obtain ⟨u,rfl,hu⟩:=dens_one hd
     have hpp:=Sh.eq_of_beq hb
     subst hpp
     simp only [castL] at e1;subst e1
     obtain ⟨us,Fs,h1,h2,h3⟩:=h.obj r _ hob
     have hf:=hown rfl r _ (hY.1 r (by simp [CV.ids])) hob
     rw [h3] at hf
     rw [show u=_ from hu]
     exact rd_of_row (t:=t) h1 (h2.rd hZ fun b hb=>hf b (List.mem_append.2 (.inr hb))) fun b hb=>hf b (List.mem_append.2 (.inl hb))
  ·cases hr
theorem rdC_rd (h:RelE w0 Z0 L N K σ a w E Z) {Zr:Nat→Prop} (hZ:∀ b,Z b→Zr b) (own:Bool) (hown:own=true→∀ o x,σ.obj o=some x→∀ b∈E.fp o,Zr b)
  (s:Sh) {cs:List CV} {vs:List Value} {x:s.D} (hr:(rdC own s cs).run σ=some x) (ho:AllP ((rdC own s cs).obl σ)) (hd:dens E Z w cs vs):s.rd w Zr vs x :=
 rdC_rdY h hZ own (Y:=fun _=>True) (fun e o x _ hx=>hown e o x hx) s hr ho hd ⟨fun _ _=>trivial,.inr fun _=>trivial⟩
theorem Els.own {s:Sh} (hp:s.plain=true) {dp:Bool} {vs:List (List Value)} {xs:List s.D} {Fs:List (List Nat)} (h:Els Z w dp s vs xs Fs):∃ Gs,Ow2 (s.ow w) vs xs Gs∧Gs.flatten=[]∧Fs.flatten=[]:=by
 cases dp
 ·obtain ⟨h1, h2⟩ := h
  have key:∀ {vs:List (List Value)} {xs:List s.D},Rd2 (s.rd w Z) vs xs→∃ Gs,Ow2 (s.ow w) vs xs Gs∧Gs.flatten=[]:=by
   intro vs
   induction vs with
   | nil=>intro xs h;match xs,h with | [],_=>exact ⟨[],trivial,rfl⟩
   | cons v vs ih =>
    intro xs h
    match xs,h with
    | x :: xs, h =>
     obtain ⟨Gs,h3,h4⟩:=ih h.2
     exact ⟨[]::Gs,⟨s.plain_ow hp h.1,h3⟩,by simpa using h4⟩
  obtain ⟨Gs,h3,h4⟩:=key h1
  exact ⟨Gs,h3,h4,by rw [h2];rfl⟩
 ·have:Fs.flatten=[]:=by
   rw [List.eq_nil_iff_forall_not_mem]
   exact Ow2.all (p:=fun _=>False) (fun c x F ho b hb=>by rw [s.plain_F hp ho] at hb;simp at hb) h
  exact ⟨Fs,h,this,this⟩
theorem owC_ow (h:RelE w0 Z0 L N K σ a w E Z):∀ (s:Sh) {cs:List CV} {vs:List Value} {x:s.D} {ids:List Nat},(owC s cs).run σ=some (x,ids)→AllP ((owC s cs).obl σ)→dens E Z w cs vs →
   s.ow w vs x (ids.flatMap E.fp)∧∀ m∈ids,∃ y,σ.obj m=some y
 | .int _, cs, vs, x, ids, hr, ho, hd => by
  obtain ⟨n,hn,hno,hr1,_⟩:=bind_split (m:=intC cs) hr ho
  have e1:=ret_some hr1;cases e1
  have:=intC_some hn;subst this
  obtain ⟨u,rfl,hu⟩:=dens_one hd
  exact ⟨⟨by rw [show u=_ from hu],rfl⟩,by simp⟩
 | .bool _, cs, vs, x, ids, hr, ho, hd => by
  obtain ⟨n,hn,hno,hr1,_⟩:=bind_split (m:=boolC cs) hr ho
  have e1:=ret_some hr1;cases e1
  have:=boolC_some hn;subst this
  obtain ⟨u,rfl,hu⟩:=dens_one hd
  exact ⟨⟨by rw [show u=_ from hu],rfl⟩,by simp⟩
 | .u8 _, cs, vs, x, ids, hr, ho, hd => by
  obtain ⟨n,hn,hno,hr1,_⟩:=bind_split (m:=u8C cs) hr ho
  have e1:=ret_some hr1;cases e1
  obtain ⟨rfl,h1⟩:=u8C_some hn hno
  obtain ⟨u,rfl,hu⟩:=dens_one hd
  exact ⟨⟨by rw [show u=_ from hu],h1,rfl⟩,by simp⟩
 | .str _, cs, vs, x, ids, hr, ho, hd => by
  obtain ⟨n,hn,hno,hr1,_⟩:=bind_split (m:=strC cs) hr ho
  have e1:=ret_some hr1;cases e1
  have:=strC_some hn;subst this
  obtain ⟨u,rfl,hu⟩:=dens_one hd
  exact ⟨⟨by rw [show u=_ from hu],rfl⟩,by simp⟩
 | .pair p q, cs, vs, x, ids, hr, ho, hd => by
  unfold owC at hr ho
  obtain ⟨⟨y,i1⟩,hy,hyo,hr1,ho1⟩:=bind_split hr ho
  obtain ⟨⟨z,i2⟩,hz,hzo,hr2,_⟩:=bind_split hr1 ho1
  have e1:=ret_some hr2;cases e1
  have k1:=owC_ow h p hy hyo (hd.take_ _)
  have k2:=owC_ow h q hz hzo (hd.drop_ _)
  refine ⟨⟨vs.take p.size,vs.drop p.size,_,_,(List.take_append_drop _ _).symm,by rw [List.flatMap_append],k1.1,k2.1⟩,fun m hm=>?_⟩
  rcases List.mem_append.1 hm with hm | hm
  ·exact k1.2 m hm
  ·exact k2.2 m hm
 | .st _ p,cs,vs,x,ids,hr,ho,hd=>owC_ow h p (by unfold owC at hr;exact hr) (by unfold owC at ho;exact ho) hd
 | .sl t p, cs, vs, x, ids, hr, ho, hd => by
  replace hr:(slO p cs).run σ=some (x,ids):=hr
  replace ho:AllP ((slO p cs).obl σ):=ho
  unfold slO at hr ho
  split at hr
  ·cases hr
   obtain ⟨u,rfl,hu⟩:=dens_one hd
   refine ⟨⟨u,[],[],rfl,by rw [show u=_ from hu];exact ownsRw_nil,trivial,by rw [show u=_ from hu];rfl⟩,by simp⟩
  ·rename_i r
   obtain ⟨ob,hob,hr1,_⟩:=obj_split hr ho
   cases ob with
   | bx _ _=>cases hr1
   | pin _ _=>cases hr1
   | mp _ _=>cases hr1
   | op _ _ _ _=>cases hr1
   | row dp p' ys =>
    obtain ⟨hb,hr2⟩:=dif_some hr1
    obtain ⟨hdp,hr3⟩:=bif_some hr2
    have e1:=ret_some hr3
    obtain ⟨u,rfl,hu⟩:=dens_one hd
    have hpp:=Sh.eq_of_beq hb
    subst hpp
    simp only [castL] at e1;cases e1
    obtain ⟨us,Fs,h1,h2,h3⟩:=h.obj r _ hob
    refine ⟨?_,by simp [hob]⟩
    rw [List.flatMap_singleton,h3,show u=_ from hu]
    cases dp with
    | true=>exact ⟨_,us,Fs,rfl,h1,h2,rfl⟩
    | false =>
     obtain ⟨Gs,h4,h5,h6⟩:=h2.own (by simpa using hdp)
     exact ⟨_,us,Gs,rfl,h1,h4,by rw [h5,h6]⟩
  ·cases hr
theorem nodupB_spec {l:List Nat} (h:nodupB l=true):l.Nodup:=by
 induction l with
 | nil=>simp
 | cons i l ih =>
  simp only [nodupB,Bool.and_eq_true,List.all_eq_true] at h
  rw [List.nodup_cons]
  refine ⟨fun hi=>?_,ih h.2⟩
  have:=h.1 i hi
  rw [Nat.beq_refl] at this
  cases this
theorem fps_nodup (h:RelE w0 Z0 L N K σ a w E Z) {l:List Nat} (hn:l.Nodup) (hl:∀ m∈l,∃ y,σ.obj m=some y):(l.flatMap E.fp).Nodup:=by
 induction l with
 | nil=>simp
 | cons i l ih =>
  rw [List.nodup_cons] at hn
  rw [List.flatMap_cons,List.nodup_append]
  obtain ⟨y,hy⟩:=hl i (by simp)
  refine ⟨h.nodup i y hy,ih hn.2 fun m hm=>hl m (by simp [hm]),fun b hb c hc e=>?_⟩
  subst e
  obtain ⟨m,hm,hbm⟩:=List.mem_flatMap.1 hc
  obtain ⟨z,hz⟩:=hl m (by simp [hm])
  exact h.apart i y m z hy hz (fun e=>hn.1 (e ▸ hm)) b hb hbm
def El1 (Z:Nat→Prop) (w:World) (dp:Bool) (s:Sh) (c:List Value) (x:s.D) (F:List Nat):Prop:=if dp then s.ow w c x F else s.rd w Z c x∧F=[]
theorem takeC_el (h:RelE w0 Z0 L N K σ a w E Z) {dp:Bool} {s:Sh} {cs:List CV} {vs:List Value} {x:s.D} {ids:List Nat} (hr:(takeC dp s cs).run σ=some (x,ids)) (ho:AllP ((takeC dp s cs).obl σ)) (hd:dens E Z w cs vs) :
  El1 Z w dp s vs x (ids.flatMap E.fp)∧∀ m∈ids,∃ y,σ.obj m=some y:=by
 cases dp with
 | true=>exact owC_ow h s hr ho hd
 | false =>
  obtain ⟨y,hy,hyo,hr1,_⟩:=bind_split (m:=rdC false s cs) hr ho
  have e1:=ret_some hr1;cases e1
  exact ⟨⟨rdC_rd h (fun _ h=>h) false (by simp) s hy hyo hd,rfl⟩,by simp⟩
theorem El1.len {dp:Bool} {s:Sh} {c:List Value} {x:s.D} {F:List Nat} (h:El1 Z w dp s c x F):c.length=s.size:=by
 cases dp
 ·exact s.rd_len h.1
 ·exact s.ow_len h
theorem El1.one {dp:Bool} {s:Sh} {c:List Value} {x:s.D} {F:List Nat} (h:El1 Z w dp s c x F):∀ u∈c,u.oneCell'=true:=by
 cases dp
 ·exact s.rd_one h.1
 ·exact s.ow_one h
theorem El1.keep {w':World} {dp:Bool} {s:Sh} {c:List Value} {x:s.D} {F:List Nat} (h:El1 Z w dp s c x F) (hw:∀ b,Z b→w'.heap[b]?=w.heap[b]?) (hF:∀ b∈F,w'.heap[b]?=w.heap[b]?):El1 Z w' dp s c x F:=by
 cases dp
 ·exact ⟨s.rd_keep h.1 (fun _ h=>h) fun p hp=>cell_keep (hw _ hp),h.2⟩
 ·exact s.ow_keep h hF
theorem updC_el (h:RelE w0 Z0 L N K σ a w E Z) (dp:Bool):∀ (s:Sh) {x y:s.D} {k:Nat} {cs:List CV} {c us:List Value} {F:List Nat},(updC dp s x k cs).run σ=some y→AllP ((updC dp s x k cs).obl σ)→dens E Z w cs us→El1 Z w dp s c x F→cs.length≠0 →
   El1 Z w dp s (c.take k++us++c.drop (k+us.length)) y F
 | .pair p q, x, y, k, cs, c, us, F, hr, ho, hd, hc, hne => by
  have hul:=hd.len
  -- the two halves
  have split:∃ c1 c2 F1 F2,c=c1++c2∧F=F1++F2∧El1 Z w dp p c1 x.1 F1∧El1 Z w dp q c2 x.2 F2:=by
   cases dp
   ·obtain ⟨⟨c1,c2,e,h1,h2⟩,rfl⟩:=hc;exact ⟨c1,c2,[],[],e,rfl,⟨h1,rfl⟩,⟨h2,rfl⟩⟩
   ·obtain ⟨c1,c2,G,H,e1,e2,h1,h2⟩:=hc;exact ⟨c1,c2,G,H,e1,e2,h1,h2⟩
  have join:∀ {c1 c2:List Value} {F1 F2:List Nat} {y1:p.D} {y2:q.D},El1 Z w dp p c1 y1 F1→El1 Z w dp q c2 y2 F2→El1 Z w dp (.pair p q) (c1++c2) (y1,y2) (F1++F2):=by
   intro c1 c2 F1 F2 y1 y2 h1 h2
   cases dp
   ·exact ⟨⟨c1,c2,rfl,h1.1,h2.1⟩,by rw [h1.2,h2.2];rfl⟩
   ·exact ⟨c1,c2,F1,F2,rfl,rfl,h1,h2⟩
  obtain ⟨c1,c2,F1,F2,rfl,rfl,h1,h2⟩:=split
  have hl1:=h1.len
  unfold updC at hr ho
  cases hb:Nat.ble (k+cs.length) p.size with
  | true =>
   rw [hb,cond_true] at hr ho
   have hle:=Nat.le_of_ble_eq_true hb
   obtain ⟨y1,hy,hyo,hr1,_⟩:=bind_split hr ho
   have e1:=ret_some hr1;subst e1
   have k1:=updC_el h dp p hy hyo hd h1 hne
   have:=join k1 h2
   rwa [show c1.take k++us++c1.drop (k+us.length)++c2=(c1++c2).take k++us++(c1++c2).drop (k+us.length) by
    rw [List.take_append_of_le_length (by omega),List.drop_append_of_le_length (by omega)];simp [List.append_assoc]] at this
  | false =>
   rw [hb,cond_false] at hr ho
   obtain ⟨hb2,hr0,ho0⟩:=bif_split hr ho
   have hle:=Nat.le_of_ble_eq_true hb2
   obtain ⟨y1,hy,hyo,hr1,_⟩:=bind_split hr0 ho0
   have e1:=ret_some hr1;subst e1
   have k1:=updC_el h dp q hy hyo hd h2 hne
   have:=join h1 k1
   obtain ⟨m,rfl⟩:∃ m,k=c1.length+m:=⟨k - c1.length,by omega⟩
   rw [← hl1,Nat.add_sub_cancel_left] at this
   rwa [show c1++(c2.take m++us++c2.drop (m+us.length))=(c1++c2).take (c1.length+m)++us++(c1++c2).drop (c1.length+m+us.length) by
    rw [List.take_length_add_append,Nat.add_assoc,List.drop_length_add_append];simp [List.append_assoc]] at this
 | .st _ p, x, y, k, cs, c, us, F, hr, ho, hd, hc, hne => by
  have hc':El1 Z w dp p c x F:=by cases dp<;>exact hc
  have:=updC_el h dp p (x:=x) (y:=y) (by unfold updC at hr;exact hr) (by unfold updC at ho;exact ho) hd hc' hne
  cases dp<;>exact this
 | .sl t p, x, y, k, cs, c, us, F, hr, ho, hd, hc, hne => by
  unfold updC at hr ho
  obtain ⟨hb,hr1,ho1⟩:=bif_split hr ho
  simp only [Bool.and_eq_true,Bool.not_eq_true'] at hb
  obtain ⟨rfl,hk⟩:=hb
  have hk:=Nat.eq_of_beq_eq_true hk
  subst hk
  have k1:=rdC_rd h (fun _ h=>h) false (by simp) (.sl t p) hr1 ho1 hd
  have hl:=(Sh.sl t p).rd_len k1
  have hl':=hc.len
  refine ⟨?_,hc.2⟩
  rwa [show c.take 0++us++c.drop (0+us.length)=us by rw [List.drop_of_length_le (by rw [hl',hl];omega)];simp]
 | .int t, x, y, k, cs, c, us, F, hr, ho, hd, hc, hne => by
  unfold updC at hr ho
  obtain ⟨hk,hr1,ho1⟩:=bif_split hr ho
  have hk:=Nat.eq_of_beq_eq_true hk
  subst hk
  have k1:=rdC_rd h (fun _ h=>h) false (by simp) (.int t) hr1 ho1 hd
  have hl:=(Sh.int t).rd_len k1
  have hl':=hc.len
  rw [show c.take 0++us++c.drop (0+us.length)=us by rw [List.drop_of_length_le (by rw [hl',hl];omega)];simp]
  cases dp
  ·exact ⟨k1,hc.2⟩
  ·rw [(Sh.int t).plain_F (w:=w) rfl hc];exact (Sh.int t).plain_ow (w':=w) rfl k1
 | .bool t, x, y, k, cs, c, us, F, hr, ho, hd, hc, hne => by
  unfold updC at hr ho
  obtain ⟨hk,hr1,ho1⟩:=bif_split hr ho
  have hk:=Nat.eq_of_beq_eq_true hk
  subst hk
  have k1:=rdC_rd h (fun _ h=>h) false (by simp) (.bool t) hr1 ho1 hd
  have hl:=(Sh.bool t).rd_len k1
  have hl':=hc.len
  rw [show c.take 0++us++c.drop (0+us.length)=us by rw [List.drop_of_length_le (by rw [hl',hl];omega)];simp]
  cases dp
  ·exact ⟨k1,hc.2⟩
  ·rw [(Sh.bool t).plain_F (w:=w) rfl hc];exact (Sh.bool t).plain_ow (w':=w) rfl k1
 | .u8 t, x, y, k, cs, c, us, F, hr, ho, hd, hc, hne => by
  unfold updC at hr ho
  obtain ⟨hk,hr1,ho1⟩:=bif_split hr ho
  have hk:=Nat.eq_of_beq_eq_true hk
  subst hk
  have k1:=rdC_rd h (fun _ h=>h) false (by simp) (.u8 t) hr1 ho1 hd
  have hl:=(Sh.u8 t).rd_len k1
  have hl':=hc.len
  rw [show c.take 0++us++c.drop (0+us.length)=us by rw [List.drop_of_length_le (by rw [hl',hl];omega)];simp]
  cases dp
  ·exact ⟨k1,hc.2⟩
  ·rw [(Sh.u8 t).plain_F (w:=w) rfl hc];exact (Sh.u8 t).plain_ow (w':=w) rfl k1
 | .str t, x, y, k, cs, c, us, F, hr, ho, hd, hc, hne => by
  unfold updC at hr ho
  obtain ⟨hk,hr1,ho1⟩:=bif_split hr ho
  have hk:=Nat.eq_of_beq_eq_true hk
  subst hk
  have k1:=rdC_rd h (fun _ h=>h) false (by simp) (.str t) hr1 ho1 hd
  have hl:=(Sh.str t).rd_len k1
  have hl':=hc.len
  rw [show c.take 0++us++c.drop (0+us.length)=us by rw [List.drop_of_length_le (by rw [hl',hl];omega)];simp]
  cases dp
  ·exact ⟨k1,hc.2⟩
  ·rw [(Sh.str t).plain_F (w:=w) rfl hc];exact (Sh.str t).plain_ow (w':=w) rfl k1
end
end Go.Proofs.Ytmcpigcpachdkaa
