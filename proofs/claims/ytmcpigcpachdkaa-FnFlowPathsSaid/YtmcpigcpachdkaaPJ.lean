/- append and cuts of slices: what is known afterwards holds. No program is named; no condition. -/
import Derived.Test.YtmcpigcpachdkaaPI
import Derived.Lib.AppendZeros
import Derived.ArgAppend
namespace Go.Proofs.Ytmcpigcpachdkaa
open Go.RowKit
set_option linter.unusedVariables false
set_option linter.unusedSimpArgs false
section
variable {P:Program} {w0:World} {Z0:Nat→Prop} {L:List Nat} {N:Nat} {K:List Nat} {σ:St} {a:Act} {w:World} {E:Env} {Z:Nat→Prop}
theorem Els.append_ {dp:Bool} {s:Sh} {vs us:List (List Value)} {xs ys:List s.D} {Fs Gs:List (List Nat)} (h:Els Z w dp s vs xs Fs) (k:Els Z w dp s us ys Gs):Els Z w dp s (vs++us) (xs++ys) (Fs++Gs):=by
 cases dp
 ·exact ⟨h.1.append k.1,by rw [h.2,k.2];rfl⟩
 ·exact Ow2.append h k
theorem Els.one {dp:Bool} {s:Sh} {vs:List (List Value)} {xs:List s.D} {Fs:List (List Nat)} (h:Els Z w dp s vs xs Fs):∀ u∈vs.flatten,u.oneCell'=true :=
 (h.rd (Zr:=fun _=>True) (fun _ _=>trivial) (fun _ _=>trivial)).one fun c x hc=>s.rd_one hc
def Src (w:World) (u:Value) (n:Nat) (fl:List Value):Prop:=∃ A c,u=.slice A n c∧(0 < n→∃ b off,A=some ⟨b,off,none⟩∧∀ j v,fl[j]?=some v→w.cell? ⟨b,off+j,none⟩=some v)
theorem Src.row {e:TypeId} {k:Nat} {h:Value} {n:Nat} {fl:List Value} (ho:ownsRw w 0 e k h n fl):Src w h n fl:=by
 obtain ⟨A,c,hv,_,_,hA⟩:=row_form ho
 refine ⟨A,c,hv,fun hn=>?_⟩
 obtain ⟨g,off,rfl⟩:=hA hn
 exact ⟨g,off,rfl,fun j v hj=>row_cell ho hv hj⟩
theorem run_append_room_off (t ty e:TypeId) (i:TypeInfo) (ht:P.underlying t=some (.slice e)) (hi:P.info? e=some i) (g off n cap:Nat) (cur:Array Value) (hg:w.heap[g]?=some (.cells cur e (0,0)))
  (a:Addr) (m c:Nat) (fl:List Value) (hl:fl.length=m*i.size) (hnews:∀ j u,fl[j]?=some u→w.cell? (a.add j)=some u) (h1:∀ u∈fl,u.oneCell'=true) (hroom:n+m≤cap) (hfit:off+n*i.size+fl.length≤cur.size) :
  (Builtin.append_ #[t,t] ty #[.slice (some ⟨g,off,none⟩) n cap,.slice (some a) m c]).run P w=.ok (.slice (some ⟨g,off,none⟩) (n+m) cap) (w.setRow g (cur.toList.take (off+n*i.size)++fl++cur.toList.drop (off+n*i.size+fl.length)).toArray):=by
 have hst:=run_storeCells_at P g (off+n*i.size) e fl 0 cur w hg (by simpa using hfit) h1
 simp only [Nat.add_zero] at hst
 simp [Builtin.append_,run_underlying ht,sizeOf,typeInfo,hi,Builtin.lenOf,hroom,run_firstCells_some (P:=P) w i.size m a m c fl hl hnews,Addr.add_lit,hst]
theorem run_append_src {t e:TypeId} {zs:List Value} {bytes:Nat} (EL:Elem P t e zs bytes) {v u:Value} {n m:Nat} {xs fl:List Value} (hown:ownsRw w 0 e zs.length v n xs) (hs:Src w u m fl) (hl:fl.length=m*zs.length) (h1:∀ x∈fl,x.oneCell'=true)
  (hn : (n + m) * bytes ≤ 140737488355328) (ty : TypeId) : ∃ v' w', (Builtin.append_ #[t, t] ty #[v, u]).run P w = .ok v' w' ∧ ownsRw w' 0 e zs.length v' (n + m) (xs ++ fl) ∧
   w'.os=w.os∧w'.tape=w.tape∧w'.output=w.output∧w.heap.size≤w'.heap.size∧(∀ b,b < w.heap.size→b ∉ Value.blk v→w'.heap[b]?=w.heap[b]?)∧∀ b∈Value.blk v',b∈Value.blk v∨w.heap.size≤b:=by
 obtain ⟨i,z,h2,h3,h4,h5,h6⟩:=EL.info
 obtain ⟨A,c,rfl,hA⟩:=hs
 by_cases h0:m=0
 ·subst h0
  have hf:fl=[]:=List.eq_nil_of_length_eq_zero (by simpa using hl)
  subst hf
  have hrun:(Builtin.append_ #[t,t] ty #[v,.slice A 0 c]).run P w=.ok v w:=by
   rcases hown.2 with ⟨rfl,rfl⟩ | ⟨g,off',cap,cur,rfl,_,_,hnc,_⟩
   ·rcases A with _ | ad
    ·simp [Builtin.append_,run_underlying EL.under,sizeOf,typeInfo,h2,Builtin.lenOf,Builtin.firstCells]
    ·simp [Builtin.append_,run_underlying EL.under,sizeOf,typeInfo,h2,Builtin.lenOf,Builtin.firstCells,loadCells,loadCellsFrom]
   ·rcases A with _ | ad
    ·simp [Builtin.append_,run_underlying EL.under,sizeOf,typeInfo,h2,Builtin.lenOf,Builtin.firstCells,hnc,storeCells]
    ·simp [Builtin.append_,run_underlying EL.under,sizeOf,typeInfo,h2,Builtin.lenOf,Builtin.firstCells,hnc,storeCells,loadCells,loadCellsFrom]
  exact ⟨v,w,hrun,by simpa using hown,rfl,rfl,rfl,Nat.le_refl _,fun _ _ _=>rfl,fun b hb=>.inl hb⟩
 ·obtain ⟨b, off, rfl, hc⟩ := hA (by omega)
  have hle:n+m≤(n+m)*bytes:=Nat.le_mul_of_pos_right _ EL.pos'
  have hsmall:n+m≤9223372036854775807:=by omega
  have hnews:∀ j u,fl[j]?=some u→w.cell? ((⟨b,off,none⟩:Addr).add j)=some u:=fun j u hu=>by rw [addr_add];exact hc j u hu
  have hlen:(xs++fl).length=(n+m)*zs.length:=by rw [List.length_append,hown.1,hl,Nat.add_mul]
  have hml:n+m≤maxLen:=by simp only [maxLen];omega
  rcases hown.2 with ⟨rfl,rfl⟩ | ⟨g,o',cap,cur,rfl,_,hg,hnc,hcm,hcs,ht⟩
  ·have hx : xs = [] := List.eq_nil_of_length_eq_zero (by simpa using hown.1)
   subst hx
   obtain ⟨v',w',hrun,k2,k3,_,k5⟩:=run_append_own_at (P:=P) (w:=w) 0 t ty e i z zs.length bytes EL.under h2 h3 h4 h5 (by rw [h6];simp) EL.pos (.slice none 0 0) 0 [] (World.ownsRow_nil _ _ _ _) ⟨b,off,none⟩ m c fl hl hnews h1 hml hn (Nat.zero_le _)
   refine ⟨v',w',hrun,.of k2,k3.os,k3.tape,k3.output,k3.size,fun b hb hF=>k3.block b hb fun e=>hF (by simp [Value.blk,← e]),fun b hb=>?_⟩
   rcases k5 with k5 | k5
   ·left;simpa [Value.blk,k5] using hb
   ·right;simp [Value.blk,k5] at hb;omega
  ·by_cases hroom : n + m ≤ cap
   ·have hfit:o'+n*i.size+fl.length≤cur.size:=by
     have:=Nat.mul_le_mul_right zs.length hroom
     have e2:(n+m)*zs.length=n*zs.length+m*zs.length:=Nat.add_mul ..
     rw [hl,h4];omega
    have hr:=run_append_room_off (P:=P) t ty e i EL.under h2 g o' n cap cur hg ⟨b,off,none⟩ m c fl (by rw [h4];exact hl) hnews h1 hroom hfit
    rw [h4] at hr
    refine ⟨_,_,hr,⟨hlen,.inr ⟨g,o',cap,_,rfl,Nat.zero_le _,setRow_heap w g cur _ e _ hg,hroom,hcm,?_,?_⟩⟩,rfl,rfl,rfl,by simp,fun b hb hF=>setRow_other w g b _ (fun e=>hF (by simp [Value.blk,Value.ownBlock,e])),fun b hb=>.inl hb⟩
    ·rw [h4] at hfit
     simp only [List.size_toArray,List.length_append,List.length_take,List.length_drop,Array.length_toList]
     omega
    ·show List.take ((n + m) * zs.length) (List.drop o' (cur.toList.take (o' + n * zs.length) ++ fl ++ cur.toList.drop (o' + n * zs.length + fl.length))) = _
     rw [splice_off cur.toList fl o' (n*zs.length) (by have:=hfit;rw [h4] at this;rw [Array.length_toList];exact Nat.le_trans (Nat.le_add_right _ _) this),ht,← hlen]
     exact List.take_left
   ·have holds:∀ j u,xs[j]?=some u→w.cell? ((⟨g,o',none⟩:Addr).add j)=some u:=fun j u hu=>by
     rw [addr_add,cell_of_row w g (o'+j) cur e (0,0) hg]
     rw [← ht,List.getElem?_take] at hu
     split at hu
     ·rw [List.getElem?_drop] at hu;simpa using hu
     ·cases hu
    obtain ⟨v',w',hrun,k2,k3⟩:=run_append_arg_grows (P:=P) w t ty e i z zs.length bytes EL.under h2 h3 h4 h5 (by rw [h6];simp) EL.pos ⟨g,o',none⟩ n cap xs hown.1 holds ⟨b,off,none⟩ m c fl hl hnews (by omega) hml hn
    refine ⟨v',w',hrun,?_,k3.os,k3.tape,k3.output,k3.size,fun b hb _=>k3.block b hb (by simp),fun b hb=>.inr (k2.lt b ?_).1⟩
    ·have k4 := ownsRw.of k2
     refine ⟨k4.1,?_⟩
     rcases k4.2 with h | ⟨g',p',cap',cur',q1,q2,q3⟩
     ·exact .inl h
     ·exact .inr ⟨g',p',cap',cur',q1,Nat.zero_le _,q3⟩
    ·simpa [Value.blk] using hb
theorem srcM_els (h:RelE w0 Z0 L N K σ a w E Z) {dp:Bool} {s:Sh} {b:CV} {u:Value} {ys:List s.D} {cons:List Nat} (hr:(srcM dp s b).run σ=some (ys,cons)) (ho:AllP ((srcM dp s b).obl σ)) (hd:b.den E Z w u) :
  ∃ vs Fs,Src w u ys.length vs.flatten∧Els Z w dp s vs ys Fs∧(∀ b∈Fs.flatten,∃ m∈cons,b∈E.fp m)∧Fs.flatten.Nodup∧∀ m∈cons,∃ y,σ.obj m=some y:=by
 have hnil:Els Z w dp s [] [] []:=by cases dp<;>first | exact ⟨trivial,rfl⟩ | trivial
 -- rows and slices that read
 have hread:∀ {vs:List (List Value)},(dp=false∨s.plain=true)→Rd2 (s.rd w Z) vs ys→∃ Fs,Els Z w dp s vs ys Fs∧Fs.flatten=[]:=by
  intro vs hp hrd
  cases dp with
  | false=>exact ⟨[],⟨hrd,rfl⟩,rfl⟩
  | true =>
   have hpl:s.plain=true:=by rcases hp with hp | hp;cases hp;exact hp
   obtain ⟨Gs,h1,h2,_⟩:=Els.own (dp:=false) hpl (w:=w) (Z:=Z) ⟨hrd,rfl⟩
   exact ⟨Gs,h1,h2⟩
 unfold srcM at hr ho
 split at hr
 ·have e1 := ret_some hr; cases e1
  exact ⟨[],[],⟨none,0,hd,fun h=>absurd h (by simp)⟩,hnil,by simp,by simp,by simp⟩
 ·rename_i s' ys'
  obtain ⟨hb,hr1⟩:=bif_some hr
  obtain ⟨hs,hr2⟩:=dif_some hr1
  have e1:=ret_some hr2
  have hss:=Sh.eq_of_beq hs
  subst hss
  simp only [castL] at e1;cases e1
  obtain ⟨A,c,vs,e,_,_,hrd,hc⟩:=hd
  obtain ⟨Fs,h1,h2⟩:=hread (by cases dp<;>simp at hb ⊢;exact hb) hrd
  refine ⟨vs,Fs,⟨A,c,by simpa using e,fun hn=>?_⟩,h1,by rw [h2];simp,by rw [h2];simp,by simp⟩
  obtain ⟨b,off,hA,_,hcell⟩:=hc hn
  exact ⟨b,off,hA,hcell⟩
 ·rename_i r
  obtain ⟨ob,hob,hr1,ho1⟩:=obj_split hr ho
  cases ob with
  | bx _ _=>cases hr1
  | pin _ _=>cases hr1
  | mp _ _=>cases hr1
  | op _ _ _ _=>cases hr1
  | row dp' s' ys' =>
   obtain ⟨hs,hr2⟩:=dif_some hr1
   have hss:=Sh.eq_of_beq hs
   subst hss
   obtain ⟨vs,Fs,h1,h2,h3⟩:=h.obj r _ hob
   have hu:u=E.hdr r:=hd
   cases hp:s'.plain with
   | true =>
    rw [hp,cond_true] at hr2
    have e1:=ret_some hr2
    simp only [castL] at e1;cases e1
    obtain ⟨Gs,g1,g2,g3⟩:=h2.own hp
    obtain ⟨Fs',f1,f2⟩:=hread (.inr hp) (h2.rd (fun _ h=>h) (by rw [g3];simp))
    exact ⟨vs,Fs',by rw [hu];exact Src.row h1,f1,by rw [f2];simp,by rw [f2];simp,by simp⟩
   | false =>
    rw [hp,cond_false] at hr2
    cases dp with
    | true =>
     rw [cond_true] at hr2
     obtain ⟨hdp',hr3⟩:=bif_some hr2
     have e1:=ret_some hr3
     simp only [castL] at e1;cases e1
     subst hdp'
     have hnd:=h.nodup r _ hob
     rw [h3] at hnd
     exact ⟨vs,Fs,by rw [hu];exact Src.row h1,h2,fun b hb=>⟨r,by simp,by rw [h3];exact List.mem_append.2 (.inr hb)⟩,(List.nodup_append.1 hnd).2.1,by simp [hob]⟩
    | false =>
     rw [cond_false] at hr2
     cases dp' with
     | true=>cases hr2
     | false =>
      have e1:=ret_some hr2
      simp only [castL] at e1;cases e1
      exact ⟨vs,Fs,by rw [hu];exact Src.row h1,h2,by rw [h2.2];simp,by rw [h2.2];simp,by simp⟩
 ·cases hr
theorem appendM_ends (h:RelE w0 Z0 L N K σ a w E Z) {Γ:Gam} (hΓ:GamOK P Γ) {o:Oper} {md:Md} {t:TypeId} {x y:Operand} {e:Eff} (hop:o.op=.call { callee:=.builtin .append,args:=#[x,y],argTypes:=#[t,t] }) (hids:∀ i∈md.ids,i ∉ K) (hdst:∀ d',o.dst=some d'→d' < N)
  (hr:(appendM Γ md t x y).run σ=some e) (ho:AllP ((appendM Γ md t x y).obl σ)):Ends P w0 Z0 L N (md.ids++K) σ a w o e:=by
 obtain ⟨id,ids,hi,hr1,ho1⟩:=newId_some hr ho
 obtain ⟨⟨s,bytes⟩,he,_,hr2,ho2⟩:=bind_split hr1 ho1
 have EL:=hΓ t s bytes (orFail_run he)
 obtain ⟨c,hc,_,hr3,ho3⟩:=bind_split hr2 ho2
 obtain ⟨d,hd,_,hr4,ho4⟩:=bind_split hr3 ho3
 have hcd:=evalC_den h hc
 have hdd:=evalC_den h hd
 clear hr ho hr1 ho1 hr2 ho2 hr3 ho3
 have hzl:=s.zs_len
 have hidK:id ∉ K:=hids id (by simp [hi])
 intro Q
 have hexec:∀ {v':Value} {w':World},(Builtin.append_ #[t,t] o.type #[a.eval x,a.eval y]).run P w=.ok v' w'→(execOp a.eval o).run P w=.ok (.value v') w':=fun hrun=>by
  simp [execOp,hop,resolve,invoke,builtin,hrun]
 have flat:∀ {dp:Bool} {vs:List (List Value)} {xs:List s.D} {Fs:List (List Nat)},Els Z w dp s vs xs Fs→vs.flatten.length=xs.length*s.zs.length:=fun hh=>by rw [flat_len_of hh.lens.2,hh.lens.1,hzl]
 split at hr4
 ·obtain ⟨⟨ys, cons⟩, hys, hyso, hr5, ho5⟩ := bind_split hr4 ho4
  obtain ⟨hby,hr6,_⟩:=need_split hr5 ho5
  have e1:=ret_some hr6;subst e1
  obtain ⟨vs,Fs,k1,k2,k3,k4,k5⟩:=srcM_els h hys hyso hdd.1
  obtain ⟨v',w',j1,j2,j3,j4,j5,j6,j7,j8⟩:=run_append_src (P:=P) EL (v:=a.eval x) (n:=0) (xs:=[]) (by rw [show a.eval x=_ from hcd.1];exact ownsRw_nil) k1 (flat k2) k2.one (by rw [Nat.zero_add];exact hby) o.type
  rw [show a.eval x=_ from hcd.1,blk_none] at j7 j8
  refine wp_of_value (hexec (by rw [show a.eval x=_ from hcd.1] at j1 ⊢;exact j1)) ?_
  rw [hi]
  rw [Nat.zero_add,List.nil_append,hzl] at j2
  exact row_new h hidK k5 k2 k3 k4 j3 j4 j5 j6 (fun b hb=>j7 b hb (by simp)) j2 (fun b hb=>by have:=j8 b hb;simpa using this) hdst
 ·rename_i r
  obtain ⟨ob,hob,hr5,ho5⟩:=obj_split hr4 ho4
  cases ob with
  | bx _ _=>cases hr5
  | pin _ _=>cases hr5
  | mp _ _=>cases hr5
  | op _ _ _ _=>cases hr5
  | row dp s' xs =>
   obtain ⟨hs,hr6,ho6⟩:=dif_split hr5 ho5
   have hss:=Sh.eq_of_beq hs
   simp only at hss
   subst hss
   simp only [castL] at hr6 ho6
   obtain ⟨⟨ys,cons⟩,hys,hyso,hr7,ho7⟩:=bind_split hr6 ho6
   obtain ⟨hrc,hr8,ho8⟩:=bif_split hr7 ho7
   obtain ⟨hby,hr9,_⟩:=need_split hr8 ho8
   have e1:=ret_some hr9;subst e1
   have hrc':r ∉ cons:=fun hm=>by
    have:=List.all_eq_true.1 hrc r hm
    simp at this
   obtain ⟨vs,Fs,k1,k2,k3,k4,k5⟩:=srcM_els h hys hyso hdd.1
   obtain ⟨vs0,Fs0,h1,h2,h3⟩:=h.obj r _ hob
   have hx:a.eval x=E.hdr r:=hcd.1
   obtain ⟨v',w',j1,j2,j3,j4,j5,j6,j7,j8⟩:=run_append_src (P:=P) EL (v:=a.eval x) (n:=xs.length) (xs:=vs0.flatten) (by rw [hx,hzl];exact h1) k1 (flat k2) k2.one hby o.type
   rw [hx] at j7 j8
   refine wp_of_value (hexec j1) ?_
   have hnd:=h.nodup r _ hob
   have hfr:=h.free r _ hob
   rw [h3] at hnd hfr
   have hnd':=List.nodup_append.1 hnd
   have hblkr:∀ b∈Value.blk (E.hdr r),b∈E.fp r:=fun b hb=>by rw [h3];exact List.mem_append.2 (.inl hb)
   have hZ0:∀ b,Z b→w'.heap[b]?=w.heap[b]?:=fun b hb=>j7 b (h.zlt b hb) fun hbl=>(h.free r _ hob b (hblkr b hbl)).2.1 hb
   have hF0:∀ b∈Fs0.flatten,w'.heap[b]?=w.heap[b]?:=fun b hb=>j7 b (hfr b (List.mem_append.2 (.inr hb))).1 fun hbl=>hnd'.2.2 b hbl b hb rfl
   have hconsr:∀ m∈cons,∀ b∈E.fp m,b ∉ E.fp r:=fun m hm b hb hbr=>by
    obtain ⟨z,hz⟩:=k5 m hm
    exact h.apart m z r _ hz hob (fun e=>hrc' (e ▸ hm)) b hb hbr
   have hF1:∀ b∈Fs.flatten,b < w.heap.size∧b ∉ E.fp r:=fun b hb=>by
    obtain ⟨m,hm,hbm⟩:=k3 b hb
    obtain ⟨z,hz⟩:=k5 m hm
    exact ⟨(h.free m z hz b hbm).1,hconsr m hm b hbm⟩
   have hels0:Els Z w' dp s' vs0 xs Fs0:=h2.keep (fun _ h=>h) hZ0 hF0
   have hels1:Els Z w' dp s' vs ys Fs:=k2.keep (fun _ h=>h) hZ0 fun b hb=>j7 b (hF1 b hb).1 fun hbl=>(hF1 b hb).2 (hblkr b hbl)
   rw [hzl,← List.flatten_append] at j2
   have:=h.turn (id:=id) hidK (cons:=r::cons) (by intro m hm;rcases List.mem_cons.1 hm with rfl | hm;exact ⟨_,hob⟩;exact k5 m hm) (w':=w') j3 j4 j5 j6 (fun b hb hn=>j7 b hb fun hbl=>hn r (by simp) (hblkr b hbl)) (ob:=.row dp s' (xs++ys)) (hd:=v') (F:=Value.blk v'++(Fs0++Fs).flatten)
    ⟨vs0++vs,Fs0++Fs,by rw [List.length_append];exact j2,hels0.append_ hels1,rfl⟩
    (by
     rw [List.flatten_append]
     refine List.nodup_append.2 ⟨blk_nodup v',List.nodup_append.2 ⟨hnd'.2.1,k4,fun b hb c hc e=>?_⟩,fun b hb c hc e=>?_⟩
     ·subst e;exact (hF1 b hc).2 (by rw [h3];exact List.mem_append.2 (.inr hb))
     ·subst e
      rcases j8 b hb with hb | hb
      ·rcases List.mem_append.1 hc with hc | hc
       ·exact hnd'.2.2 b hb b hc rfl
       ·exact (hF1 b hc).2 (hblkr b hb)
      ·rcases List.mem_append.1 hc with hc | hc
       ·have:=(hfr b (List.mem_append.2 (.inr hc))).1;omega
       ·have:=(hF1 b hc).1;omega)
    (fun b hb => by
     rcases List.mem_append.1 hb with hb | hb
     ·refine ⟨blk_lt j2 b hb, ?_⟩
      rcases j8 b hb with hb | hb
      ·exact .inr ⟨r,by simp,hblkr b hb⟩
      ·exact .inl hb
     ·rw [List.flatten_append] at hb
      rcases List.mem_append.1 hb with hb | hb
      ·have := (hfr b (List.mem_append.2 (.inr hb))).1
       exact ⟨by omega,.inr ⟨r,by simp,by rw [h3];exact List.mem_append.2 (.inr hb)⟩⟩
      ·have := (hF1 b hb).1
       obtain ⟨m,hm,hbm⟩:=k3 b hb
       exact ⟨by omega,.inr ⟨m,by simp [hm],hbm⟩⟩)
    (by obtain ⟨A,c,e,_⟩:=row_form j2;rw [e];rfl) (by simp [Ob.ids]) (av:=.p (.c (.sl id))) (v:=v') (d:=o.dst) (by show v'=_;simp [Env.set]) (by simp [AV.ids,PV.ids,CV.ids]) hdst
   rw [hi]
   exact more_post this (fun i hi=>by rcases List.mem_cons.1 hi with rfl | hi<;>simp [*])
 ·cases hr4
theorem zeros_flat (zs:List Value) (h:0 < zs.length) (n:Nat):(Builtin.zeroCells zs.toArray n).toList=(List.replicate n zs).flatten:=by
 have h1:=made_flat zs n h
 rw [← h1]
 rfl
theorem appendZM_ends (h:RelE w0 Z0 L N K σ a w E Z) {Γ:Gam} (hΓ:GamOK P Γ) {o:Oper} {md:Md} {t t':TypeId} {x y:Operand} {e:Eff} (hop:o.op=.call { callee:=.builtin .append,args:=#[x,y],argTypes:=#[t,t'] }) (hids:∀ i∈md.ids,i ∉ K) (hdst:∀ d',o.dst=some d'→d' < N)
  (hr:(appendZM P Γ md t t' x y).run σ=some e) (ho:AllP ((appendZM P Γ md t t' x y).obl σ)):Ends P w0 Z0 L N (md.ids++K) σ a w o e:=by
 obtain ⟨id,ids,hi,hr1,ho1⟩:=newId_some hr ho
 obtain ⟨⟨s,bytes⟩,he,_,hr2,ho2⟩:=bind_split hr1 ho1
 have EL:=hΓ t s bytes (orFail_run he)
 clear hr ho hr1 ho1
 split at hr2
 ·rename_i hu'
  simp only [hu'] at ho2
  obtain ⟨c,hc,_,hr3,ho3⟩:=bind_split hr2 ho2
  obtain ⟨d,hd,_,hr4,ho4⟩:=bind_split hr3 ho3
  have hcd:=evalC_den h hc
  have hdd:=evalC_den h hd
  clear hr2 ho2 hr3 ho3
  match c,d,hr4,ho4,hcd,hdd with
  | .v (.slice none 0 0), .v (.int .i64 n), hr4, ho4, hcd, hdd =>
   obtain ⟨hdata,hr4,ho4⟩:=bif_split hr4 ho4
   have hdata:s.data=true:=hdata
   obtain ⟨⟨h0,hby⟩,hr5,_⟩:=need_split hr4 ho4
   have e1:=ret_some hr5;subst e1
   obtain ⟨m,rfl⟩:∃ m:Nat,n=m:=⟨n.toNat,by omega⟩
   obtain ⟨i,z,h2,h3,h4,h5,h6⟩:=EL.info
   have hle:m≤m*bytes:=Nat.le_mul_of_pos_right m EL.pos'
   have hby':m*bytes≤140737488355328:=by
    have:((m*bytes:Nat):Int)≤140737488355328:=by rw [Int.natCast_mul];exact hby
    omega
   have hrun:=Lib.run_append_nil_zeros (P:=P) w t t' o.type s.ty i z .i64 .i64 EL.under hu' h2 h3 m (by omega) (by rw [h4];exact EL.pos) (by omega) (by rw [h5];omega)
   have hcap:m≤grownCap w m 0 s.ty:=grownCap_ge w m 0 s.ty
   rw [h6] at hrun
   have hsz:∀ k,(Builtin.zeroCells s.zs.toArray k).size=k*s.size:=fun k=>by simp [Builtin.zeroCells,s.zs_len]
   have hz0:(Builtin.zeroCells s.zs.toArray m).toList=(List.replicate m s.zs).flatten:=zeros_flat _ EL.pos m
   have hels:Els Z w md.dp s (List.replicate m s.zs) (List.replicate m s.z) (bif md.dp then List.replicate m [] else []):=by
    cases md.dp
    ·exact ⟨Rd2.replicate (s.ow_rd (s.z_ow hdata (w:=w)) (by simp)) m,rfl⟩
    ·exact Ow2.replicate (s.z_ow hdata) m
   have hfl:((bif md.dp then List.replicate m [] else []):List (List Nat)).flatten=[]:=by
    cases md.dp
    ·rfl
    ·show (List.replicate m ([] : List Nat)).flatten = []
     clear hby' hle hels hby h0 hcd hdd hc hd hrun hcap hz0
     induction m with
     | zero=>rfl
     | succ m ih=>simp
   have hlen:(List.replicate m s.zs).flatten.length=m*s.size:=by rw [← hz0,Array.length_toList,hsz]
   intro Q
   obtain ⟨W',hW⟩:∃ W',W'=w.drew.alloc (.cells (Builtin.zeroCells s.zs.toArray m++Builtin.zeroCells s.zs.toArray (grownCap w m 0 s.ty - m)) s.ty):=⟨_,rfl⟩
   rw [← hW] at hrun
   refine wp_of_value (v:=.slice (some ⟨w.heap.size,0,none⟩) m (grownCap w m 0 s.ty)) (w':=W') (by simp [execOp,hop,resolve,invoke,builtin,show a.eval x=_ from hcd.1,show a.eval y=_ from hdd.1,hrun]) ?_
   rw [hi]
   subst hW
   exact row_new h (hids id (by simp [hi])) (cons:=[]) (by simp) hels (by rw [hfl];simp) (by rw [hfl];simp) (w':=w.drew.alloc _) (hd:=.slice (some ⟨w.heap.size,0,none⟩) m (grownCap w m 0 s.ty)) rfl rfl rfl (by simp) (fun b hb=>Below.heap_alloc w.drew _ b hb)
    ⟨by rw [hlen]; simp, .inr ⟨w.heap.size, 0, grownCap w m 0 s.ty, (Builtin.zeroCells s.zs.toArray m ++ Builtin.zeroCells s.zs.toArray (grownCap w m 0 s.ty - m)), by simp, Nat.zero_le _, heap_alloc_new w.drew _, by simpa using hcap, grownCap_le_maxLen _ _ _ _ (by simp only [maxLen]; omega), by
        rw [Array.size_append,hsz,hsz,← Nat.add_mul,Nat.add_sub_cancel' hcap,Nat.zero_add];exact Nat.le_refl _,by
        simp only [Array.toList_append,Int.toNat_natCast,List.length_replicate]
        rw [hz0,← hlen,List.drop_zero,List.take_left]⟩⟩
    (by simp [Value.blk,Value.ownBlock]) hdst
 ·cases hr2
end
end Go.Proofs.Ytmcpigcpachdkaa
