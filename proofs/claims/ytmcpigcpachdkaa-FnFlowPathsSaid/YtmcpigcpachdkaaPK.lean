/- Cuts of slices, closures, calls: what is known afterwards holds. No program is named; no condition. -/
import Derived.Test.YtmcpigcpachdkaaPJ
namespace Go.Proofs.Ytmcpigcpachdkaa
open Go.RowKit
set_option linter.unusedVariables false
set_option linter.unusedSimpArgs false
section
variable {P:Program} {w0:World} {Z0:Nat→Prop} {L:List Nat} {N:Nat} {K:List Nat} {σ:St} {a:Act} {w:World} {E:Env} {Z:Nat→Prop}
theorem optInt_den (h:RelE w0 Z0 L N K σ a w E Z) {d n:Int} {x:Option Operand} (hr:(optInt d x).run σ=some n):(x=none∧n=d)∨∃ y k,x=some y∧a.eval y=.int k n:=by
 cases x with
 | none=>exact .inl ⟨rfl,ret_some hr⟩
 | some y =>
  obtain ⟨c,hc,hr1⟩:=RM.run_bind hr
  have hcd:=evalC_den h hc
  match c,hr1,hcd with
  | .v (.int k m), hr1, hcd =>
   have e1:=ret_some hr1;subst e1
   exact .inr ⟨y,k,rfl,hcd.1⟩
theorem rd_take2 {s:Sh} {A:Option Addr} {n c:Nat} {xs:List s.D} (h:(Sh.sl 0 s).rd w Z [.slice A n c] xs) (k:Nat) (hk:k≤xs.length):(Sh.sl 0 s).rd w Z [.slice A k c] (xs.take k):=by
 obtain ⟨A',c',vs,e,h1,h2,h3,h4⟩:=h
 simp only [List.cons.injEq,Value.slice.injEq,and_true] at e
 obtain ⟨rfl,rfl,rfl⟩:=e
 have hl:List.length (α:=s.D) (xs.take k)=k:=by simp;omega
 refine ⟨A,c,vs.take k,by rw [hl],by rw [hl];exact Nat.le_trans hk h1,h2,h3.take k,fun hp=>?_⟩
 obtain ⟨b,off,hA,hb,hc⟩:=h4 (by rw [hl] at hp;show 0 < xs.length;omega)
 refine ⟨b,off,hA,hb,fun j u hu=>hc j u ?_⟩
 obtain ⟨r,hr⟩:=flatten_take vs k
 rw [hr,List.getElem?_append_left]
 ·exact hu
 ·rcases Nat.lt_or_ge j (vs.take k).flatten.length with h' | h'
  ·exact h'
  ·rw [List.getElem?_eq_none h'] at hu;cases hu
theorem rd_drop2 {s:Sh} {A:Option Addr} {n c:Nat} {xs:List s.D} (h:(Sh.sl 0 s).rd w Z [.slice A n c] xs) (k:Nat) (hk:k≤xs.length) :
  (Sh.sl 0 s).rd w Z [.slice (if c=k then A else A.map (·.add (k*s.size))) (xs.length - k) (c - k)] (xs.drop k):=by
 obtain ⟨A',c',vs,e,h1,h2,h3,h4⟩:=h
 simp only [List.cons.injEq,Value.slice.injEq,and_true] at e
 obtain ⟨rfl,rfl,rfl⟩:=e
 have hl:List.length (α:=s.D) (xs.drop k)=xs.length - k:=List.length_drop
 have h1':xs.length≤c:=h1
 refine ⟨_,c - k,vs.drop k,by rw [hl],by rw [hl];omega,by omega,h3.drop k,fun hp=>?_⟩
 rw [hl] at hp
 obtain ⟨b,off,rfl,hb,hc⟩:=h4 (by show 0 < xs.length;omega)
 rw [if_neg (by omega)]
 refine ⟨b,off+k*s.size,?_,hb,fun j u hu=>?_⟩
 ·simp only [Option.map_some,Option.some.injEq,addr_add]
 ·rw [Nat.add_assoc]
  refine hc _ u ?_
  rw [← flatten_drop vs k s.size (h3.lens fun c x hh=>s.rd_len hh) (by rw [h3.len];exact hk),List.getElem?_drop] at hu
  exact hu
theorem Els.take_ {dp:Bool} {s:Sh} {vs:List (List Value)} {xs:List s.D} {Fs:List (List Nat)} (h:Els Z w dp s vs xs Fs) (k:Nat):Els Z w dp s (vs.take k) (xs.take k) (Fs.take k):=by
 cases dp
 ·exact ⟨h.1.take k,by rw [h.2];simp⟩
 ·exact Ow2.take k h
theorem Els.drop_ {dp:Bool} {s:Sh} {vs:List (List Value)} {xs:List s.D} {Fs:List (List Nat)} (h:Els Z w dp s vs xs Fs) (k:Nat):Els Z w dp s (vs.drop k) (xs.drop k) (Fs.drop k):=by
 cases dp
 ·exact ⟨h.1.drop k,by rw [h.2];simp⟩
 ·exact Ow2.drop k h
theorem sliceM_nil (h:RelE w0 Z0 L N K σ a w E Z) {o:Oper} {md:Md} {t e':TypeId} {x:Operand} {lo hi:Option Operand} {e:Eff} {n:Nat} (hop:o.op=.slice t x lo hi none) (hdst:∀ d',o.dst=some d'→d' < N) (hu:P.underlying t=some (.slice e')) (hn:infoSize P e'=some n) (hx:a.eval x=.slice none 0 0)
  (hr:((optInt 0 lo).bind fun l=>(optInt 0 hi).bind fun h=>RM.need (0≤l∧l≤h∧h≤0) (.ret (⟨.p (.c (.v (.slice none 0 0))),[]⟩:Eff))).run σ=some e) (ho:AllP (((optInt 0 lo).bind fun l=>(optInt 0 hi).bind fun h=>RM.need (0≤l∧l≤h∧h≤0) (.ret (⟨.p (.c (.v (.slice none 0 0))),[]⟩:Eff))).obl σ)):Ends P w0 Z0 L N (md.ids++K) σ a w o e:=by
 obtain ⟨l,hl,_,hr4,ho4⟩:=bind_split hr ho
 obtain ⟨hh,hhi,_,hr5,ho5⟩:=bind_split hr4 ho4
 obtain ⟨hb,hr6,_⟩:=need_split hr5 ho5
 have e1:=ret_some hr6;subst e1
 have hl0:l=0:=by omega
 have hh0:hh=0:=by omega
 subst hl0;subst hh0
 have hu':=run_underlying hu w
 have hs:=size_run hn w
 have hrun:(execOp a.eval o).run P w=.ok (.value (.slice none 0 0)) w:=by
  rcases optInt_den h hl with ⟨rfl,_⟩ | ⟨y,k,rfl,hy⟩<;>rcases optInt_den h hhi with ⟨rfl,_⟩ | ⟨z,k',rfl,hz⟩
  ·simp [execOp,hop,Instr.sliceAt,hu',Instr.slice,hx,Instr.sliceBounds,hs]
  ·simp [execOp,hop,Instr.sliceAt,hu',Instr.slice,hx,Instr.sliceBounds,hs,hz,Instr.sliceBound,asIntOf]
  ·simp [execOp,hop,Instr.sliceAt,hu',Instr.slice,hx,Instr.sliceBounds,hs,hy,Instr.sliceBound,asIntOf]
  ·simp [execOp,hop,Instr.sliceAt,hu',Instr.slice,hx,Instr.sliceBounds,hs,hy,hz,Instr.sliceBound,asIntOf]
 intro Q
 refine wp_of_value hrun ?_
 exact h.val hdst (av:=.p (.c (.v (.slice none 0 0)))) (v:=.slice none 0 0) (show _=_ from rfl) (by simp [AV.ids,PV.ids,CV.ids]) _
theorem sliceM_ends (h:RelE w0 Z0 L N K σ a w E Z) {o:Oper} {md:Md} {t:TypeId} {x:Operand} {lo hi:Option Operand} {e:Eff} (hop:o.op=.slice t x lo hi none) (hids:∀ i∈md.ids,i ∉ K) (hdst:∀ d',o.dst=some d'→d' < N)
  (hr:(sliceM P md t x lo hi).run σ=some e) (ho:AllP ((sliceM P md t x lo hi).obl σ)):Ends P w0 Z0 L N (md.ids++K) σ a w o e:=by
 unfold sliceM at hr ho
 split at hr
 ·rename_i el hu
  simp only [hu] at ho
  obtain ⟨n,hn,_,hr1,ho1⟩:=bind_split hr ho
  obtain ⟨c,hc,_,hr2,ho2⟩:=bind_split hr1 ho1
  replace hn:=orFail_run hn
  have hcd:=evalC_den h hc
  clear hr ho hr1 ho1
  -- the operation itself
  have exec:∀ (A:Option Addr) (len cap:Nat) (l hh:Int),a.eval x=.slice A len cap→len≤cap→((lo=none∧l=0)∨∃ y k,lo=some y∧a.eval y=.int k l)→((hi=none∧hh=len)∨∃ y k,hi=some y∧a.eval y=.int k hh)→0≤l→l≤hh→hh≤len →
    (execOp a.eval o).run P w=.ok (.value (.slice (if cap=l.toNat then A else A.map (·.add (l.toNat*n))) (hh.toNat - l.toNat) (cap - l.toNat))) w:=by
   intro A len cap l hh hv hlc hl hhi h0 h1 h2
   have hu':=run_underlying hu w
   have hs:=size_run hn w
   have hc1:hh≤cap:=by omega
   have hlh:l≤(hh.toNat:Int):=by omega
   have hh0:0≤hh:=by omega
   rcases hl with ⟨rfl,rfl⟩ | ⟨y,k,rfl,hy⟩<;>rcases hhi with ⟨rfl,rfl⟩ | ⟨z,k',rfl,hz⟩
   ·simp [execOp,hop,Instr.sliceAt,hu',Instr.slice,hv,Instr.sliceBounds,hs]
   ·simp [execOp,hop,Instr.sliceAt,hu',Instr.slice,hv,Instr.sliceBounds,hs,hz,Instr.sliceBound,asIntOf,hh0,hc1]
   ·simp [execOp,hop,Instr.sliceAt,hu',Instr.slice,hv,Instr.sliceBounds,hs,hy,Instr.sliceBound,asIntOf,h0,h1]
   ·simp [execOp, hop, Instr.sliceAt, hu', Instr.slice, hv, Instr.sliceBounds, hs, hy, hz, Instr.sliceBound, asIntOf, hh0, hc1, h0, hlh, h1]
    intro hlt;exfalso;omega
  intro Q
  cases c with
  | ro s xs =>
   obtain ⟨hns,hr3,ho3⟩:=bif_split hr2 ho2
   have hns:=Nat.eq_of_beq_eq_true hns
   subst hns
   obtain ⟨l,hl,_,hr4,ho4⟩:=bind_split hr3 ho3
   obtain ⟨hh,hhi,_,hr5,ho5⟩:=bind_split hr4 ho4
   obtain ⟨hb,hr6,_⟩:=need_split hr5 ho5
   have e1:=ret_some hr6;subst e1
   obtain ⟨A,cap,hv,hlc,_⟩:=slice_form hcd.1
   refine wp_of_value (exec A _ cap l hh hv hlc (optInt_den h hl) (optInt_den h hhi) hb.1 hb.2.1 hb.2.2) ?_
   refine h.val hdst ?_ (by simp [AV.ids,PV.ids,CV.ids]) _
   have hrd:=hcd.1
   rw [hv] at hrd
   have h1:=rd_take2 hrd hh.toNat (by omega)
   have hlen:(xs.take hh.toNat).length=hh.toNat:=by simp;omega
   have h2:=rd_drop2 h1 l.toNat (by rw [hlen];omega)
   rw [hlen] at h2
   exact h2
  | sl r =>
   obtain ⟨ob,hob,hr3,ho3⟩:=obj_split hr2 ho2
   cases ob with
   | bx _ _=>cases hr3
   | pin _ _=>cases hr3
   | mp _ _=>cases hr3
   | op _ _ _ _=>cases hr3
   | row dp s xs =>
    obtain ⟨id,ids,hi',hr4,ho4⟩:=newId_some hr3 ho3
    obtain ⟨hns,hr5,ho5⟩:=bif_split hr4 ho4
    have hns1:=Nat.eq_of_beq_eq_true hns
    subst hns1
    obtain ⟨vs,Fs,h1,h2,h3⟩:=h.obj r _ hob
    cases lo with
    | some l0 =>
    obtain ⟨hhi,hr5,ho5⟩:=bif_split hr5 ho5
    have hhi:hi=none:=by cases hi;rfl;simp at hhi
    subst hhi
    obtain ⟨l,hl,_,hr6,ho6⟩:=bind_split hr5 ho5
    obtain ⟨hb,hr7,_⟩:=need_split hr6 ho6
    have e1:=ret_some hr7;subst e1
    obtain ⟨A,cap,hv,hlc,_⟩:=row_form h1
    have hex:=exec A xs.length cap l xs.length (by rw [← hv];exact hcd.1) hlc (optInt_den h hl) (.inl ⟨rfl,rfl⟩) hb.1 hb.2 (Int.le_refl _)
    refine wp_of_value hex ?_
    have hl2:=h2.lens
    have hfl1:(vs.take l.toNat).flatten.length=l.toNat*s.size:=by
     rw [flat_len_of (fun v hv=>hl2.2 v (List.mem_of_mem_take hv))]
     congr 1
     simp;omega
    have hfs:vs.flatten=(vs.take l.toNat).flatten++(vs.drop l.toNat).flatten:=by rw [← List.flatten_append,List.take_append_drop]
    have hfd:vs.flatten.drop (l.toNat*s.size)=(vs.drop l.toNat).flatten:=by rw [hfs,← hfl1,List.drop_left]
    have hlen:(xs.drop l.toNat).length=xs.length - l.toNat:=List.length_drop
    generalize hV:(Value.slice (if cap=l.toNat then A else A.map (·.add (l.toNat*s.size))) ((xs.length:Int).toNat - l.toNat) (cap - l.toNat))=V
    have hblk:Value.blk V=Value.blk (E.hdr r):=by
     rw [← hV,hv]
     cases A with
     | none=>split<;>rfl
     | some ad =>
      split
      ·rfl
      ·show [(ad.add (l.toNat * s.size)).block] = [ad.block]
       unfold Addr.add;split<;>rfl
    have hnd:=h.nodup r _ hob
    rw [h3] at hnd
    have hnd':=List.nodup_append.1 hnd
    have hsub:∀ b∈(Fs.drop l.toNat).flatten,b∈Fs.flatten:=fun b hb=>by
     obtain ⟨G,hG,hbG⟩:=List.mem_flatten.1 hb
     exact List.mem_flatten.2 ⟨G,List.mem_of_mem_drop hG,hbG⟩
    have hown:ownsRw w 0 s.ty s.size V (xs.drop l.toNat).length (vs.drop l.toNat).flatten:=by
     rw [hlen]
     refine ⟨by rw [← hfd,List.length_drop,h1.1,← Nat.sub_mul],?_⟩
     rcases h1.2 with ⟨e1,hn0⟩ | ⟨g,off,cap',cur,e1,hb0,hg,hnc,hcm,hcs,ht⟩
     ·left
      rw [hv] at e1
      simp only [Value.slice.injEq] at e1
      obtain ⟨rfl,h0,rfl⟩:=e1
      have e0:l.toNat=0:=by omega
      exact ⟨by rw [← hV,e0,hn0];rfl,by omega⟩
     ·right
      rw [hv] at e1;cases e1
      have e2:(cap - l.toNat)*s.size=cap*s.size - l.toNat*s.size:=Nat.sub_mul ..
      have e3:l.toNat*s.size≤cap*s.size:=Nat.mul_le_mul_right _ (by omega)
      by_cases hcl:cap=l.toNat
      ·refine ⟨g, off, cap - l.toNat, cur, by rw [← hV, if_pos hcl, Int.toNat_natCast], hb0, hg, by omega, by omega, by omega, ?_⟩
       have e0:xs.length - l.toNat=0:=by omega
       have hz:(vs.drop l.toNat).flatten=[]:=by rw [← hfd];exact List.drop_of_length_le (by rw [h1.1];exact Nat.mul_le_mul_right _ (by omega))
       rw [hz,e0];simp
      ·refine ⟨g, off + l.toNat * s.size, cap - l.toNat, cur, by rw [← hV, if_neg hcl, Int.toNat_natCast, Option.map_some, addr_add], hb0, hg, by omega, by omega, by omega, ?_⟩
       rw [← hfd,← ht,List.drop_take,List.drop_drop,Nat.sub_mul]
    have hndt:(Fs.drop l.toNat).flatten.Nodup:=by
     have e:Fs.flatten=(Fs.take l.toNat).flatten++(Fs.drop l.toNat).flatten:=by rw [← List.flatten_append,List.take_append_drop]
     have:=hnd'.2.1
     rw [e] at this
     exact (List.nodup_append.1 this).2.1
    have:=h.turn (id:=id) (hids id (by simp [hi'])) (cons:=[r]) (by simp [hob]) (w':=w) rfl rfl rfl (Nat.le_refl _) (fun _ _ _=>rfl) (ob:=.row dp s (xs.drop l.toNat)) (hd:=V) (F:=Value.blk (E.hdr r)++(Fs.drop l.toNat).flatten)
     ⟨vs.drop l.toNat,Fs.drop l.toNat,hown,h2.drop_ _,by rw [hblk]⟩
     (List.nodup_append.2 ⟨hnd'.1,hndt,fun b hb c hc e=>hnd'.2.2 b hb c (hsub c hc) e⟩)
     (fun b hb => by
      have hbr:b∈E.fp r:=by
       rw [h3]
       rcases List.mem_append.1 hb with hb | hb
       ·exact List.mem_append.2 (.inl hb)
       ·exact List.mem_append.2 (.inr (hsub b hb))
      exact ⟨(h.free r _ hob b hbr).1,.inr ⟨r,by simp,hbr⟩⟩)
     (by rw [← hV];rfl) (by simp [Ob.ids]) (av:=.p (.c (.sl id))) (v:=V) (d:=o.dst) (by show _=_;simp [Env.set]) (by simp [AV.ids,PV.ids,CV.ids]) hdst
    rw [hi']
    exact more_post this (fun i hi=>by rcases List.mem_cons.1 hi with rfl | hi<;>simp [*])
    | none =>
    obtain ⟨hh,hhi,_,hr6,ho6⟩:=bind_split hr5 ho5
    obtain ⟨hb,hr7,_⟩:=need_split hr6 ho6
    have e1:=ret_some hr7;subst e1
    have hlo:(none:Option Operand)=none:=rfl
    obtain ⟨A,cap,hv,hlc,_⟩:=row_form h1
    have hx:a.eval x=.slice A xs.length cap:=by rw [← hv];exact hcd.1
    have hex:=exec A _ cap 0 hh hx hlc (.inl ⟨hlo,rfl⟩) (optInt_den h hhi) (by omega) hb.1 hb.2
    have hA:(if cap=(0:Int).toNat then A else A.map (·.add ((0:Int).toNat*s.size)))=A:=by
     split
     ·rfl
     ·cases A with
      | none=>rfl
      | some ad=>simp [Addr.add]
    rw [hA] at hex
    simp only [Int.toNat_zero,Nat.sub_zero] at hex
    refine wp_of_value hex ?_
    have hlen:(xs.take hh.toNat).length=hh.toNat:=by simp;omega
    have hblk:Value.blk (.slice A hh.toNat cap)=Value.blk (E.hdr r):=by rw [hv];cases A<;>rfl
    have hnd:=h.nodup r _ hob
    rw [h3] at hnd
    have hnd':=List.nodup_append.1 hnd
    have hsub:∀ b∈(Fs.take hh.toNat).flatten,b∈Fs.flatten:=fun b hb=>by
     obtain ⟨G,hG,hbG⟩:=List.mem_flatten.1 hb
     exact List.mem_flatten.2 ⟨G,List.mem_of_mem_take hG,hbG⟩
    have hown:ownsRw w 0 s.ty s.size (.slice A hh.toNat cap) (xs.take hh.toNat).length (vs.take hh.toNat).flatten:=by
     rw [hlen]
     have hl2:=h2.lens
     have hfl:(vs.take hh.toNat).flatten.length=hh.toNat*s.size:=by
      rw [flat_len_of (fun v hv=>hl2.2 v (List.mem_of_mem_take hv))]
      congr 1
      simp;omega
     refine ⟨hfl,?_⟩
     rcases h1.2 with ⟨e1,hn0⟩ | ⟨g,off,cap',cur,e1,hb0,hg,hnc,hcm,hcs,ht⟩
     ·left
      rw [hv] at e1
      simp only [Value.slice.injEq] at e1
      obtain ⟨rfl,h0,rfl⟩:=e1
      have:hh.toNat=0:=by omega
      exact ⟨by rw [this],this⟩
     ·right
      rw [hv] at e1;cases e1
      refine ⟨g,off,cap,cur,rfl,hb0,hg,by omega,hcm,hcs,?_⟩
      have hsub':hh.toNat*s.size≤xs.length*s.size:=Nat.mul_le_mul_right _ (by omega)
      have e2:(cur.toList.drop off).take (hh.toNat*s.size)=((cur.toList.drop off).take (xs.length*s.size)).take (hh.toNat*s.size):=by rw [List.take_take,Nat.min_eq_left hsub']
      rw [e2,ht]
      obtain ⟨rr,hrr⟩:=flatten_take vs hh.toNat
      rw [hrr,List.take_append_of_le_length (by omega),List.take_of_length_le (by omega)]
    have hndt:(Fs.take hh.toNat).flatten.Nodup:=by
     have e:Fs.flatten=(Fs.take hh.toNat).flatten++(Fs.drop hh.toNat).flatten:=by rw [← List.flatten_append,List.take_append_drop]
     have:=hnd'.2.1
     rw [e] at this
     exact (List.nodup_append.1 this).1
    have:=h.turn (id:=id) (hids id (by simp [hi'])) (cons:=[r]) (by simp [hob]) (w':=w) rfl rfl rfl (Nat.le_refl _) (fun _ _ _=>rfl) (ob:=.row dp s (xs.take hh.toNat)) (hd:=.slice A hh.toNat cap) (F:=Value.blk (E.hdr r)++(Fs.take hh.toNat).flatten)
     ⟨vs.take hh.toNat,Fs.take hh.toNat,hown,h2.take_ _,by rw [hblk]⟩
     (List.nodup_append.2 ⟨hnd'.1,hndt,fun b hb c hc e=>hnd'.2.2 b hb c (hsub c hc) e⟩)
     (fun b hb => by
      have hbr:b∈E.fp r:=by
       rw [h3]
       rcases List.mem_append.1 hb with hb | hb
       ·exact List.mem_append.2 (.inl hb)
       ·exact List.mem_append.2 (.inr (hsub b hb))
      exact ⟨(h.free r _ hob b hbr).1,.inr ⟨r,by simp,hbr⟩⟩)
     rfl (by simp [Ob.ids]) (av:=.p (.c (.sl id))) (v:=.slice A hh.toNat cap) (d:=o.dst) (by show _=_;simp [Env.set]) (by simp [AV.ids,PV.ids,CV.ids]) hdst
    rw [hi']
    exact more_post this (fun i hi=>by rcases List.mem_cons.1 hi with rfl | hi<;>simp [*])
  | v u =>
   match u,hr2,ho2,hcd with
   | .slice none 0 0,hr2,ho2,hcd=>exact sliceM_nil h hop hdst hu hn hcd.1 hr2 ho2 Q
  | _=>cases hr2
 ·cases hr
theorem clipM_ends (h:RelE w0 Z0 L N K σ a w E Z) {o:Oper} {md:Md} {t:TypeId} {x hi mx:Operand} {e:Eff} (hop:o.op=.slice t x none (some hi) (some mx)) (hids:∀ i∈md.ids,i ∉ K) (hdst:∀ d',o.dst=some d'→d' < N)
  (hr:(clipM P md t x hi mx).run σ=some e) (ho:AllP ((clipM P md t x hi mx).obl σ)):Ends P w0 Z0 L N (md.ids++K) σ a w o e:=by
 unfold clipM at hr ho
 split at hr
 ·rename_i el hu
  simp only [hu] at ho
  obtain ⟨n,hn,_,hr1,ho1⟩:=bind_split hr ho
  obtain ⟨c,hc,_,hr2,ho2⟩:=bind_split hr1 ho1
  replace hn:=orFail_run hn
  have hcd:=evalC_den h hc
  clear hr ho hr1 ho1
  intro Q
  cases c with
  | sl r =>
   obtain ⟨ob,hob,hr3,ho3⟩:=obj_split hr2 ho2
   cases ob with
   | bx _ _=>cases hr3
   | pin _ _=>cases hr3
   | mp _ _=>cases hr3
   | op _ _ _ _=>cases hr3
   | row dp s xs =>
    obtain ⟨id,ids,hi',hr4,ho4⟩:=newId_some hr3 ho3
    obtain ⟨hns,hr5,ho5⟩:=bif_split hr4 ho4
    have hns1:=Nat.eq_of_beq_eq_true hns
    subst hns1
    obtain ⟨hh,hhi,_,hr6,ho6⟩:=bind_split hr5 ho5
    obtain ⟨mm,hmx,_,hr7,ho7⟩:=bind_split hr6 ho6
    obtain ⟨⟨hb1,hb2⟩,hr8,_⟩:=need_split hr7 ho7
    have e1:=ret_some hr8;subst e1
    obtain ⟨vs,Fs,h1,h2,h3⟩:=h.obj r _ hob
    obtain ⟨A,cap,hv,hlc,_⟩:=row_form h1
    have hx:a.eval x=.slice A xs.length cap:=by rw [← hv];exact hcd.1
    have hu':=run_underlying hu w
    have hs:=size_run hn w
    have hrun:(execOp a.eval o).run P w=.ok (.value (.slice A xs.length xs.length)) w:=by
     rcases optInt_den h hhi with ⟨e1,_⟩ | ⟨y,k,e1,hy⟩
     ·cases e1
     ·cases e1
      rcases optInt_den h hmx with ⟨e2,_⟩ | ⟨z,k',e2,hz⟩
      ·cases e2
      ·cases e2
       have hA:A.map (fun q=>q.add 0)=A:=by
        cases A with
        | none=>rfl
        | some ad=>simp [Addr.add]
       subst hb1
       subst hb2
       simp [execOp,hop,Instr.sliceAt,hu',Instr.slice,hx,Instr.sliceBounds,hs,hy,hz,Instr.sliceBound,asIntOf,hlc,hA]
    refine wp_of_value hrun ?_
    have hblk:Value.blk (.slice A xs.length xs.length)=Value.blk (E.hdr r):=by rw [hv];cases A<;>rfl
    have hnd:=h.nodup r _ hob
    have hown:ownsRw w 0 s.ty s.size (.slice A xs.length xs.length) xs.length vs.flatten:=by
     refine ⟨h1.1,?_⟩
     rcases h1.2 with ⟨e1,hn0⟩ | ⟨g,off,cap',cur,e1,hb0,hg,hnc,hcm,hcs,ht⟩
     ·left
      rw [hv] at e1
      simp only [Value.slice.injEq] at e1
      exact ⟨by rw [e1.1,hn0],hn0⟩
     ·right
      rw [hv] at e1;cases e1
      exact ⟨g,off,_,cur,rfl,hb0,hg,Nat.le_refl _,Nat.le_trans hnc hcm,Nat.le_trans (Nat.add_le_add_left (Nat.mul_le_mul_right _ hnc) _) hcs,ht⟩
    have:=h.turn (id:=id) (hids id (by simp [hi'])) (cons:=[r]) (by simp [hob]) (w':=w) rfl rfl rfl (Nat.le_refl _) (fun _ _ _=>rfl) (ob:=.row dp s xs) (hd:=.slice A xs.length xs.length) (F:=E.fp r)
     ⟨vs,Fs,hown,h2,by rw [hblk];exact h3⟩
     hnd
     (fun b hb=>⟨(h.free r _ hob b hb).1,.inr ⟨r,by simp,hb⟩⟩)
     rfl (by simp [Ob.ids]) (av:=.p (.c (.sl id))) (v:=.slice A xs.length xs.length) (d:=o.dst) (by show _=_;simp [Env.set]) (by simp [AV.ids,PV.ids,CV.ids]) hdst
    rw [hi']
    exact more_post this (fun i hi=>by rcases List.mem_cons.1 hi with rfl | hi<;>simp [*])
  | _=>cases hr2
 ·cases hr
theorem capsM_den (h:RelE w0 Z0 L N K σ a w E Z):∀ {l:List Operand} {c:CV},(capsM l).run σ=some c→c.denL E Z w (l.map a.eval)∧∀ i∈c.ids,i∈K
 | [],c,hr=>by have e1:=ret_some hr;subst e1;exact ⟨rfl,by simp [CV.ids]⟩
 | x :: l, c, hr => by
  unfold capsM at hr
  obtain ⟨d,hd,hr1⟩:=RM.run_bind hr
  obtain ⟨r,hr',hr2⟩:=RM.run_bind hr1
  have e1:=ret_some hr2;subst e1
  have h1:=evalC_den h hd
  have h2:=capsM_den h hr'
  exact ⟨⟨_,_,rfl,h1.1,h2.1⟩,fun i hi=>by
   rcases List.mem_append.1 (show i∈d.ids++r.ids from hi) with hi | hi
   ·exact h1.2 i hi
   ·exact h2.2 i hi⟩
def argRd (w:World) (Z:Nat→Prop) (s:Sh) (u:Value) (x:s.D):Prop:=s.rd w Z u.cells.toList x∧(s.agg=true→∃ vs:List Value,u=.agg vs.toArray)∧(s.agg=false→u.oneCell'=true)
def argsRd (w:World) (Z:Nat→Prop):(l:List Sh)→List Value→Dom l→Prop
 | [],[],_=>True
 | s::l,u::us,x=>argRd w Z s u x.1∧argsRd w Z l us x.2
 | _,_,_=>False
def resOwn (Z:Nat→Prop) (w:World) (dp:Bool):(s:Sh)→List Value→s.D→List Nat→Prop
 | .int _,cs,n,F=>cs=[.int .i64 n]∧F=[]
 | .bool _,cs,b,F=>cs=[.bool b]∧F=[]
 | .u8 _,cs,n,F=>cs=[.int .u8 n]∧(0≤n∧n < 256)∧F=[]
 | .str _,cs,b,F=>cs=[.string b]∧F=[]
 | .pair p q,cs,x,F=>∃ c d G H,cs=c++d∧F=G++H∧resOwn Z w dp p c x.1 G∧resOwn Z w dp q d x.2 H
 | .st _ p,cs,x,F=>resOwn Z w dp p cs x F
 | .sl _ p,cs,xs,F=>∃ v vs Fs,cs=[v]∧ownsRw w 0 p.ty p.size v (List.length (α:=p.D) xs) vs.flatten∧Els Z w dp p vs xs Fs∧F=Value.blk v++Fs.flatten
 | .fn0 _,_,_,_ | .fn _ _,_,_,_ | .pt _,_,_,_=>False
def resForm (s:Sh) (u:Value):Prop:=(s.agg=true→∃ vs:List Value,u=.agg vs.toArray)∧(s.agg=false→u.oneCell'=true)
def resAll (Z:Nat→Prop) (w:World) (dp:Bool):(l:List Sh)→List Value→Dom l→List Nat→Prop
 | [],[],_,F=>F=[]
 | s::l,u::us,x,F=>∃ G H,F=G++H∧resOwn Z w dp s u.cells.toList x.1 G∧resForm s u∧resAll Z w dp l us x.2 H
 | _,_,_,_=>False
def tupV:List Value→Value
 | [u]=>u
 | us=>.tuple us.toArray
def RetR (dp:Bool) (cod:List Sh) (w:World) (Z:Nat→Prop) (y:Dom cod) (e:Ending) (w':World):Prop :=
 ∃ us F,e=.returned (tupV us)∧resAll (fun b=>Z b∨(w.heap.size≤b∧b < w'.heap.size∧b ∉ F)) w' dp cod us y F∧F.Nodup∧(∀ b∈F,w.heap.size≤b∧b < w'.heap.size)∧Below w.heap.size w w'
def RetF (cod:List Sh) (w:World) (Z:Nat→Prop) (y:Dom cod) (e:Ending) (w':World):Prop :=
 ∃ us,e=.returned (tupV us)∧argsRd w' (fun b=>Z b∨(w.heap.size≤b∧b < w'.heap.size)) cod us y∧Below w.heap.size w w'
def Sum.Ret (S:Sum) (w:World) (Z:Nat→Prop) (y:Dom S.cod):Ending→World→Prop:=bif S.fz then RetF S.cod w Z y else RetR S.dp S.cod w Z y
def Kd.arg (w:World) (Z:Nat→Prop) (s:Sh) (u:Value) (x:s.D) (G:List Nat):Kd→Prop
 | .rd=>argRd w Z s u x∧G=[]
 | .io | .tk=>s.ow w u.cells.toList x G∧resForm s u
 | .bx t off=>∃ b vs H,u=.pointer (some ⟨b,off,none⟩)∧Bx w b t vs∧s.ow w vs x H∧G=b::H
def Kd.out (w:World) (s:Sh) (u:Value) (x:s.D) (G:List Nat):Kd→Prop
 | .rd | .tk=>G=[]
 | .io=>s.ow w u.cells.toList x G
 | .bx t off=>∃ b vs H,u=.pointer (some ⟨b,off,none⟩)∧Bx w b t vs∧s.ow w vs x H∧G=b::H
def argsIO (w:World) (Z:Nat→Prop):List Kd→(l:List Sh)→List Value→Dom l→List Nat→Prop
 | [],[],[],_,F=>F=[]
 | k::ks,s::l,u::us,x,F=>∃ G H,F=G++H∧k.arg w Z s u x.1 G∧argsIO w Z ks l us x.2 H
 | _,_,_,_,_=>False
def outIO (w:World):List Kd→(l:List Sh)→List Value→Dom l→List Nat→Prop
 | [],[],[],_,F=>F=[]
 | k::ks,s::l,u::us,x,F=>∃ G H,F=G++H∧k.out w s u x.1 G∧outIO w ks l us x.2 H
 | _,_,_,_,_=>False
def Sum.val (S:Sum) (us vs:List Value):Value:=match S.ali with
 | some j=>us.getD j undef
 | none=>tupV vs
def Sum.RetI (S:Sum) (w:World) (us:List Value) (x:Dom S.dom) (F:List Nat) (e:Ending) (w':World):Prop :=
 ∃ vs F1 F2,e=.returned (S.val us vs)∧outIO w' S.kinds S.dom us (S.upd x) F1∧(S.ali=none→resAll (fun _=>False) w' true S.cod vs (S.g x) F2)∧(F1++F2).Nodup∧(∀ b∈F1++F2,b < w'.heap.size∧(w.heap.size≤b∨b∈F))∧SameBut F w w'
def FnOKI (P:Program) (f:FuncId) (S:Sum):Prop :=
 ∀ (w:World) (Z:Nat→Prop) (us:List Value) (x:Dom S.dom) (F:List Nat),(∀ b,Z b→b < w.heap.size)→argsIO w Z S.kinds S.dom us x F→F.Nodup→(∀ b∈F,b < w.heap.size∧¬ Z b)→S.pre x→Calls P f us.toArray w (S.RetI w us x F)
def CallEnds (P:Program) (w0:World) (Z0:Nat→Prop) (L:List Nat) (N:Nat) (K:List Nat) (σ:St) (a:Act) (w:World) (d:Option Nat) (f:FuncId) (us:List Value) (e:Eff):Prop :=
 Calls P f us.toArray w fun e' w'=>∃ v,e'=.returned v∧Post w0 Z0 L N K σ a d e v w'
def PrimOK (P:Program) (f:FuncId) (r:Md→List PV→RM Eff):Prop :=
 ∀ {w0:World} {Z0:Nat→Prop} {L:List Nat} {N:Nat} {K:List Nat} {σ:St} {a:Act} {w:World} {E:Env} {Z:Nat→Prop},RelE w0 Z0 L N K σ a w E Z→∀ {md:Md} {ps:List PV} {us:List Value} {e:Eff} {d:Option Nat},pdens E Z w ps us→(∀ i∈ps.flatMap PV.ids,i∈K) →
  (∀ i∈md.ids,i ∉ K)→md.ids.Nodup→(∀ d',d=some d'→d' < N)→(r md ps).run σ=some e→AllP ((r md ps).obl σ)→CallEnds P w0 Z0 L N (md.ids++K) σ a w d f us e
def FnOK0 (P:Program) (f:FuncId) (S:Sum):Prop :=
 ∀ (w:World) (Z:Nat→Prop) (us:List Value) (x:Dom S.dom),(∀ b,Z b→b < w.heap.size)→argsRd w Z S.dom us x→S.pre x→Calls P f us.toArray w (S.Ret w Z (S.g x))
def FnOK (P:Program) (f:FuncId) (S:Sum):Prop:=match S.prim with
 | some r=>PrimOK P f r
 | none=>bif S.kinds.isEmpty then FnOK0 P f S else FnOKI P f S
def FnOKat (P:Program) (f:FuncId) (S:Sum) (w:World):Prop:=∀ (Z:Nat→Prop) (us:List Value) (x:Dom S.dom),(∀ b,Z b→b < w.heap.size)→argsRd w Z S.dom us x→S.pre x→Calls P f us.toArray w (S.Ret w Z (S.g x))
def FnOKw (P:Program) (w0:World) (L:List Nat) (f:FuncId) (S:Sum):Prop:=match S.prim with
 | some r=>PrimOK P f r
 | none=>bif S.kinds.isEmpty then (∀ w,SameBut L w0 w→FnOKat P f S w) else FnOKI P f S
theorem FnOK.at_ {P:Program} {w0:World} {L:List Nat} {f:FuncId} {S:Sum} (h:FnOK P f S):FnOKw P w0 L f S:=by
 unfold FnOK at h
 unfold FnOKw
 cases hp:S.prim with
 | some r=>rw [hp] at h;exact h
 | none =>
  rw [hp] at h
  simp only at h ⊢
  cases hk:S.kinds.isEmpty with
  | true=>rw [hk,cond_true] at h;rw [cond_true];exact fun w _=>h w
  | false=>rw [hk,cond_false] at h;rw [cond_false];exact h
def FnOKV (P:Program) (V:World→Prop) (f:FuncId) (S:Sum):Prop:=S.prim=none∧S.kinds.isEmpty=true∧∀ w,V w→FnOKat P f S w
theorem FnOKV.at_ {P:Program} {V:World→Prop} {w0:World} {L:List Nat} {f:FuncId} {S:Sum} (h:FnOKV P V f S) (hV:∀ w,SameBut L w0 w→V w):FnOKw P w0 L f S:=by
 unfold FnOKw
 rw [h.1]
 simp only
 rw [h.2.1,cond_true]
 exact fun w hw=>h.2.2 w (hV w hw)
theorem FnOKV.ok {P:Program} {f:FuncId} {S:Sum} (h:FnOKV P (fun _=>True) f S):FnOK P f S:=by
 unfold FnOK
 rw [h.1]
 simp only
 rw [h.2.1,cond_true]
 exact fun w=>h.2.2 w trivial
def TabOK (P:Program) (w0:World) (L:List Nat) (T:List (Nat×Sum)):Prop:=∀ k S,look T k=some S→FnOKw P w0 L S.fid S
theorem ow_res:∀ (s:Sh) {cs:List Value} {x:s.D} {F:List Nat} {Zr:Nat→Prop},s.ow w cs x F→resOwn Zr w true s cs x F
 | .int _,_,_,_,_,h=>h
 | .bool _,_,_,_,_,h=>h
 | .u8 _,_,_,_,_,h=>h
 | .str _,_,_,_,_,h=>h
 | .pair p q,_,_,_,_,h=>by obtain ⟨c,d,G,H,e1,e2,h1,h2⟩:=h;exact ⟨c,d,G,H,e1,e2,ow_res p h1,ow_res q h2⟩
 | .st _ p,_,_,_,_,h=>ow_res p h
 | .sl _ p,_,_,_,_,h=>by obtain ⟨v,vs,Fs,e1,h1,h2,e2⟩:=h;exact ⟨v,vs,Fs,e1,h1,h2,e2⟩
theorem rdArgs_pd (h:RelE w0 Z0 L N K σ a w E Z) {Zr:Nat→Prop} (hZ:∀ b,Z b→Zr b) (own:Bool) (hown:own=true→∀ o x,σ.obj o=some x→∀ b∈E.fp o,Zr b) :
  ∀ {l:List Sh} {us:List Value} {ps:List PV} {x:Dom l},pdens E Z w ps us→(rdArgs own l ps).run σ=some x→AllP ((rdArgs own l ps).obl σ)→argsRd w Zr l us x
 | [], us, ps, x, he, hr, ho => by
  cases ps with
  | cons _ _=>cases hr
  | nil =>
   cases us with
   | nil=>trivial
   | cons y ys=>exact he.elim
 | s :: l, us, ps, x, he, hr, ho => by
  cases ps with
  | nil=>cases hr
  | cons p ps =>
  cases us with
  | nil=>exact he.elim
  | cons u us =>
   unfold rdArgs at hr ho
   obtain ⟨hag,hr1,ho1⟩:=bif_split hr ho
   obtain ⟨z,hz,hzo,hr2,ho2⟩:=bind_split hr1 ho1
   obtain ⟨zs,hzs,hzso,hr3,_⟩:=bind_split hr2 ho2
   have e1:=ret_some hr3;subst e1
   refine ⟨?_,rdArgs_pd h hZ own hown he.2 hzs hzso⟩
   have hag':p.isAg=s.agg:=by simpa using hag
   cases p with
   | c c =>
    have hd:dens E Z w [c] [u]:=⟨he.1,trivial⟩
    have hrd:=rdC_rd h hZ own hown s hz hzo hd
    have h1:=s.rd_one hrd u (by simp)
    refine ⟨by rw [cells_one h1];exact hrd,fun hs=>?_,fun _=>h1⟩
    rw [hs] at hag';cases hag'
   | ag cs =>
    obtain ⟨vs,hv,hd⟩:=he.1
    have hrd:=rdC_rd h hZ own hown s hz hzo hd
    refine ⟨by rw [hv];exact hrd,fun _=>⟨vs,hv⟩,fun hs=>?_⟩
    rw [hs] at hag';cases hag'
def Free (w0:World) (L:List Nat) (σ:St) (w:World) (E:Env) (Z:Nat→Prop) (b:Nat):Prop:=b < w.heap.size∧¬ Z b∧(w0.heap.size≤b∨b∈L)∧∀ o x,σ.obj o=some x→b ∉ E.fp o
def St.add (σ:St) (l:List (Nat×Option Ob)):St:=⟨σ.tm,l++σ.ob⟩
theorem add_one {σ:St} {id:Nat} {ob:Ob} {o:Nat} {x:Ob} (h:(σ.add [(id,some ob)]).obj o=some x):(o=id∧x=ob)∨(o≠id∧σ.obj o=some x):=by
 unfold St.add St.obj at h
 simp only [List.cons_append,List.nil_append,look] at h
 by_cases e:id=o
 ·subst e;rw [Nat.beq_refl,cond_true] at h;simp only [Option.getD_some,Option.some.injEq] at h;exact .inl ⟨rfl,h.symm⟩
 ·rw [beq_ne e,cond_false] at h;exact .inr ⟨fun h=>e h.symm,h⟩
theorem RelE.adopt (h:RelE w0 Z0 L N K σ a w E Z) {id:Nat} (hid:id ∉ K) {ob:Ob} {hd:Value} {F:List Nat} (hden:ob.den (E.set id hd F) Z w hd F) (hnd:F.Nodup) (hF:∀ b∈F,Free w0 L σ w E Z b) (hone:hd.oneCell'=true) (hoi:∀ i∈ob.ids,i∈K) :
  RelE w0 Z0 L N (id::K) (σ.add [(id,some ob)]) a w (E.set id hd F) Z:=by
 have hset:∀ i,i≠id→(E.set id hd F).hdr i=E.hdr i∧(E.set id hd F).fp i=E.fp i:=fun i hi=>by simp [Env.set,hi]
 have hK:∀ i∈K,i≠id:=fun i hi e=>hid (e ▸ hi)
 have hself:(E.set id hd F).hdr id=hd∧(E.set id hd F).fp id=F:=by simp [Env.set]
 have hlive:∀ o x,σ.obj o=some x→o≠id:=fun o x ho=>hK o (h.oids o x ho).1
 have hkh:∀ i∈K,(E.set id hd F).hdr i=E.hdr i:=fun i hi=>(hset i (hK i hi)).1
 refine ⟨h.defers,h.size,fun t=>AV.keep hkh (fun _ h=>h) (fun _ _=>rfl) (h.tmp t) (h.tids t),fun t i hi=>by simp [h.tids t i hi],fun o x ho=>?_,fun o x ho=>?_,fun o x ho=>?_,fun o x o' x' ho ho' hne b hb hb'=>?_,fun o x ho b hb=>?_,h.znew,h.zlt,h.frame,fun i hi=>?_⟩
 ·rcases add_one ho with ⟨rfl, rfl⟩ | ⟨h1, h2⟩
  ·rw [hself.1,hself.2];exact hden
  ·rw [(hset o h1).1,(hset o h1).2];exact Ob.keep hkh (fun _ h=>h) (fun _ _=>rfl) (h.obj o x h2) (h.oids o x h2).2 fun _ _=>rfl
 ·rcases add_one ho with ⟨rfl, rfl⟩ | ⟨h1, h2⟩
  ·exact ⟨by simp,fun i hi=>by simp [hoi i hi]⟩
  ·exact ⟨by simp [(h.oids o x h2).1],fun i hi=>by simp [(h.oids o x h2).2 i hi]⟩
 ·rcases add_one ho with ⟨rfl, rfl⟩ | ⟨h1, h2⟩
  ·rw [hself.2];exact hnd
  ·rw [(hset o h1).2];exact h.nodup o x h2
 ·rcases add_one ho with ⟨rfl, rfl⟩ | ⟨h1, h2⟩ <;> rcases add_one ho' with ⟨rfl, rfl⟩ | ⟨h1', h2'⟩
  ·exact hne rfl
  ·rw [hself.2] at hb;rw [(hset o' h1').2] at hb';exact (hF b hb).2.2.2 o' x' h2' hb'
  ·rw [hself.2] at hb';rw [(hset o h1).2] at hb;exact (hF b hb').2.2.2 o x h2 hb
  ·rw [(hset o h1).2] at hb;rw [(hset o' h1').2] at hb';exact h.apart o x o' x' h2 h2' hne b hb hb'
 ·rcases add_one ho with ⟨rfl, rfl⟩ | ⟨h1, h2⟩
  ·rw [hself.2] at hb;have:=hF b hb;exact ⟨this.1,this.2.1,this.2.2.1⟩
  ·rw [(hset o h1).2] at hb;exact h.free o x h2 b hb
 ·rcases List.mem_cons.1 hi with rfl | hi
  ·rw [hself.1];exact hone
  ·rw [hkh i hi];exact h.hone i hi
theorem add_add (σ:St) (l l':List (Nat×Option Ob)):(σ.add l).add l'=σ.add (l'++l):=by simp [St.add,List.append_assoc]
theorem add_nil (σ:St):σ.add []=σ:=rfl
theorem adopt_res {dp:Bool}:∀ (s:Sh) {K:List Nat} {σ:St} {E:Env} {cs:List Value} {y:s.D} {F:List Nat} {ids:List Nat},RelE w0 Z0 L N K σ a w E Z→resOwn Z w dp s cs y F→F.Nodup→(∀ b∈F,Free w0 L σ w E Z b)→ids.Nodup→(∀ i∈ids,i ∉ K)→s.cnt≤ids.length →
  ∃ E' K',RelE w0 Z0 L N K' (σ.add (resC dp s y ids).2.1) a w E' Z∧dens E' Z w (resC dp s y ids).1 cs∧(∀ i∈((resC dp s y ids).1).flatMap CV.ids,i∈K')∧(resC dp s y ids).2.2=ids.drop s.cnt∧(∀ i,i∈K'↔i∈ids.take s.cnt∨i∈K) ∧
   (∀ i∈K,E'.hdr i=E.hdr i)∧∀ b,Free w0 L σ w E Z b→b ∉ F→Free w0 L (σ.add (resC dp s y ids).2.1) w E' Z b
 | .int _,K,σ,E,cs,y,F,ids,h,hr,_,_,_,_,_=>⟨E,K,h,by rw [hr.1];exact ⟨rfl,trivial⟩,by simp [resC,CV.ids],by simp [resC,Sh.cnt],by simp [Sh.cnt],fun _ _=>rfl,fun b hb _=>hb⟩
 | .bool _,K,σ,E,cs,y,F,ids,h,hr,_,_,_,_,_=>⟨E,K,h,by rw [hr.1];exact ⟨rfl,trivial⟩,by simp [resC,CV.ids],by simp [resC,Sh.cnt],by simp [Sh.cnt],fun _ _=>rfl,fun b hb _=>hb⟩
 | .u8 _,K,σ,E,cs,y,F,ids,h,hr,_,_,_,_,_=>⟨E,K,h,by rw [hr.1];exact ⟨rfl,trivial⟩,by simp [resC,CV.ids],by simp [resC,Sh.cnt],by simp [Sh.cnt],fun _ _=>rfl,fun b hb _=>hb⟩
 | .str _,K,σ,E,cs,y,F,ids,h,hr,_,_,_,_,_=>⟨E,K,h,by rw [hr.1];exact ⟨rfl,trivial⟩,by simp [resC,CV.ids],by simp [resC,Sh.cnt],by simp [Sh.cnt],fun _ _=>rfl,fun b hb _=>hb⟩
 | .st _ p,K,σ,E,cs,y,F,ids,h,hr,hn,hf,hi,hk,hc=>adopt_res p (y:=y) h hr hn hf hi hk hc
 | .pair p q, K, σ, E, cs, y, F, ids, h, hr, hn, hf, hi, hk, hc => by
  obtain ⟨c,d,G,H,rfl,rfl,h1,h2⟩:=hr
  have hn':=List.nodup_append.1 hn
  have hcnt:p.cnt+q.cnt≤ids.length:=hc
  obtain ⟨E1,K1,r1,d1,i1,j1,k1,e1,f1⟩:=adopt_res p (y:=y.1) h h1 hn'.1 (fun b hb=>hf b (List.mem_append.2 (.inl hb))) hi hk (by omega)
  have hnd2:(ids.drop p.cnt).Nodup:=by have:=hi;rw [← List.take_append_drop p.cnt ids] at this;exact (List.nodup_append.1 this).2.1
  have hdis:∀ i∈ids.drop p.cnt,i ∉ ids.take p.cnt:=fun i hi1 hi2=>by have:=hi;rw [← List.take_append_drop p.cnt ids] at this;exact (List.nodup_append.1 this).2.2 i hi2 i hi1 rfl
  obtain ⟨E2,K2,r2,d2,i2,j2,k2,e2,f2⟩:=adopt_res q (y:=y.2) (ids:=ids.drop p.cnt) r1 h2 hn'.2.1 (fun b hb=>f1 b (hf b (List.mem_append.2 (.inr hb))) fun hg=>hn'.2.2 b hg b hb rfl) hnd2
   (fun i hi1 hi2=>by rcases (k1 i).1 hi2 with h' | h';exact hdis i hi1 h';exact hk i (List.mem_of_mem_drop hi1) h') (by rw [List.length_drop];omega)
  refine ⟨E2,K2,?_,?_,?_,?_,?_,?_,?_⟩
  ·show RelE w0 Z0 L N K2 (σ.add ((resC dp q y.2 (resC dp p y.1 ids).2.2).2.1 ++ (resC dp p y.1 ids).2.1)) a w E2 Z
   rw [j1,← add_add];exact r2
  ·show dens E2 Z w ((resC dp p y.1 ids).1 ++ (resC dp q y.2 (resC dp p y.1 ids).2.2).1) (c ++ d)
   rw [j1]
   exact (d1.keep e2 (fun _ h=>h) (fun _ _=>rfl) i1).append_ d2
  ·show ∀ i ∈ ((resC dp p y.1 ids).1 ++ (resC dp q y.2 (resC dp p y.1 ids).2.2).1).flatMap CV.ids, i ∈ K2
   rw [j1,List.flatMap_append]
   intro i hi'
   rcases List.mem_append.1 hi' with hi' | hi'
   ·exact (k2 i).2 (.inr (i1 i hi'))
   ·exact i2 i hi'
  ·show (resC dp q y.2 (resC dp p y.1 ids).2.2).2.2 = ids.drop (p.cnt + q.cnt)
   rw [j1,j2,List.drop_drop]
  ·intro i
   rw [k2,k1]
   show i∈(ids.drop p.cnt).take q.cnt∨i∈ids.take p.cnt∨i∈K↔i∈ids.take (p.cnt+q.cnt)∨i∈K
   rw [List.take_add,List.mem_append]
   constructor
   ·rintro (h | h | h)
    ·exact .inl (.inr h)
    ·exact .inl (.inl h)
    ·exact .inr h
   ·rintro ((h | h) | h)
    ·exact .inr (.inl h)
    ·exact .inl h
    ·exact .inr (.inr h)
  ·intro i hi';rw [e2 i ((k1 i).2 (.inr hi')),e1 i hi']
  ·intro b hb hbF
   show Free w0 L (σ.add ((resC dp q y.2 (resC dp p y.1 ids).2.2).2.1++(resC dp p y.1 ids).2.1)) w E2 Z b
   rw [j1,← add_add]
   exact f2 b (f1 b hb fun hg=>hbF (List.mem_append.2 (.inl hg))) fun hg=>hbF (List.mem_append.2 (.inr hg))
 | .sl t p, K, σ, E, cs, y, F, ids, h, hr, hn, hf, hi, hk, hc => by
  obtain ⟨v,vs,Fs,rfl,h1,h2,rfl⟩:=hr
  match ids,hi,hk,hc with
  | id :: ids, hi, hk, _ =>
   have hone:v.oneCell'=true:=by obtain ⟨A,c,e,_⟩:=row_form h1;rw [e];rfl
   have r:=h.adopt (id:=id) (hk id (by simp)) (ob:=.row dp p y) (hd:=v) (F:=Value.blk v++Fs.flatten) ⟨vs,Fs,h1,h2,rfl⟩ hn hf hone (by simp [Ob.ids])
   refine ⟨_,_,r,⟨by show v=_;simp [Env.set],trivial⟩,by simp [resC,CV.ids],by simp [resC,Sh.cnt],by simp [Sh.cnt],fun i hi'=>?_,fun b hb hbF=>?_⟩
   ·have : i ≠ id := fun e => hk id (by simp) (e ▸ hi')
    simp [Env.set,this]
   ·refine ⟨hb.1, hb.2.1, hb.2.2.1, fun o x ho => ?_⟩
    rcases add_one (id:=id) (ob:=.row dp p y) ho with ⟨rfl,rfl⟩ | ⟨h1,h2⟩
    ·simp only [Env.set,if_true];exact hbF
    ·simp only [Env.set,h1,if_false];exact hb.2.2.2 o x h2
theorem adopt_all {dp:Bool}:∀ (l:List Sh) {K:List Nat} {σ:St} {E:Env} {us:List Value} {y:Dom l} {F:List Nat} {ids:List Nat},RelE w0 Z0 L N K σ a w E Z→resAll Z w dp l us y F→F.Nodup→(∀ b∈F,Free w0 L σ w E Z b)→ids.Nodup→(∀ i∈ids,i ∉ K)→cntP l≤ids.length →
  ∃ E' K',RelE w0 Z0 L N K' (σ.add (resP dp l y ids).2) a w E' Z∧pdens E' Z w (resP dp l y ids).1 us∧(∀ i∈((resP dp l y ids).1).flatMap PV.ids,i∈K')∧(∀ i,i∈K'↔i∈ids.take (cntP l)∨i∈K)∧∀ i∈K,E'.hdr i=E.hdr i
 | [], K, σ, E, us, y, F, ids, h, hr, _, _, _, _, _ => by
  match us,hr with
  | [],_=>exact ⟨E,K,h,trivial,by simp [resP],by simp [cntP],fun _ _=>rfl⟩
 | s :: l, K, σ, E, us, y, F, ids, h, hr, hn, hf, hi, hk, hc => by
  match us,hr with
  | u :: us, hr =>
   obtain ⟨G,H,rfl,h1,hform,h2⟩:=hr
   have hn':=List.nodup_append.1 hn
   have hcnt:s.cnt+cntP l≤ids.length:=hc
   obtain ⟨E1,K1,r1,d1,i1,j1,k1,e1,f1⟩:=adopt_res s (y:=y.1) h h1 hn'.1 (fun b hb=>hf b (List.mem_append.2 (.inl hb))) hi hk (by omega)
   have hnd2:(ids.drop s.cnt).Nodup:=by have:=hi;rw [← List.take_append_drop s.cnt ids] at this;exact (List.nodup_append.1 this).2.1
   have hdis:∀ i∈ids.drop s.cnt,i ∉ ids.take s.cnt:=fun i hi1 hi2=>by have:=hi;rw [← List.take_append_drop s.cnt ids] at this;exact (List.nodup_append.1 this).2.2 i hi2 i hi1 rfl
   obtain ⟨E2,K2,r2,d2,i2,k2,e2⟩:=adopt_all l (y:=y.2) (ids:=ids.drop s.cnt) r1 h2 hn'.2.1 (fun b hb=>f1 b (hf b (List.mem_append.2 (.inr hb))) fun hg=>hn'.2.2 b hg b hb rfl) hnd2
    (fun i hi1 hi2=>by rcases (k1 i).1 hi2 with h' | h';exact hdis i hi1 h';exact hk i (List.mem_of_mem_drop hi1) h') (by rw [List.length_drop];omega)
   have hd':=d1.keep e2 (fun _ h=>h) (fun _ _=>rfl) i1
   have hids:∀ i∈(s.pv (resC dp s y.1 ids).1).ids,i∈K1:=fun i hi'=>by
    unfold Sh.pv at hi'
    cases hag:s.agg with
    | true=>rw [hag] at hi';exact i1 i hi'
    | false =>
     rw [hag] at hi'
     generalize (resC dp s y.1 ids).1=cs at *
     cases cs with
     | nil=>simp [PV.ids,CV.ids] at hi'
     | cons c cs=>exact i1 i (by rw [List.flatMap_cons];exact List.mem_append.2 (.inl hi'))
   refine ⟨E2,K2,?_,?_,?_,?_,?_⟩
   ·show RelE w0 Z0 L N K2 (σ.add ((resP dp l y.2 (resC dp s y.1 ids).2.2).2 ++ (resC dp s y.1 ids).2.1)) a w E2 Z
    rw [j1,← add_add];exact r2
   ·show pdens E2 Z w (s.pv (resC dp s y.1 ids).1 :: (resP dp l y.2 (resC dp s y.1 ids).2.2).1) (u :: us)
    rw [j1]
    refine ⟨?_,d2⟩
    unfold Sh.pv
    cases hag:s.agg with
    | true =>
     obtain ⟨vs,hv⟩:=hform.1 hag
     rw [hv] at hd'
     exact ⟨vs,hv,hd'⟩
    | false =>
     have h1c:=hform.2 hag
     rw [cells_one h1c] at hd'
     generalize (resC dp s y.1 ids).1=cs at *
     match cs,hd' with
     | [c],hd'=>exact hd'.1
   ·show ∀ i ∈ (s.pv (resC dp s y.1 ids).1 :: (resP dp l y.2 (resC dp s y.1 ids).2.2).1).flatMap PV.ids, i ∈ K2
    rw [j1,List.flatMap_cons]
    intro i hi'
    rcases List.mem_append.1 hi' with hi' | hi'
    ·exact (k2 i).2 (.inr (hids i hi'))
    ·exact i2 i hi'
   ·intro i
    rw [k2,k1]
    show i∈(ids.drop s.cnt).take (cntP l)∨i∈ids.take s.cnt∨i∈K↔i∈ids.take (s.cnt+cntP l)∨i∈K
    rw [List.take_add,List.mem_append]
    constructor
    ·rintro (h | h | h)
     ·exact .inl (.inr h)
     ·exact .inl (.inl h)
     ·exact .inr h
    ·rintro ((h | h) | h)
     ·exact .inr (.inl h)
     ·exact .inl h
     ·exact .inr (.inr h)
   ·intro i hi';rw [e2 i ((k1 i).2 (.inr hi')),e1 i hi']
theorem RelE.called (h:RelE w0 Z0 L N K σ a w E Z) {w':World} (hb:Below w.heap.size w w') {Z':Nat→Prop} (hZ:∀ b,Z b→Z' b) (hZn:∀ b,Z' b→Z b∨(w.heap.size≤b∧b < w'.heap.size)):RelE w0 Z0 L N K σ a w' E Z' :=
 h.step (M:=fun _=>False) hb.os hb.tape hb.output hb.size (fun b hlt _=>hb.block b hlt) (fun i hi=>hi) (fun i hi=>.inl hi) (fun i hi=>rfl) (fun _ _ _ _=>rfl) hZ (fun b hz=>by rcases hZn b hz with h | h;exact .inl h;exact .inr ⟨h.2,.inl h.1⟩)
  (fun o x ho=>.inl ⟨fun h=>h,ho⟩) (fun o x o' x' ho _ _ hc=>absurd ⟨fun h=>h,ho⟩ hc) h.defers h.size (fun t=>.inl ⟨rfl,rfl⟩)
theorem resOwn_rd {dp:Bool} {Zr:Nat→Prop}:∀ (s:Sh) {cs:List Value} {y:s.D} {F:List Nat},resOwn Z w dp s cs y F→(∀ b,Z b→Zr b)→(∀ b∈F,Zr b)→s.rd w Zr cs y
 | .int _,_,_,_,h,_,_=>h.1
 | .bool _,_,_,_,h,_,_=>h.1
 | .u8 _,_,_,_,h,_,_=>⟨h.1,h.2.1⟩
 | .str _,_,_,_,h,_,_=>h.1
 | .pair p q, _, _, _, h, hZ, hF => by
  obtain ⟨c,d,G,H,rfl,rfl,h1,h2⟩:=h
  exact ⟨c,d,rfl,resOwn_rd p h1 hZ fun b hb=>hF b (List.mem_append.2 (.inl hb)),resOwn_rd q h2 hZ fun b hb=>hF b (List.mem_append.2 (.inr hb))⟩
 | .st _ p,_,y,_,h,hZ,hF=>resOwn_rd p (y:=y) h hZ hF
 | .sl t p, _, _, _, h, hZ, hF => by
  obtain ⟨v,vs,Fs,rfl,h1,h2,rfl⟩:=h
  exact rd_of_row (t:=t) h1 (h2.rd hZ fun b hb=>hF b (List.mem_append.2 (.inr hb))) fun b hb=>hF b (List.mem_append.2 (.inl hb))
theorem frz_den {dp:Bool} {Zr:Nat→Prop}:∀ (l:List Sh) {us:List Value} {y:Dom l} {F:List Nat},resAll Z w dp l us y F→(∀ b,Z b→Zr b)→(∀ b∈F,Zr b)→pdens E Zr w (frzP l y) us∧(frzP l y).flatMap PV.ids=[]
 | [], us, y, F, h, _, _ => by
  match us,h with
  | [],_=>exact ⟨trivial,rfl⟩
 | s :: l, us, y, F, h, hZ, hF => by
  match us,h with
  | u :: us, h =>
   obtain ⟨G,H,rfl,h1,hform,h2⟩:=h
   have hrd:=resOwn_rd s h1 hZ fun b hb=>hF b (List.mem_append.2 (.inl hb))
   have hd:=s.cvs_den (E:=E) hrd
   have ih:=frz_den l h2 hZ fun b hb=>hF b (List.mem_append.2 (.inr hb))
   have hids:=s.cvs_ids false y.1
   refine ⟨⟨?_,ih.1⟩,?_⟩
   ·show (s.pv (s.cvs false y.1)).den E Zr w u
    unfold Sh.pv
    cases hag:s.agg with
    | true =>
     obtain ⟨vs,hv⟩:=hform.1 hag
     rw [hv] at hd
     exact ⟨vs,hv,hd⟩
    | false =>
     have h1c:=hform.2 hag
     rw [cells_one h1c] at hd
     generalize s.cvs false y.1=cs at *
     match cs,hd with
     | [c],hd=>exact hd.1
   ·show (s.pv (s.cvs false y.1) :: frzP l y.2).flatMap PV.ids = []
    rw [List.flatMap_cons,ih.2,List.append_nil]
    unfold Sh.pv
    cases hag:s.agg with
    | true=>exact hids
    | false =>
     generalize s.cvs false y.1=cs at *
     cases cs with
     | nil=>rfl
     | cons c cs=>rw [List.flatMap_cons] at hids;exact (List.append_eq_nil_iff.1 hids).1
theorem args_den {Zr:Nat→Prop}:∀ (l:List Sh) {us:List Value} {y:Dom l},argsRd w Zr l us y→pdens E Zr w (frzP l y) us∧(frzP l y).flatMap PV.ids=[]
 | [], us, y, h => by
  match us,h with
  | [],_=>exact ⟨trivial,rfl⟩
 | s :: l, us, y, h => by
  match us,h with
  | u :: us, h =>
   obtain ⟨⟨hrd,hform⟩,h2⟩:=h
   have hd:=s.cvs_den (E:=E) hrd
   have ih:=args_den l h2
   have hids:=s.cvs_ids false y.1
   refine ⟨⟨?_,ih.1⟩,?_⟩
   ·show (s.pv (s.cvs false y.1)).den E Zr w u
    unfold Sh.pv
    cases hag:s.agg with
    | true =>
     obtain ⟨vs,hv⟩:=hform.1 hag
     rw [hv] at hd
     exact ⟨vs,hv,hd⟩
    | false =>
     have h1c:=hform.2 hag
     rw [cells_one h1c] at hd
     generalize s.cvs false y.1=cs at *
     match cs,hd with
     | [c],hd=>exact hd.1
   ·show (s.pv (s.cvs false y.1) :: frzP l y.2).flatMap PV.ids = []
    rw [List.flatMap_cons,ih.2,List.append_nil]
    unfold Sh.pv
    cases hag:s.agg with
    | true=>exact hids
    | false =>
     generalize s.cvs false y.1=cs at *
     cases cs with
     | nil=>rfl
     | cons c cs=>rw [List.flatMap_cons] at hids;exact (List.append_eq_nil_iff.1 hids).1
theorem tup_den {l:List PV} {us:List Value} (h:pdens E Z w l us):(tupA l).den E Z w (tupV us):=by
 match l,us,h with
 | [],[],_=>exact ⟨[],rfl,trivial⟩
 | [p],[u],h=>exact h.1
 | p::q::l,u::v::us,h=>exact ⟨u::v::us,rfl,h⟩
theorem tup_ids (l:List PV):∀ i∈(tupA l).ids,i∈l.flatMap PV.ids:=by
 match l with
 | []=>simp [tupA,AV.ids]
 | [p]=>simp [tupA,AV.ids]
 | p::q::l=>intro i hi;exact hi
theorem resOwn_deep {Z1 Z2:Nat→Prop}:∀ (s:Sh) {cs:List Value} {y:s.D} {G:List Nat},resOwn Z1 w true s cs y G→resOwn Z2 w true s cs y G
 | .int _,_,_,_,h=>h
 | .bool _,_,_,_,h=>h
 | .u8 _,_,_,_,h=>h
 | .str _,_,_,_,h=>h
 | .pair p q,_,_,_,h=>by obtain ⟨c,d,G,H,e1,e2,h1,h2⟩:=h;exact ⟨c,d,G,H,e1,e2,resOwn_deep p h1,resOwn_deep q h2⟩
 | .st _ p,_,y,_,h=>resOwn_deep p (y:=y) h
 | .sl _ p,_,_,_,h=>by obtain ⟨v,vs,Fs,e1,h1,h2,e2⟩:=h;exact ⟨v,vs,Fs,e1,h1,h2,e2⟩
theorem resAll_deep {Z1 Z2:Nat→Prop}:∀ (l:List Sh) {us:List Value} {y:Dom l} {F:List Nat},resAll Z1 w true l us y F→resAll Z2 w true l us y F
 | [],us,y,F,h=>by match us,h with | [],h=>exact h
 | s :: l, us, y, F, h => by
  match us,h with
  | u::us,h=>obtain ⟨G,H,e1,k1,k2,k3⟩:=h;exact ⟨G,H,e1,resOwn_deep s k1,k2,resAll_deep l k3⟩
theorem call_ends (h:RelE w0 Z0 L N K σ a w E Z) {md:Md} {d:Option Nat} {f:FuncId} {S:Sum} {e:Eff} {ps:List PV} {us:List Value} (hok:∀ w,SameBut L w0 w→FnOKat P f S w) (hpd:pdens E Z w ps us)
  (hids:∀ i∈md.ids,i ∉ K) (hnd:md.ids.Nodup) (hdst:∀ d',d=some d'→d' < N) (hr:(S.call md ps).run σ=some e) (ho:AllP ((S.call md ps).obl σ)):CallEnds P w0 Z0 L N (md.ids++K) σ a w d f us e:=by
 obtain ⟨x,hx,hxo,hr2,ho2⟩:=bind_split hr ho
 obtain ⟨hpre,hr3,ho3⟩:=need_split hr2 ho2
 clear hr ho hr2 ho2
 -- what the callee may read
 let Zc:Nat→Prop:=fun b=>bif S.dp then b < w.heap.size else Z b
 have hZc:∀ b,Z b→Zc b:=fun b hb=>by
  show bif S.dp then b < w.heap.size else Z b
  cases S.dp
  ·exact hb
  ·exact h.zlt b hb
 have hZlt:∀ b,Zc b→b < w.heap.size:=fun b hb=>by
  have hb:bif S.dp then b < w.heap.size else Z b:=hb
  cases hS':S.dp with
  | false=>rw [hS'] at hb;exact h.zlt b hb
  | true=>rw [hS'] at hb;exact hb
 have hargs:=rdArgs_pd h hZc S.dp (fun hdp o x ho b hb=>by show bif S.dp then b < w.heap.size else Z b;rw [hdp];exact (h.free o x ho b hb).1) hpd hx hxo
 have hcall:=hok w h.frame Zc _ x hZlt hargs hpre
 refine hcall.mono ?_
 cases hSf:S.fz with
 | true =>
  rw [hSf,cond_true] at hr3
  cases hdp:S.dp with
  | true=>rw [hdp] at hr3;cases hr3
  | false =>
  rw [hdp,cond_false] at hr3
  have e1:=ret_some hr3;subst e1
  intro e' w' hret
  unfold Sum.Ret at hret
  rw [hSf,cond_true] at hret
  obtain ⟨rs,rfl,hres,hbel⟩:=hret
  refine ⟨tupV rs,rfl,?_⟩
  let Z':Nat→Prop:=fun b=>Z b∨(w.heap.size≤b∧b < w'.heap.size)
  have h1:=h.called hbel (Z':=Z') (fun b hb=>.inl hb) (fun b hb=>hb)
  have hzz:(fun b=>Zc b∨(w.heap.size≤b∧b < w'.heap.size))=Z':=by
   funext b
   show (_∨_)=(_∨_)
   have:Zc b=Z b:=by show (bif S.dp then b < w.heap.size else Z b)=Z b;rw [hdp];rfl
   rw [this]
  rw [hzz] at hres
  have hfd:=args_den (E:=E) S.cod hres
  exact h1.val hdst (tup_den hfd.1) (fun i hi=>by have:=tup_ids _ i hi;rw [hfd.2] at this;simp at this) _
 | false =>
 rw [hSf,cond_false] at hr3
 intro e' w' hret
 unfold Sum.Ret at hret
 rw [hSf,cond_false] at hret
 obtain ⟨rs,F,rfl,hres,hFn,hF,hbel⟩:=hret
 refine ⟨tupV rs,rfl,?_⟩
 cases hfz:md.frz with
 | true =>
  rw [hfz,cond_true] at hr3
  have e1:=ret_some hr3;subst e1
  let Z':Nat→Prop:=fun b=>Z b∨(w.heap.size≤b∧b < w'.heap.size)
  cases hdp:S.dp with
  | false =>
   have h1:=h.called hbel (Z':=Z') (fun b hb=>.inl hb) (fun b hb=>hb)
   have hfd:=frz_den (E:=E) (Zr:=Z') S.cod hres (fun b hb=>by
    rcases hb with hb | hb
    ·have hb : bif S.dp then b < w.heap.size else Z b := hb
     rw [hdp] at hb;exact .inl hb
    ·exact .inr ⟨hb.1,hb.2.1⟩) (fun b hb=>.inr (hF b hb))
   exact h1.val hdst (tup_den hfd.1) (fun i hi=>by have:=tup_ids _ i hi;rw [hfd.2] at this;simp at this) _
  | true =>
   -- all that a deep result leads to is its own
   have hres':resAll (fun b=>False) w' true S.cod rs (S.g x) F:=by rw [hdp] at hres;exact resAll_deep _ hres
   have h1:=h.called hbel (Z':=Z') (fun b hb=>.inl hb) (fun b hb=>hb)
   have hfd:=frz_den (E:=E) (Zr:=Z') S.cod hres' (fun b hb=>hb.elim) (fun b hb=>.inr (hF b hb))
   exact h1.val hdst (tup_den hfd.1) (fun i hi=>by have:=tup_ids _ i hi;rw [hfd.2] at this;simp at this) _
 | false =>
  rw [hfz,cond_false] at hr3 
  obtain ⟨hcnt,hr4⟩:=bif_some hr3
  have hcnt:=Nat.le_of_ble_eq_true hcnt
  have e1:=ret_some hr4;subst e1
  have fin:∀ Z':Nat→Prop,(∀ b,Z b→Z' b)→(∀ b,Z' b→Z b∨(w.heap.size≤b∧b < w'.heap.size∧b ∉ F))→resAll Z' w' S.dp S.cod rs (S.g x) F →
    Post w0 Z0 L N (md.ids++K) σ a d ⟨tupA (resP S.dp S.cod (S.g x) md.ids).1,(resP S.dp S.cod (S.g x) md.ids).2⟩ (tupV rs) w':=by
   intro Z' hz1 hz2 hres'
   have h1:=h.called hbel hz1 (fun b hb=>by rcases hz2 b hb with h' | h';exact .inl h';exact .inr ⟨h'.1,h'.2.1⟩)
   obtain ⟨E',K',r1,d1,i1,k1,e1⟩:=adopt_all S.cod h1 hres' hFn (fun b hb=>by
    have hbF:=hF b hb
    refine ⟨hbF.2,fun hz=>?_,?_,fun o x ho hb'=>?_⟩
    ·rcases hz2 b hz with h' | h'
     ·have:=h.zlt b h';omega
     ·exact h'.2.2 hb
    ·have:=h.frame.size;exact .inl (by omega)
    ·have:=(h.free o x ho b hb').1;omega) hnd hids hcnt
   have hv:=r1.val hdst (tup_den d1) (fun i hi=>i1 i (tup_ids _ i hi)) []
   obtain ⟨E2,Z2,hv⟩:=hv
   have:RelE w0 Z0 L N ([]++K') (σ.app d ⟨tupA (resP S.dp S.cod (S.g x) md.ids).1,(resP S.dp S.cod (S.g x) md.ids).2⟩) (a.put d (tupV rs)) w' E2 Z2:=by
    have e:σ.app d ⟨tupA (resP S.dp S.cod (S.g x) md.ids).1,(resP S.dp S.cod (S.g x) md.ids).2⟩=(σ.add (resP S.dp S.cod (S.g x) md.ids).2).app d ⟨tupA (resP S.dp S.cod (S.g x) md.ids).1,[]⟩:=by
     cases d<;>rfl
    rw [e];exact hv
   exact more_post this (fun i hi=>by
    rcases (k1 i).1 hi with h' | h'
    ·exact List.mem_append.2 (.inl (List.mem_of_mem_take h'))
    ·exact List.mem_append.2 (.inr h'))
  cases hdp:S.dp with
  | false =>
   rw [← hdp]
   refine fin (fun b=>Zc b∨(w.heap.size≤b∧b < w'.heap.size∧b ∉ F)) (fun b hb=>.inl (hZc b hb)) (fun b hb=>?_) hres
   rcases hb with hb | hb
   ·have hb : bif S.dp then b < w.heap.size else Z b := hb
    rw [hdp] at hb;exact .inl hb
   ·exact .inr hb
  | true =>
   rw [← hdp]
   refine fin Z (fun b hb=>hb) (fun b hb=>.inl hb) ?_
   rw [hdp] at hres ⊢
   exact resAll_deep _ hres
end
end Go.Proofs.Ytmcpigcpachdkaa
