/- Maps from numbers: made, looked into, written. No program is named; no condition. -/
import Derived.Test.YtmcpigcpachdkaaPG2
import Derived.MapKept
import Derived.Carry
namespace Go.Proofs.Ytmcpigcpachdkaa
open Go.RowKit Go.MapKept
set_option linter.unusedVariables false
set_option linter.unusedSimpArgs false
theorem mapKind_spec {P:Program} {t:TypeId} {bo:Bool} (h:mapKind P t=some bo):∃ k e,P.underlying t=some (.map k e)∧P.underlying k=some (.int .i64)∧∀ w,(zeroValue e).run P w=.ok (valV bo 0) w:=by
 unfold mapKind at h
 split at h
 ·rename_i k e ht
  split at h
  ·rename_i hk
   refine ⟨k,e,ht,hk,fun w=>?_⟩
   cases hi:P.info? e with
   | none=>rw [hi] at h;cases h
   | some i =>
    rw [hi] at h
    simp only [Option.bind_some] at h
    have key:i.zero=some (valV bo 0):=by
     split at h
     ·rename_i n hn
      cases hd:decide (n=0) with
      | true=>rw [hd] at h;cases h;rw [hn,of_decide_eq_true hd];rfl
      | false=>rw [hd] at h;cases h
     ·rename_i b hn
      cases b with
      | true=>cases h
      | false=>cases h;rw [hn];rfl
     ·cases h
    simp [zeroValue,typeInfo,hi,key]
  ·cases h
 ·cases h
theorem midx_find {bo:Bool} {n:Int}:∀ {ms:List MapEntry} {es:List (Int×Int)} (i:Nat),ms.map (fun e=>(e.key,e.val))=es.map (fun p=>(Value.int .i64 p.1,valV bo p.2)) →
  Instr.findNow (.int .i64) (.int .i64 n) ms i=some ((midx es n).map fun j=>(i+j,valV bo (es.getD j (0,0)).2))
 | [],[],i,_=>rfl
 | [],_::_,_,h=>by simp at h
 | _::_,[],_,h=>by simp at h
 | e :: ms, p :: es, i, h => by
  simp only [List.map_cons,List.cons.injEq,Prod.mk.injEq] at h
  obtain ⟨⟨hk,hv⟩,ht⟩:=h
  have ih:=midx_find (n:=n) (i+1) ht
  have hs:Instr.sameNow (.int .i64) (.int .i64 n) e.key=some (n==p.1):=by rw [hk];simp [Instr.sameNow]
  simp only [Instr.findNow,hs]
  by_cases hn:n=p.1
  ·rw [show (n == p.1) = true by simpa using hn]
   simp [midx,hn,hv]
  ·rw [show (n == p.1) = false by simpa using hn]
   simp only [midx,decide_eq_false hn,cond_false,ih]
   cases midx es n with
   | none=>rfl
   | some j=>simp;omega
theorem midx_no {n:Int}:∀ {es:List (Int×Int)},midx es n=none→∀ p∈es,p.1≠n
 | [],_,p,hp=>by cases hp
 | q :: es, h, p, hp => by
  unfold midx at h
  by_cases hn:n=q.1
  ·rw [decide_eq_true hn,cond_true] at h;cases h
  ·rw [decide_eq_false hn, cond_false] at h
   have hm:midx es n=none:=by
    cases hm:midx es n with
    | none=>rfl
    | some k=>rw [hm] at h;cases h
   rcases List.mem_cons.1 hp with rfl | hp
   ·exact fun e=>hn e.symm
   ·exact midx_no hm p hp
theorem mset_i64 {n v:Int} {es:List (Int×Int)} (h:∀ p∈es,I64 p.1) (hn:I64 n):∀ p∈mset es n v,I64 p.1:=by
 unfold mset
 split
 ·intro p hp
  rcases List.mem_or_eq_of_mem_set hp with hp | hp
  ·exact h p hp
  ·rw [hp];exact hn
 ·intro p hp
  rcases List.mem_append.1 hp with hp | hp
  ·exact h p hp
  ·rw [List.mem_singleton.1 hp];exact hn
theorem midx_some {n:Int}:∀ {es:List (Int×Int)} {j:Nat},midx es n=some j→j < es.length∧(es.getD j (0,0)).1=n
 | [],_,h=>by cases h
 | p :: es, j, h => by
  unfold midx at h
  by_cases hn:n=p.1
  ·rw [decide_eq_true hn, cond_true] at h
   cases h
   exact ⟨by simp,by simpa using hn.symm⟩
  ·rw [decide_eq_false hn, cond_false] at h
   cases hm:midx es n with
   | none=>rw [hm] at h;cases h
   | some k =>
    rw [hm] at h
    simp only [Option.map_some,Option.some.injEq] at h
    subst h
    have:=midx_some hm
    exact ⟨by simp;omega,by simpa using this.2⟩
section
variable {P:Program} {w0:World} {Z0:Nat→Prop} {L:List Nat} {N:Nat} {K:List Nat} {σ:St} {a:Act} {w:World} {E:Env} {Z:Nat→Prop}
theorem makeMapM_ends (h:RelE w0 Z0 L N K σ a w E Z) {o:Oper} {md:Md} {t:TypeId} {e:Eff} (hop:o.op=.makeMap t none) (hids:∀ i∈md.ids,i ∉ K) (hdst:∀ d',o.dst=some d'→d' < N) (hr:(makeMapM P md t).run σ=some e) (ho:AllP ((makeMapM P md t).obl σ)):Ends P w0 Z0 L N (md.ids++K) σ a w o e:=by
 obtain ⟨id,ids,hi,hr1,ho1⟩:=newId_some hr ho
 obtain ⟨bo,hb,hr2⟩:=RM.run_bind hr1
 have e1:=ret_some hr2;subst e1
 have hid:id ∉ K:=hids id (by simp [hi])
 intro Q
 refine wp_of_value (v:=.map (some w.heap.size)) (w':=w.alloc (.map #[] 0)) ?_ ?_
 ·simp [execOp,hop,run_makeMap]
 ·rw [hi]
  have:=h.turn (id:=id) hid (cons:=[]) (by simp) (w':=w.alloc (.map #[] 0)) rfl rfl rfl (by simp) (fun b hb _=>Below.heap_alloc w _ b hb) (ob:=.mp bo []) (hd:=.map (some w.heap.size)) (F:=[w.heap.size])
   ⟨w.heap.size,#[],0,rfl,rfl,(heap_alloc w _).1,rfl,stamped_empty 0,fun p hp=>by cases hp⟩ (by simp) (by simp) rfl (by simp [Ob.ids]) (av:=.p (.c (.sl id))) (v:=.map (some w.heap.size)) (d:=o.dst)
   (show (Value.map (some w.heap.size))=(E.set id (.map (some w.heap.size)) [w.heap.size]).hdr id by simp [Env.set]) (by simp [AV.ids,PV.ids,CV.ids]) hdst
  exact more_post this (fun i hi=>by rcases List.mem_cons.1 hi with rfl | hi<;>simp [*])
theorem map_at (h:RelE w0 Z0 L N K σ a w E Z) {m:Operand} {r:Nat} {bo:Bool} {es:List (Int×Int)} (hm:(evalC m).run σ=some (.sl r)) (hob:σ.obj r=some (.mp bo es)) :
  ∃ (b:Nat) (ms:Array MapEntry) (clock:Nat),a.eval m=.map (some b)∧E.hdr r=.map (some b)∧E.fp r=[b]∧w.heap[b]?=some (.map ms clock)∧ms.toList.map (fun e=>(e.key,e.val))=es.map (fun p=>(Value.int .i64 p.1,valV bo p.2))∧Stamped ms clock∧∀ p∈es,I64 p.1:=by
 have h1:a.eval m=E.hdr r:=(evalC_den h hm).1
 obtain ⟨b,ms,clock,h2,h3,h4,h5⟩:=h.obj r _ hob
 exact ⟨b,ms,clock,h1.trans h2,h2,h3,h4,h5⟩
theorem lookupM_den (h:RelE w0 Z0 L N K σ a w E Z) {o:Oper} {t:TypeId} {m k:Operand} {ok:Bool} {e:Eff} (hop:o.op=.lookup t m k ok) (hr:(lookupM P t m k ok).run σ=some e) :
  ∃ v,(execOp a.eval o).run P w=.ok (.value v) w∧e.res.den E Z w v∧(∀ i∈e.res.ids,i∈K)∧e.obs=[]:=by
 unfold lookupM at hr
 obtain ⟨c,hc,hr1⟩:=RM.run_bind hr
 cases c<;>first | (cases hr1;done) | skip
 rename_i r
 obtain ⟨ob,hob,hr2⟩:=obj_some hr1
 cases ob<;>first | (cases hr2;done) | skip
 rename_i bo es
 obtain ⟨bo',hmk,hr3⟩:=RM.run_bind hr2
 obtain ⟨hbo,hr4⟩:=bif_some hr3
 have hbo:bo=bo':=by simpa using hbo
 subst hbo
 obtain ⟨kc,hkc,hr5⟩:=RM.run_bind hr4
 obtain ⟨b,ms,clock,hm1,hm2,hm3,hm4,hm5,hm6,hm7⟩:=map_at h hc hob
 have hkd:=(evalC_den h hkc).1
 obtain ⟨kt,et,ht,hk,hz⟩:=mapKind_spec (orFail_run hmk)
 match kc,hkd,hr5 with
 | .v (.int .i64 n), hkd, hr5 =>
  have hkv:a.eval k=.int .i64 n:=hkd
  have e1:=ret_some hr5;subst e1
  have hf:=Go.MapKept.run_findKey (P:=P) (w:=w) hk (midx_find (bo:=bo) (n:=n) 0 hm5)
  have hck:=Go.MapKept.run_checkKey (P:=P) (w:=w) hk (k:=.int .i64 n) (by simp [IsKey]) ms.isEmpty 9999
  have hrun:(Instr.lookup t (.map (some b)) (.int .i64 n) ok).run P w=.ok (if ok then .tuple #[valV bo ((mget es n).getD 0),.bool (mget es n).isSome] else valV bo ((mget es n).getD 0)) w:=by
   cases hi:midx es n with
   | none =>
    rw [hi] at hf
    simp only [Option.map_none] at hf
    simp [Instr.lookup,run_underlying ht,Go.MapKept.run_getObj_map hm4,hck,hf,hz,Result.andThen,mget,hi]
   | some j =>
    rw [hi] at hf
    simp only [Option.map_some,Nat.zero_add] at hf
    simp [Instr.lookup,run_underlying ht,Go.MapKept.run_getObj_map hm4,hck,hf,Result.andThen,mget,hi]
  refine ⟨_,by simp [execOp,hop,hm1,hkv,hrun];rfl,?_,?_,rfl⟩
  ·cases ok with
   | true=>exact ⟨[_,_],rfl,rfl,rfl,trivial⟩
   | false=>exact rfl
  ·cases ok<;>simp [AV.ids,PV.ids,CV.ids]
theorem mapSet_run {t kt et:TypeId} {bo:Bool} {b clock:Nat} {ms:Array MapEntry} {es:List (Int×Int)} {n x:Int} (ht:P.underlying t=some (.map kt et)) (hk:P.underlying kt=some (.int .i64)) (hb:w.heap[b]?=some (.map ms clock))
  (hl:ms.toList.map (fun e=>(e.key,e.val))=es.map (fun p=>(Value.int .i64 p.1,valV bo p.2))) (hs:Stamped ms clock) :
  ∃ (ms':Array MapEntry) (clock':Nat),(Instr.mapUpdate t (.map (some b)) (.int .i64 n) (valV bo x)).run P w=.ok () { w with heap:=w.heap.setIfInBounds b (.map ms' clock') }∧ms'.toList.map (fun e=>(e.key,e.val))=(mset es n x).map (fun p=>(Value.int .i64 p.1,valV bo p.2))∧Stamped ms' clock':=by
 have hkey:IsKey (.int .i64) (.int .i64 n):=by simp [IsKey]
 have hf:=Go.MapKept.run_findKey (P:=P) (w:=w) hk (midx_find (bo:=bo) (n:=n) 0 hl)
 have hck:=Go.MapKept.run_checkKey (P:=P) (w:=w) hk hkey false 9999
 cases hi:midx es n with
 | none =>
  rw [hi] at hf
  simp only [Option.map_none] at hf
  refine ⟨ms.push ⟨.int .i64 n,valV bo x,clock⟩,clock+1,?_,?_,stamped_push hs fun e he hk=>?_⟩
  ·simp [Instr.mapUpdate,run_underlying ht,Go.MapKept.run_getObj_map hb,hck,hf,Go.MapKept.run_setObj_map _ hb,Result.andThen]
  ·unfold mset; rw [hi]
   simp [hl]
  ·have h1 : (e.key, e.val) ∈ es.map (fun p => (Value.int .i64 p.1, valV bo p.2)) := by rw [← hl]; exact List.mem_map.2 ⟨e, he, rfl⟩
   obtain ⟨p,hp,hpe⟩:=List.mem_map.1 h1
   simp only [Prod.mk.injEq] at hpe
   have:p.1=n:=by have:=hpe.1.trans hk;simpa using this
   exact midx_no hi p hp this
 | some j =>
  rw [hi] at hf
  simp only [Option.map_some,Nat.zero_add] at hf
  obtain ⟨hj,hkj⟩:=midx_some hi
  have hlen:ms.size=es.length:=by have:=congrArg List.length hl;simpa using this
  obtain ⟨e,he⟩:∃ e,ms[j]?=some e:=⟨ms[j]'(by omega),Array.getElem?_eq_getElem _⟩
  have hek:e.key=.int .i64 n:=by
   have h1:(ms.toList.map fun e=>(e.key,e.val))[j]?=some (e.key,e.val):=by
    rw [List.getElem?_map,Array.getElem?_toList,he];rfl
   rw [hl,List.getElem?_map,List.getElem?_eq_getElem hj] at h1
   simp only [Option.map_some,Option.some.injEq,Prod.mk.injEq] at h1
   rw [← h1.1]
   have:(es[j]).1=n:=by
    rw [List.getD_eq_getElem?_getD,List.getElem?_eq_getElem hj] at hkj;exact hkj
   rw [this]
  refine ⟨ms.modify j fun e=>{ e with key:=.int .i64 n,val:=valV bo x },clock,?_,?_,stamped_modify hs _ _ (fun _ _=>rfl) fun e' _ he'=>?_⟩
  ·simp [Instr.mapUpdate,run_underlying ht,Go.MapKept.run_getObj_map hb,hck,hf,he,hek,Go.MapKept.run_keyThatStays hkey,Go.MapKept.run_setObj_map _ hb,Result.andThen]
  ·unfold mset; rw [hi]
   simp only
   apply List.ext_getElem?
   intro i
   have hli:(ms.toList.map fun e=>(e.key,e.val))[i]?=(es.map fun p=>(Value.int .i64 p.1,valV bo p.2))[i]?:=by rw [hl]
   rw [List.getElem?_map,List.getElem?_map,List.getElem?_set,Array.getElem?_toList,Array.getElem?_modify]
   rw [List.getElem?_map,List.getElem?_map,Array.getElem?_toList] at hli
   by_cases hji:j=i
   ·subst hji
    rw [if_pos rfl,if_pos rfl,if_pos hj,he];rfl
   ·rw [if_neg hji,if_neg hji];exact hli
  ·rw [he] at he';cases he';exact hek.symm
theorem mapUpdM_ends (h:RelE w0 Z0 L N K σ a w E Z) {o:Oper} {md:Md} {t:TypeId} {m k v:Operand} {e:Eff} (hop:o.op=.mapUpdate t m k v∨o.op=.insert t m k v) (hdst:∀ d',o.dst=some d'→d' < N) (hr:(mapUpdM P t m k v).run σ=some e) (ho:AllP ((mapUpdM P t m k v).obl σ)):Ends P w0 Z0 L N (md.ids++K) σ a w o e:=by
 unfold mapUpdM at hr ho
 obtain ⟨c,hc,_,hr1,ho1⟩:=bind_split hr ho
 cases c<;>first | (cases hr1;done) | skip
 rename_i r
 obtain ⟨ob,hob,hr2,ho2⟩:=obj_split hr1 ho1
 cases ob<;>first | (cases hr2;done) | skip
 rename_i bo es
 obtain ⟨bo',hmk,_,hr3,ho3⟩:=bind_split hr2 ho2
 obtain ⟨hbo,hr4,ho4⟩:=bif_split hr3 ho3
 have hbo:bo=bo':=by simpa using hbo
 subst hbo
 obtain ⟨kc,hkc,_,hr5,ho5⟩:=bind_split hr4 ho4
 obtain ⟨b,ms,clock,hm1,hm2,hm3,hm4,hm5,hm6,hm7⟩:=map_at h hc hob
 have hkd:=(evalC_den h hkc).1
 obtain ⟨kt,et,ht,hk,hz⟩:=mapKind_spec (orFail_run hmk)
 match kc,hkd,hr5,ho5 with
 | .v (.int .i64 n), hkd, hr5, ho5 =>
  have hkv:a.eval k=.int .i64 n:=hkd
  obtain ⟨vc,hvc,_,hr6,ho6⟩:=bind_split hr5 ho5
  have hvd:=(evalC_den h hvc).1
  have key:∀ x:Int,I64 n→a.eval v=valV bo x→e=⟨.p (.c .un),[(r,some (.mp bo (mset es n x)))]⟩→Ends P w0 Z0 L N (md.ids++K) σ a w o e:=by
   intro x hin hx he
   subst he
   obtain ⟨ms',clock',hrun,hl',hst'⟩:=mapSet_run (w:=w) (n:=n) (x:=x) ht hk hm4 hm5 hm6
   have hs:=heap_set (o':=.map ms' clock') hm4
   intro Q
   refine wp_of_skip (w':={ w with heap:=w.heap.setIfInBounds b (.map ms' clock') }) (by rcases hop with hop | hop<;>simp [execOp,hop,hm1,hkv,hx,hrun]) ?_
   have hZb:¬ Z b:=(h.free r _ hob b (by rw [hm3];simp)).2.1
   have this1:=h.upd hob (x':=.mp bo (mset es n x)) (cons:=[]) (by simp) (by simp) (w':={ w with heap:=w.heap.setIfInBounds b (.map ms' clock') }) (F:=E.fp r) rfl rfl rfl (by simp)
    (fun b' hb' hbr _=>hs.2 b' fun e=>hbr (by rw [e,hm3];simp))
    ⟨b,ms',clock',hm2,hm3,hs.1,hl',hst',mset_i64 hm7 hin⟩ (h.nodup r _ hob) (fun b' hb'=>⟨by simpa using (h.free r _ hob b' hb').1,.inl hb'⟩) (by simp [Ob.ids]) (d:=o.dst) (v:=undef) hdst
   exact more_post this1 (fun i hi=>List.mem_append.2 (.inr hi))
  match vc,hvd,hr6,ho6 with
  | .v (.int .i64 x), hvd, hr6, ho6 =>
   cases bo with
   | true=>cases hr6
   | false =>
    obtain ⟨hin,hr7,_⟩:=need_split hr6 ho6
    exact key x hin hvd (ret_some hr7)
  | .v (.bool x), hvd, hr6, ho6 =>
   cases bo with
   | false=>cases hr6
   | true =>
    obtain ⟨hin,hr7,_⟩:=need_split hr6 ho6
    refine key (bif x then 1 else 0) hin ?_ (ret_some hr7)
    have hvd:a.eval v=.bool x:=hvd
    rw [hvd];cases x<;>rfl
end
end Go.Proofs.Ytmcpigcpachdkaa
