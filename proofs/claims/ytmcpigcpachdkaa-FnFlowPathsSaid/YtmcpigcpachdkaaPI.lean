/- Aggregates, slices made, grown and cut: what is known afterwards holds. No program is named; no condition. -/
import Derived.Test.YtmcpigcpachdkaaPH
import Derived.Great.BuildSlice
namespace Go.Proofs.Ytmcpigcpachdkaa
open Go.RowKit
set_option linter.unusedVariables false
set_option linter.unusedSimpArgs false
def GamOK (P:Program) (Γ:Gam):Prop:=∀ t s b,look Γ t=some (s,b)→Elem P t s.ty s.zs b
section
variable {P:Program} {w0:World} {Z0:Nat→Prop} {L:List Nat} {N:Nat} {K:List Nat} {σ:St} {a:Act} {w:World} {E:Env} {Z:Nat→Prop}
theorem fold_set:∀ (us:List Value) (off k:Nat) (cells:List Value),off+k+us.length≤cells.length →
  (us.zipIdx k).foldl (fun (cs:Array Value) (p:Value×Nat)=>cs.setIfInBounds (off+p.2) p.1) cells.toArray=(cells.take (off+k)++us++cells.drop (off+k+us.length)).toArray
 | [],off,k,cells,_=>by simp
 | u :: us, off, k, cells, h => by
  simp only [List.length_cons] at h
  simp only [List.zipIdx_cons,List.foldl_cons,List.setIfInBounds_toArray]
  rw [fold_set us off (k+1) (cells.set (off+k) u) (by simp;omega)]
  congr 1
  rw [← Nat.add_assoc,List.take_succ_eq_append_getElem (by simp;omega),List.take_set_of_le (Nat.le_refl _),List.getElem_set_self,List.drop_set_of_lt (by omega)]
  simp only [List.append_assoc,List.cons_append,List.nil_append,List.length_cons]
  rw [show off+k+1+us.length=off+k+(us.length+1) by omega]
theorem fold_set' (us:Array Value) (off:Nat) (cells:Array Value) (h:off+us.size≤cells.size) :
  us.zipIdx.foldl (fun (cs:Array Value) (p:Value×Nat)=>cs.setIfInBounds (off+p.2) p.1) cells=(cells.toList.take off++us.toList++cells.toList.drop (off+us.size)).toArray:=by
 have:=fold_set us.toList off 0 cells.toList (by simpa using h)
 simp only [Nat.add_zero,Array.toArray_toList,Array.length_toList] at this
 rw [← this,← Array.foldl_toList,Array.toList_zipIdx]
theorem fill_step {place:Nat→Option (Nat×Nat)} {i off size:Nat} {v:Value} {rest:List (Nat×Value)} {cells:Array Value} (hp:place i=some (off,size)) (hs:v.cells.size=size) (hl:off+v.cells.size≤cells.size) :
  Instr.fill place cells ((i,v)::rest)=Instr.fill place (cells.toList.take off++v.cells.toList++cells.toList.drop (off+v.cells.size)).toArray rest:=by
 rw [Instr.fill,hp]
 simp only [hs,ne_eq,not_true_eq_false,decide_false,Bool.false_or]
 rw [if_neg (by simp;omega)]
 have:=fold_set' v.cells off cells hl
 rw [hs] at this
 rw [← this]
theorem fillM_den (h:RelE w0 Z0 L N K σ a w E Z) {places:List (Nat×Nat)}:∀ {ps:List (Nat×Operand)} {l l':List CV} {vs:List Value},(fillM places ps l).run σ=some l'→AllP ((fillM places ps l).obl σ)→dens E Z w l vs→(∀ i∈l.flatMap CV.ids,i∈K) →
  ∃ vs',Instr.fill (fun x=>places[x]?) vs.toArray (ps.map fun p=>(p.1,a.eval p.2))=some vs'.toArray∧dens E Z w l' vs'∧∀ i∈l'.flatMap CV.ids,i∈K
 | [], l, l', vs, hr, _, hd, hi => by
  have e1:=ret_some hr;subst e1
  exact ⟨vs,rfl,hd,hi⟩
 | (i, x) :: ps, l, l', vs, hr, ho, hd, hi => by
  unfold fillM at hr ho
  obtain ⟨f,hf,_,hr1,ho1⟩:=bind_split hr ho
  obtain ⟨cs,hcs,_,hr2,ho2⟩:=bind_split hr1 ho1
  obtain ⟨hb,hr3,ho3⟩:=bif_split hr2 ho2
  simp only [Bool.and_eq_true] at hb
  have h1:=Nat.eq_of_beq_eq_true hb.1.1
  have h2:=Nat.le_of_ble_eq_true hb.1.2
  have hcd:=evalCells_den h hcs hb.2
  have hul:=hcd.1.len
  have hvl:=hd.len
  have hp:=dens_put (k:=f.1) hd hcd.1
  obtain ⟨vs',k1,k2,k3⟩:=fillM_den h hr3 ho3 hp (fun i hi'=>by
   rcases put_ids hi' with hi' | hi'
   ·exact hi i hi'
   ·exact hcd.2.2 i hi')
  refine ⟨vs',?_,k2,k3⟩
  have hsz:(a.eval x).cells.size=f.2:=by rw [← Array.length_toList];omega
  rw [List.map_cons,fill_step (off:=f.1) (size:=f.2) (orFail_run hf) hsz (by simp only [List.size_toArray];omega)]
  simp only [Array.length_toList] at k1
  exact k1
theorem buildM_den (h:RelE w0 Z0 L N K σ a w E Z) {t:TypeId} {parts:Array (Nat×Operand)} {e:Eff} (hr:(buildM P t parts.toList).run σ=some e) (ho:AllP ((buildM P t parts.toList).obl σ)) :
  ∃ v,(Instr.build t (parts.map fun (i,x)=>(i,a.eval x))).run P w=.ok v w∧e.res.den E Z w v∧(∀ i∈e.res.ids,i∈K)∧e.obs=[]:=by
 obtain ⟨z,hz,_,hr1,ho1⟩:=bind_split hr ho
 obtain ⟨pl,hpl,_,hr2,ho2⟩:=bind_split hr1 ho1
 obtain ⟨l,hl,hlo,hr3,_⟩:=bind_split hr2 ho2
 have e1:=ret_some hr3;subst e1
 replace hz:=orFail_run hz
 replace hpl:=orFail_run hpl
 obtain ⟨vs',k1,k2,k3⟩:=fillM_den h hl hlo (dens_exact z) (by rw [ids_exact];simp)
 refine ⟨.agg vs'.toArray,?_,⟨vs',rfl,k2⟩,k3,rfl⟩
 refine run_build w t _ _ ?_
 unfold placesOf at hpl
 unfold zeroCells at hz
 unfold Program.built
 cases hu:P.underlying t with
 | none=>rw [hu] at hpl;cases hpl
 | some d =>
  rw [hu] at hpl
  cases d<;>simp only [reduceCtorEq] at hpl
  rename_i fs
  cases hi:P.info? t with
  | none=>rw [hi] at hz;cases hz
  | some it =>
   rw [hi] at hz
   simp only [Option.bind_some,Option.map_eq_some_iff] at hz
   obtain ⟨zv,hzv,hz2⟩:=hz
   simp only [hzv,hpl]
   subst hz2
   simp only [Array.toArray_toList] at k1
   rw [← k1]
   congr 1
   ·funext x;simp
   ·simp
theorem new_owns (w:World) (e:TypeId) (s n:Nat) (cells:List Value) (hl:cells.length=n*s) (hn:n≤maxLen):ownsRw (w.alloc (.cells cells.toArray e)) 0 e s (.slice (some ⟨w.heap.size,0,none⟩) n n) n cells :=
 ⟨hl,.inr ⟨w.heap.size,0,n,cells.toArray,rfl,Nat.zero_le _,heap_alloc_new w _,Nat.le_refl _,hn,by simp [hl],by rw [List.drop_zero,← hl,List.take_length]⟩⟩
theorem elemsM_els (h:RelE w0 Z0 L N K σ a w E Z) {dp:Bool} {s:Sh}:∀ {ps:List (Nat×Operand)} {k:Nat} {ys:List s.D} {ids:List Nat},(elemsM dp s k ps).run σ=some (ys,ids)→AllP ((elemsM dp s k ps).obl σ) →
  ∃ vs Fs,Els Z w dp s vs ys Fs∧Fs.flatten=ids.flatMap E.fp∧(∀ m∈ids,∃ y,σ.obj m=some y)∧ys.length=ps.length∧(∀ u∈vs.flatten,u.oneCell'=true) ∧
   ∀ (done rest:List Value),done.length=k*s.size→ps.length*s.size≤rest.length→Instr.fill (fun i=>some (i*s.size,s.size)) (done++rest).toArray (ps.map fun p=>(p.1,a.eval p.2))=some (done++vs.flatten++rest.drop (ps.length*s.size)).toArray
 | [], k, ys, ids, hr, _ => by
  have e1:=ret_some hr;cases e1
  refine ⟨[],[],?_,rfl,by simp,rfl,by simp,fun done rest _ _=>by simp [Instr.fill]⟩
  cases dp
  ·exact ⟨trivial,rfl⟩
  ·trivial
 | (i, x) :: ps, k, ys, ids, hr, ho => by
  unfold elemsM at hr ho
  obtain ⟨hik,hr0,ho0⟩:=bif_split hr ho
  have hik:=Nat.eq_of_beq_eq_true hik
  subst hik
  obtain ⟨cs,hcs,_,hr1,ho1⟩:=bind_split hr0 ho0
  obtain ⟨hb,hr2,ho2⟩:=bif_split hr1 ho1
  simp only [Bool.and_eq_true] at hb
  obtain ⟨⟨y,id1⟩,hy,hyo,hr3,ho3⟩:=bind_split hr2 ho2
  obtain ⟨⟨ys',id2⟩,hys,hyso,hr4,_⟩:=bind_split hr3 ho3
  have e1:=ret_some hr4;cases e1
  have hcd:=evalCells_den h hcs hb.2
  have hul:=hcd.1.len
  have hcl:=Nat.eq_of_beq_eq_true hb.1
  obtain ⟨k1,k2⟩:=takeC_el h hy hyo hcd.1
  obtain ⟨vs,Fs,j1,j2,j3,j4,j6,j5⟩:=elemsM_els h hys hyso
  refine ⟨(a.eval x).cells.toList::vs,(bif dp then id1.flatMap E.fp::Fs else []),?_,?_,?_,by simp [j4],?_,?_⟩
  ·cases dp
   ·exact ⟨⟨k1.1,j1.1⟩,rfl⟩
   ·exact ⟨k1,j1⟩
  ·rw [List.flatMap_append]
   cases dp
   ·rw [j1.2] at j2
    rw [← j2,k1.2];rfl
   ·show (id1.flatMap E.fp :: Fs).flatten = _
    rw [List.flatten_cons,j2]
  ·intro m hm
   rcases List.mem_append.1 hm with hm | hm
   ·exact k2 m hm
   ·exact j3 m hm
  ·intro u hu
   rw [List.flatten_cons] at hu
   rcases List.mem_append.1 hu with hu | hu
   ·exact hcd.2.1 u hu
   ·exact j6 u hu
  ·intro done rest hdl hrl
   rw [List.length_cons,Nat.add_mul,Nat.one_mul] at hrl
   have hsz:(a.eval x).cells.size=s.size:=by rw [← Array.length_toList];omega
   rw [List.map_cons,fill_step (off:=i*s.size) (size:=s.size) rfl hsz (by simp only [List.size_toArray,List.length_append];omega)]
   have e1:(done++rest).toArray.toList.take (i*s.size)++(a.eval x).cells.toList++(done++rest).toArray.toList.drop (i*s.size+(a.eval x).cells.size)=(done++(a.eval x).cells.toList)++rest.drop s.size:=by
    simp only [hsz]
    rw [← hdl,List.take_left,List.drop_length_add_append]
   rw [e1,j5 (done++(a.eval x).cells.toList) (rest.drop s.size) (by rw [List.length_append,hdl,Nat.add_mul];omega) (by rw [List.length_drop];omega)]
   simp only [List.flatten_cons,List.append_assoc,List.drop_drop,List.length_cons,Nat.add_mul,Nat.one_mul]
   rw [Nat.add_comm s.size]
theorem row_new (h:RelE w0 Z0 L N K σ a w E Z) {id:Nat} {ids:List Nat} (hid:id ∉ K) {cons:List Nat} (hcons:∀ m∈cons,∃ y,σ.obj m=some y) {dp:Bool} {s:Sh} {ys:List s.D} {vs:List (List Value)} {Fs:List (List Nat)}
  (hels:Els Z w dp s vs ys Fs) (hFs:∀ b∈Fs.flatten,∃ m∈cons,b∈E.fp m) (hFn:Fs.flatten.Nodup) {w':World} {hd:Value} (hos:w'.os=w.os) (htape:w'.tape=w.tape) (hout:w'.output=w.output) (hsz:w.heap.size≤w'.heap.size) (hblk:∀ b,b < w.heap.size→w'.heap[b]?=w.heap[b]?)
  (hown:ownsRw w' 0 s.ty s.size hd ys.length vs.flatten) (hnew:∀ b∈Value.blk hd,w.heap.size≤b) {d:Option Nat} (hdst:∀ d',d=some d'→d' < N) :
  Post w0 Z0 L N (id::ids++K) σ a d ⟨.p (.c (.sl id)),(id,some (.row dp s ys))::gone cons⟩ hd w':=by
 have hF:∀ b∈Fs.flatten,b < w.heap.size:=fun b hb=>by
  obtain ⟨m,hm,hbm⟩:=hFs b hb
  obtain ⟨y,hy⟩:=hcons m hm
  exact (h.free m y hy b hbm).1
 have:=h.turn (id:=id) hid (cons:=cons) hcons (w':=w') hos htape hout hsz (fun b hb _=>hblk b hb) (ob:=.row dp s ys) (hd:=hd) (F:=Value.blk hd++Fs.flatten)
  ⟨vs,Fs,hown,hels.keep (fun _ h=>h) (fun b hb=>hblk b (h.zlt b hb)) (fun b hb=>hblk b (hF b hb)),rfl⟩
  (List.nodup_append.2 ⟨blk_nodup hd,hFn,fun b hb c hc e=>by have:=hnew b hb;have:=hF c hc;omega⟩)
  (fun b hb => by
   rcases List.mem_append.1 hb with hb | hb
   ·exact ⟨blk_lt hown b hb,.inl (hnew b hb)⟩
   ·have := hF b hb
    obtain ⟨m,hm,hbm⟩:=hFs b hb
    exact ⟨by omega,.inr ⟨m,hm,hbm⟩⟩)
  (by obtain ⟨A,c,e,_⟩:=row_form hown;rw [e];rfl) (by simp [Ob.ids]) (av:=.p (.c (.sl id))) (v:=hd) (d:=d) (by show hd=_;simp [Env.set]) (by simp [AV.ids,PV.ids,CV.ids]) hdst
 exact more_post this (fun i hi=>by rcases List.mem_cons.1 hi with rfl | hi<;>simp [*])
theorem buildSliceM_ends (h:RelE w0 Z0 L N K σ a w E Z) {Γ:Gam} (hΓ:GamOK P Γ) {o:Oper} {md:Md} {t:TypeId} {len:Nat} {parts:Array (Nat×Operand)} {e:Eff} (hop:o.op=.buildSlice t len parts) (hids:∀ i∈md.ids,i ∉ K) (hdst:∀ d',o.dst=some d'→d' < N)
  (hr:(buildSliceM Γ md t len parts.toList).run σ=some e) (ho:AllP ((buildSliceM Γ md t len parts.toList).obl σ)):Ends P w0 Z0 L N (md.ids++K) σ a w o e:=by
 obtain ⟨id,ids,hi,hr1,ho1⟩:=newId_some hr ho
 obtain ⟨⟨s,by_⟩,he,_,hr2,ho2⟩:=bind_split hr1 ho1
 have EL:=hΓ t s by_ (orFail_run he)
 obtain ⟨hb,hr3,ho3⟩:=bif_split hr2 ho2
 simp only [Bool.and_eq_true] at hb
 obtain ⟨⟨ys,cons⟩,hy,hyo,hr4,ho4⟩:=bind_split hr3 ho3
 obtain ⟨hnd,hr5⟩:=bif_some hr4
 have e1:=ret_some hr5;subst e1
 obtain ⟨vs,Fs,k1,k2,k3,k4,k6,k5⟩:=elemsM_els h hy hyo
 have hlen:=Nat.eq_of_beq_eq_true hb.1
 rw [hlen] at k5
 have hsmall:=Nat.le_of_ble_eq_true hb.2
 have hl2:=k1.lens
 have hfl:vs.flatten.length=ys.length*s.size:=by rw [flat_len_of hl2.2,hl2.1]
 have hyl:ys.length=len:=by rw [k4];omega
 obtain ⟨i,z,h2,h3,h4,h5,h6⟩:=EL.info
 have hsz:i.size=s.size:=by rw [h4,s.zs_len]
 intro Q
 refine wp_of_value (v:=.slice (some ⟨w.heap.size,0,none⟩) len len) (w':=w.alloc (.cells vs.flatten.toArray s.ty)) ?_ ?_
 ·have hrun:(Instr.buildSlice t len (parts.map fun (i,x)=>(i,a.eval x))).run P w=.ok (.slice (some ⟨w.heap.size,0,none⟩) len len) (w.alloc (.cells vs.flatten.toArray s.ty)):=by
   by_cases h0:len=0
   ·subst h0
    have hp:parts.toList=[]:=List.eq_nil_of_length_eq_zero hlen
    have hv:vs.flatten=[]:=List.eq_nil_of_length_eq_zero (by rw [hfl,hyl];simp)
    have hp':parts=#[]:=by cases parts;simp_all
    rw [hv,hp']
    simp [Instr.buildSlice,run_underlying EL.under,sizeOf,typeInfo,h2,hsz,Instr.fill,newRow]
    have:Array.map (fun _:Nat=>(default:Value)) (Array.range 0)=#[]:=by apply Array.ext' ;simp
    rw [this]
   ·have hpos := s.size_pos
    have hne:len*s.size≠0:=Nat.mul_ne_zero h0 (by omega)
    refine run_buildSlice w t s.ty len _ _ i z EL.under h2 h3 (by rw [hsz];omega) (by rw [hsz];exact hne) ?_
    rw [hsz]
    have:=k5 [] ((Array.range (len*s.size)).map (z.cells[· % z.cells.size]!)).toList (by simp) (by simp)
    simp only [List.nil_append,Array.toArray_toList] at this
    rw [Array.toList_map]
    rw [this]
    congr 2
    rw [List.drop_of_length_le (by simp)]
    simp
  simp [execOp,hop,hrun]
 ·rw [hi]
  exact row_new h (hids id (by simp [hi])) k3 k1 (fun b hb=>by rw [k2] at hb;obtain ⟨m,hm,hbm⟩:=List.mem_flatMap.1 hb;exact ⟨m,hm,hbm⟩) (by rw [k2];exact fps_nodup h (nodupB_spec hnd) k3) (w':=w.alloc (.cells vs.flatten.toArray s.ty)) (hd:=.slice (some ⟨w.heap.size,0,none⟩) len len) rfl rfl rfl (by simp) (fun b hb=>Below.heap_alloc w _ b hb)
   (by rw [hyl];exact new_owns w s.ty s.size len vs.flatten (by rw [hfl,hyl]) (by have:=s.size_pos;have:len*1≤len*s.size:=Nat.mul_le_mul_left _ this;simp [maxLen];omega)) (by simp [Value.blk,Value.ownBlock]) hdst
theorem grown_blk {w w':World} {row:Option Nat} (h:w.grownBy w' row) {b:Nat} (hb:b < w.heap.size) (hr:row≠some b):w'.heap[b]?=w.heap[b]?:=h.block b hb fun e=>hr e.symm
theorem makeSliceM_ends (h:RelE w0 Z0 L N K σ a w E Z) {Γ:Gam} (hΓ:GamOK P Γ) {o:Oper} {md:Md} {t:TypeId} {l c:Operand} {e:Eff} (hop:o.op=.makeSlice t l c) (hids:∀ i∈md.ids,i ∉ K) (hdst:∀ d',o.dst=some d'→d' < N)
  (hr:(makeSliceM Γ md t l c).run σ=some e) (ho:AllP ((makeSliceM Γ md t l c).obl σ)):Ends P w0 Z0 L N (md.ids++K) σ a w o e:=by
 obtain ⟨id,ids,hi,hr1,ho1⟩:=newId_some hr ho
 obtain ⟨⟨s,bytes⟩,he,_,hr2,ho2⟩:=bind_split hr1 ho1
 have EL:=hΓ t s bytes (orFail_run he)
 obtain ⟨x,hx,_,hr3,ho3⟩:=bind_split hr2 ho2
 obtain ⟨y,hy,_,hr4,ho4⟩:=bind_split hr3 ho3
 have hxd:=evalC_den h hx
 have hyd:=evalC_den h hy
 clear hr ho hr1 ho1 hr2 ho2 hr3 ho3
 match x,y,hr4,ho4,hxd,hyd with
 | .v (.int .i64 n), .v (.int .i64 n'), hr4, ho4, hxd, hyd =>
  obtain ⟨hdata,hr4,ho4⟩:=bif_split hr4 ho4
  have hdata:s.data=true:=hdata
  obtain ⟨⟨h0,hnn,hby⟩,hr5,_⟩:=need_split hr4 ho4
  have e1:=ret_some hr5;subst e1
  obtain ⟨m,rfl⟩:∃ m:Nat,n=m:=⟨n.toNat,by omega⟩
  subst hnn
  obtain ⟨i,z,h2,h3,h4,h5,h6⟩:=EL.info
  have hsz:i.size=s.size:=by rw [h4,s.zs_len]
  have hle:m≤m*bytes:=Nat.le_mul_of_pos_right m EL.pos'
  have hby':m*bytes≤140737488355328:=by
   have:((m*bytes:Nat):Int)≤140737488355328:=by rw [Int.natCast_mul];exact hby
   omega
  have h63:m≤maxLen:=by simp only [maxLen];omega
  obtain ⟨w',hrun,r1,r2⟩:=run_make_full (P:=P) w 0 t s.ty i z s.size EL.under h2 h3 hsz .i64 .i64 m (by rw [h5,Nat.mul_comm];omega) h63 (Nat.zero_le _)
  rw [h6] at r1
  have hmf:=made_flat s.zs m EL.pos
  rw [s.zs_len] at hmf
  rw [hmf] at r1
  intro Q
  refine wp_of_value (v:=.slice (some ⟨w.heap.size,0,none⟩) m m) (w':=w') ?_ ?_
  ·simp [execOp,hop,show a.eval l=_ from hxd.1,show a.eval c=_ from hyd.1,hrun]
  ·rw [hi]
   have hels:Els Z w md.dp s (List.replicate m s.zs) (List.replicate m s.z) (bif md.dp then List.replicate m [] else []):=by
    cases md.dp
    ·exact ⟨Rd2.replicate (s.ow_rd (s.z_ow hdata (w:=w)) (by simp)) m,rfl⟩
    ·exact Ow2.replicate (s.z_ow hdata) m
   have hfl:((bif md.dp then List.replicate m [] else []):List (List Nat)).flatten=[]:=by
    cases md.dp
    ·rfl
    ·show (List.replicate m ([] : List Nat)).flatten = []
     clear h63 hby' hle hels hby h0 hxd hyd hx hy hrun r1 hmf
     induction m with
     | zero=>rfl
     | succ m ih=>simp
   exact row_new h (hids id (by simp [hi])) (cons:=[]) (by simp) hels (by rw [hfl];simp) (by rw [hfl];simp) r2.os r2.tape r2.output r2.size (fun b hb=>grown_blk r2 hb (by simp)) (by simp only [Int.toNat_natCast,List.length_replicate];exact .of r1) (by simp [Value.blk,Value.ownBlock]) hdst
end
end Go.Proofs.Ytmcpigcpachdkaa
