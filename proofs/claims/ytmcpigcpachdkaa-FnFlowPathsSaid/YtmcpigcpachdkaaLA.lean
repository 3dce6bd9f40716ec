/- Linear algebra over the field of 1019 elements: spans, reduced rows and their uniqueness; insertion and elimination agree. No program is named; no condition. -/
set_option linter.unusedVariables false
set_option linter.unusedSimpArgs false
namespace LA
abbrev F:=Fin 1019
abbrev V:=Nat→F
def sumN (f:Nat→F):Nat→F
 | 0=>0
 | n+1=>sumN f n+f n
theorem sumN_congr {f g:Nat→F}:∀ {n:Nat},(∀ i,i < n→f i=g i)→sumN f n=sumN g n
 | 0,_=>rfl
 | n+1,h=>by simp only [sumN];rw [sumN_congr (n:=n) (fun i hi=>h i (by omega)),h n (by omega)]
theorem sumN_zero {f:Nat→F} {n:Nat} (h:∀ i,i < n→f i=0):sumN f n=0:=by
 induction n with
 | zero=>rfl
 | succ n ih=>simp only [sumN];rw [ih (fun i hi=>h i (by omega)),h n (by omega)];grind
theorem sumN_single {f:Nat→F} {n k:Nat} (hk:k < n) (h:∀ i,i < n→i≠k→f i=0):sumN f n=f k:=by
 induction n with
 | zero=>omega
 | succ n ih =>
  simp only [sumN]
  by_cases e:k=n
  ·subst e;rw [sumN_zero (fun i hi=>h i (by omega) (by omega))];grind
  ·rw [ih (by omega) (fun i hi=>h i (by omega)),h n (by omega) (by omega)];grind
theorem sumN_add (f g:Nat→F) (k:F):∀ n,sumN (fun i=>f i+k*g i) n=sumN f n+k*sumN g n
 | 0=>by simp only [sumN];grind
 | n+1=>by simp only [sumN];rw [sumN_add f g k n];grind
def vz:V:=fun _=>0
def vadd (u:V) (k:F) (v:V):V:=fun j=>u j+k*v j
def row (m:List V) (i:Nat):V:=m.getD i vz
def comb (c:Nat→F) (m:List V):V:=fun j=>sumN (fun i=>c i*row m i j) m.length
def Span (m:List V) (v:V):Prop:=∃ c,v=comb c m
theorem Span.zero (m:List V):Span m vz:=⟨fun _=>0,by funext j;simp only [comb,vz];exact (sumN_zero fun i _=>by grind).symm⟩
theorem Span.add {m:List V} {u v:V} (hu:Span m u) (k:F) (hv:Span m v):Span m (vadd u k v):=by
 obtain ⟨c,rfl⟩:=hu
 obtain ⟨d,rfl⟩:=hv
 refine ⟨fun i=>c i+k*d i,?_⟩
 funext j
 simp only [comb,vadd]
 rw [← sumN_add]
 exact sumN_congr fun i _=>by grind
theorem Span.row {m:List V} {i:Nat} (hi:i < m.length):Span m (row m i):=⟨fun k=>if k=i then 1 else 0,by
 funext j
 simp only [comb]
 rw [sumN_single hi (fun k _ hk=>by simp only [if_neg hk];grind)]
 simp only [if_true];grind⟩
theorem Span.of_rows {m m':List V} (h:∀ i,i < m.length→Span m' (LA.row m i)) {v:V} (hv:Span m v):Span m' v:=by
 obtain ⟨c,rfl⟩:=hv
 have:∀ n,n≤m.length→Span m' (fun j=>sumN (fun i=>c i*LA.row m i j) n):=by
  intro n
  induction n with
  | zero=>intro _;exact Span.zero m'
  | succ n ih =>
   intro hn
   have:=(ih (by omega)).add (c n) (h n (by omega))
   exact this
 exact this m.length (Nat.le_refl _)
theorem row_mem {m:List V} {i:Nat} (hi:i < m.length):row m i∈m:=by
 unfold row;rw [List.getD_eq_getElem?_getD,List.getElem?_eq_getElem hi];exact List.getElem_mem hi
theorem mem_row {m:List V} {v:V} (h:v∈m):∃ i,i < m.length∧row m i=v:=by
 obtain ⟨i,hi,rfl⟩:=List.getElem_of_mem h
 exact ⟨i,hi,by unfold row;rw [List.getD_eq_getElem?_getD,List.getElem?_eq_getElem hi];rfl⟩
theorem Span.mem {m:List V} {v:V} (h:v∈m):Span m v:=by obtain ⟨i,hi,rfl⟩:=mem_row h;exact Span.row hi
theorem Span.of_mem {m m':List V} (h:∀ v∈m,Span m' v) {v:V} (hv:Span m v):Span m' v:=Span.of_rows (fun i hi=>h _ (row_mem hi)) hv
def Lead (v:V) (l:Nat):Prop:=v l≠0∧∀ j,j < l→v j=0
theorem Lead.ex {v:V} (h:v≠vz):∃ l,Lead v l:=by
 have:∃ j,v j≠0:=Classical.byContradiction fun hn=>h (funext fun j=>Classical.byContradiction fun hj=>hn ⟨j,hj⟩)
 obtain ⟨j,hj⟩:=this
 induction j using Nat.strongRecOn with
 | ind j ih =>
  by_cases hs:∃ i,i < j∧v i≠0
  ·obtain ⟨i,hi,hv⟩:=hs;exact ih i hi hv
  ·exact ⟨j,hj,fun i hi=>Classical.byContradiction fun hv=>hs ⟨i,hi,hv⟩⟩
structure Red (m:List V) (p:Nat→Nat):Prop where
 inc:∀ i j,i < j→j < m.length→p i < p j
 one:∀ i,i < m.length→row m i (p i)=1
 zero:∀ i,i < m.length→∀ j,j < p i→row m i j=0
 clear:∀ i k,i < m.length→k < m.length→i≠k→row m i (p k)=0
theorem Red.inj {m:List V} {p:Nat→Nat} (h:Red m p) {i j:Nat} (hi:i < m.length) (hj:j < m.length) (e:p i=p j):i=j:=by
 rcases Nat.lt_trichotomy i j with hl | rfl | hl
 ·have:=h.inc i j hl hj;omega
 ·rfl
 ·have:=h.inc j i hl hi;omega
def vscale (k:F) (v:V):V:=fun j=>k*v j
theorem Span.scale {m:List V} {v:V} (k:F) (h:Span m v):Span m (vscale k v):=by
 have:=(Span.zero m).add k h
 have e:vadd vz k v=vscale k v:=by funext j;simp only [vadd,vz,vscale];grind
 rwa [e] at this
def redTo (m:List V) (p:Nat→Nat) (v:V):Nat→V
 | 0=>v
 | n+1=>vadd (redTo m p v n) (-(redTo m p v n (p n))) (row m n)
def rem (m:List V) (p:Nat→Nat) (v:V):V:=redTo m p v m.length
theorem row_map {N:Nat} (g:Nat→V) {i:Nat} (hi:i < N):row ((List.range N).map g) i=g i:=by
 unfold row
 rw [List.getD_eq_getElem?_getD,List.getElem?_map,List.getElem?_range hi];rfl
def gjRows (m:List V) (a b k:Nat) (inv:F):List V :=
 (List.range m.length).map fun i=>if i=a then vscale inv (row m b) else vadd (if i=b then row m a else row m i) (-((if i=b then row m a else row m i) k)) (vscale inv (row m b))
structure Gj (m0 m:List V) (p:Nat→Nat) (k a:Nat):Prop where
 le:a≤m.length
 inc:∀ i j,i < j→j < a→p i < p j
 lt:∀ i,i < a→p i < k
 one:∀ i,i < a→row m i (p i)=1
 zero:∀ i,i < a→∀ j,j < p i→row m i j=0
 clear:∀ i r,i < a→r < m.length→r≠i→row m r (p i)=0
 rest:∀ r,a≤r→r < m.length→∀ j,j < k→row m r j=0
 span:∀ v,Span m v↔Span m0 v
theorem Gj.skip {m0 m:List V} {p:Nat→Nat} {k a:Nat} (h:Gj m0 m p k a) (hz:∀ r,a≤r→r < m.length→row m r k=0):Gj m0 m p (k+1) a :=
 ⟨h.le, h.inc, fun i hi => by have := h.lt i hi; omega, h.one, h.zero, h.clear, fun r h1 h2 j hj => by
  by_cases e:j=k
  ·rw [e];exact hz r h1 h2
  ·exact h.rest r h1 h2 j (by omega),h.span⟩
theorem Gj.step {m0 m:List V} {p:Nat→Nat} {k a b:Nat} (h:Gj m0 m p k a) (hab:a≤b) (hb:b < m.length) {inv:F} (hinv:row m b k*inv=1) :
  Gj m0 (gjRows m a b k inv) (fun i=>if i=a then k else p i) (k+1) (a+1):=by
 have hlen:(gjRows m a b k inv).length=m.length:=by simp [gjRows]
 have hr:∀ i,i < m.length→row (gjRows m a b k inv) i=if i=a then vscale inv (row m b) else vadd (if i=b then row m a else row m i) (-((if i=b then row m a else row m i) k)) (vscale inv (row m b)):=fun i hi=>row_map _ hi
 have hw1:vscale inv (row m b) k=1:=by simp only [vscale];grind
 have hw0:∀ j,j < k→vscale inv (row m b) j=0:=fun j hj=>by simp only [vscale];rw [h.rest b hab hb j hj];grind
 have hsw:∀ i,i < m.length→i≠a→∃ r,r < m.length∧(if i=b then row m a else row m i)=row m r∧(a≤i→a≤r)∧(i < a→r=i):=fun i hi hne=>by
  by_cases e:i=b
  ·exact ⟨a,by omega,by rw [if_pos e],fun _=>Nat.le_refl _,fun hia=>by omega⟩
  ·exact ⟨i,hi,by rw [if_neg e],fun h=>h,fun _=>rfl⟩
 refine ⟨by rw [hlen];omega,fun i j hij hj=>?_,fun i hi=>?_,fun i hi=>?_,fun i hi j hj=>?_,fun i r hi hrl hne=>?_,fun r har hrl j hj=>?_,fun v=>?_⟩
 ·rw [if_neg (show ¬ i = a by omega)]
  by_cases e:j=a
  ·rw [if_pos e];exact h.lt i (by omega)
  ·rw [if_neg e];exact h.inc i j hij (by omega)
 ·by_cases e : i = a
  ·rw [if_pos e];omega
  ·rw [if_neg e];have:=h.lt i (by omega);omega
 ·rw [hr i (by omega)]
  by_cases e:i=a
  ·rw [if_pos e,if_pos e];exact hw1
  ·rw [if_neg e, if_neg e, if_neg (show ¬ i = b by omega)]
   simp only [vadd]
   rw [h.one i (by omega),hw0 _ (h.lt i (by omega))];grind
 ·rw [hr i (by omega)]
  by_cases e:i=a
  ·rw [if_pos e] at hj;rw [if_pos e];exact hw0 j hj
  ·rw [if_neg e] at hj
   rw [if_neg e,if_neg (show ¬ i=b by omega)]
   simp only [vadd]
   rw [h.zero i (by omega) j hj,hw0 j (by have:=h.lt i (by omega);omega)];grind
 ·rw [hlen] at hrl
  rw [hr r hrl]
  by_cases e:i=a
  ·rw [if_pos e, if_neg (fun e' => hne (e'.trans e.symm))]
   simp only [vadd]
   rw [hw1];grind
  ·rw [if_neg e]
   have hia:i < a:=by omega
   by_cases e2:r=a
   ·rw [if_pos e2];exact hw0 _ (h.lt i hia)
   ·rw [if_neg e2]
    obtain ⟨q,hq,hqe,hq1,hq2⟩:=hsw r hrl e2
    rw [hqe]
    simp only [vadd]
    rw [hw0 _ (h.lt i hia),h.clear i q hia hq (fun e3=>by
     by_cases hra:r < a
     ·exact hne ((hq2 hra).symm.trans e3)
     ·have:=hq1 (by omega);omega)]
    grind
 ·rw [hlen] at hrl
  rw [hr r hrl,if_neg (show ¬ r=a by omega)]
  obtain ⟨q,hq,hqe,hq1,hq2⟩:=hsw r hrl (by omega)
  rw [hqe]
  simp only [vadd]
  by_cases e:j=k
  ·rw [e,hw1];grind
  ·rw [h.rest q (hq1 (by omega)) hq j (by omega),hw0 j (by omega)];grind
 ·rw [← h.span]
  have hwS:Span (gjRows m a b k inv) (vscale inv (row m b)):=by
   have:=Span.row (m:=gjRows m a b k inv) (i:=a) (by omega)
   rwa [hr a (by omega),if_pos rfl] at this
  have hbS:Span (gjRows m a b k inv) (row m b):=by
   have:=hwS.scale (row m b k)
   have e:vscale (row m b k) (vscale inv (row m b))=row m b:=by
    funext j;simp only [vscale]
    have:row m b k*(inv*row m b j)=(row m b k*inv)*row m b j:=by grind
    rw [this,hinv];grind
   rwa [e] at this
  constructor
  ·refine Span.of_rows fun i hi => ?_
   rw [hlen] at hi
   rw [hr i hi]
   have hw':Span m (vscale inv (row m b)):=(Span.row hb).scale inv
   by_cases e:i=a
   ·rw [if_pos e];exact hw'
   ·rw [if_neg e]
    obtain ⟨q,hq,hqe,_⟩:=hsw i hi e
    rw [hqe];exact (Span.row hq).add _ hw'
  ·refine Span.of_rows fun i hi => ?_
   have back:∀ t,t < m.length→t≠a→Span (gjRows m a b k inv) (if t=b then row m a else row m t):=fun t ht hta=>by
    have h1:=Span.row (m:=gjRows m a b k inv) (i:=t) (by omega)
    rw [hr t ht,if_neg hta] at h1
    have h2:=h1.add ((if t=b then row m a else row m t) k) hwS
    generalize (if t=b then row m a else row m t)=q at *
    have e:vadd (vadd q (-(q k)) (vscale inv (row m b))) (q k) (vscale inv (row m b))=q:=by funext j;simp only [vadd];grind
    rwa [e] at h2
   by_cases e:i=b
   ·rw [e];exact hbS
   ·by_cases e2 : i = a
    ·have := back b hb (by omega)
     rw [if_pos rfl] at this
     rw [e2];exact this
    ·have := back i hi e2
     rwa [if_neg e] at this
theorem Gj.done {m0 m:List V} {p:Nat→Nat} {k a n:Nat} (h:Gj m0 m p k a) (hz:a=m.length∨(n≤k∧∀ r,r < m.length→∀ j,n≤j→row m r j=0)) :
  Red (m.take a) p∧∀ v,Span (m.take a) v↔Span m0 v:=by
 have hl:(m.take a).length=a:=by rw [List.length_take];exact Nat.min_eq_left h.le
 have hr:∀ i,i < a→row (m.take a) i=row m i:=fun i hi=>by
  unfold row;rw [List.getD_eq_getElem?_getD,List.getD_eq_getElem?_getD,List.getElem?_take,if_pos hi]
 refine ⟨⟨fun i j hij hj=>h.inc i j hij (by omega),fun i hi=>?_,fun i hi=>?_,fun i q hi hq hne=>?_⟩,fun v=>?_⟩
 ·rw [hr i (by omega)];exact h.one i (by omega)
 ·rw [hr i (by omega)];exact h.zero i (by omega)
 ·rw [hr i (by omega)];exact h.clear q i (by omega) (by have:=h.le;omega) hne
 ·rw [← h.span]
  constructor
  ·exact Span.of_mem fun r hr=>Span.mem (List.mem_of_mem_take hr)
  ·refine Span.of_rows fun i hi => ?_
   by_cases e:i < a
   ·rw [← hr i e];exact Span.row (by omega)
   ·rcases hz with hz | ⟨h1, h2⟩
    ·omega
    ·have:row m i=vz:=by
      funext j
      by_cases hj:j < k
      ·exact h.rest i (by omega) hi j hj
      ·exact h2 i hi j (by omega)
     rw [this];exact Span.zero _
def El (x:Int):Prop:=0≤x∧x≤1018
def c (x:Int):F:=Fin.ofNat 1019 x.toNat
def VokB (n:Nat) (v:List Int):Prop:=v.length=n∧∀ x∈v,El x
def vec (v:List Int):V:=fun j=>c (v.getD j 0)
theorem VokB.at_ {n:Nat} {v:List Int} (h:VokB n v) (j:Nat):El (v.getD j 0):=by
 rcases Nat.lt_or_ge j v.length with hj | hj
 ·have : v.getD j 0 = v[j] := by simp [List.getD, hj]
  rw [this];exact h.2 _ (List.getElem_mem hj)
 ·have : v.getD j 0 = 0 := by simp [List.getD, hj]
  rw [this];unfold El;omega
def leadS:List Int→Int
 | []=>-1
 | x::l=>if x≠0 then 0 else if leadS l < 0 then -1 else leadS l+1
theorem leadS_bd:∀ (v:List Int),-1≤leadS v∧leadS v < ((v.length:Nat):Int)∨(leadS v=-1)
 | []=>.inr rfl
 | x :: l => by
  have:=leadS_bd l
  simp only [leadS,List.length_cons]
  split
  ·left;omega
  ·split
   ·right;rfl
   ·left;omega
theorem tmod_lt {x m:Int} (hx:0≤x) (hm:0 < m):0≤x.tmod m∧x.tmod m < m:=by
 rw [Int.tmod_eq_emod_of_nonneg hx]
 exact ⟨Int.emod_nonneg _ (by omega),Int.emod_lt_of_pos _ hm⟩
def pv (rows:List (List Int)) (i:Nat):Nat:=(leadS (rows.getD i [])).toNat
structure RedL (n:Nat) (rows:List (List Int)):Prop where
 ok:∀ r∈rows,VokB n r
 nz:∀ r∈rows,0≤leadS r
 red:Red (rows.map vec) (pv rows)
theorem RedL.nil (n:Nat):RedL n []:=⟨by simp,by simp,⟨by simp,by simp,by simp,by simp⟩⟩
theorem getD_in {rows:List (List Int)} {i:Nat} (hi:i < rows.length):rows.getD i []∈rows:=by
 rw [List.getD_eq_getElem?_getD,List.getElem?_eq_getElem hi];exact List.getElem_mem hi
theorem RedL.len {n:Nat} {rows:List (List Int)} (h:RedL n rows):rows.length≤n:=by
 have hp:∀ i,i < rows.length→i≤pv rows i:=by
  intro i
  induction i with
  | zero=>intro _;exact Nat.zero_le _
  | succ i ih=>intro hi;have:=ih (by omega);have:=h.red.inc i (i+1) (by omega) (by simpa using hi);omega
 rcases Nat.eq_zero_or_pos rows.length with h0 | h0
 ·omega
 ·have h1 := hp (rows.length - 1) (by omega)
  have hm:=getD_in (show rows.length - 1 < rows.length by omega)
  have h2:=h.nz _ hm
  have h3:=leadS_bd (rows.getD (rows.length - 1) [])
  have h4:=(h.ok _ hm).1
  unfold pv at h1
  omega
theorem RedL.at_ {n:Nat} {rows:List (List Int)} (h:RedL n rows) {i:Nat} (hi:i < rows.length):VokB n (rows.getD i [])∧0≤leadS (rows.getD i [])∧leadS (rows.getD i []) < (n:Int):=by
 have hm:=getD_in hi
 have h2:=h.nz _ hm
 have h3:=leadS_bd (rows.getD i [])
 have h4:=h.ok _ hm
 exact ⟨h4,h2,by have:=h4.1;omega⟩
theorem map_at {rows:List (List Int)} {f:List Int→List Int} {i:Nat} (hi:i < rows.length):(rows.map f).getD i []=f (rows.getD i []):=by
 rw [List.getD_eq_getElem?_getD,List.getElem?_map,List.getElem?_eq_getElem hi,List.getD_eq_getElem?_getD,List.getElem?_eq_getElem hi];rfl
end LA
