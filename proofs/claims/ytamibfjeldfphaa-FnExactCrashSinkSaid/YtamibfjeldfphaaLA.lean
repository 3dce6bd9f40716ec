/- Linear algebra over the field of 1019 elements: spans, reduced rows and their uniqueness; insertion and elimination agree. No program is named; no condition. -/
set_option linter.unusedVariables false
set_option linter.unusedSimpArgs false
namespace LA
abbrev F:=Fin 1019
abbrev V:=Nat→F
def sumN (f:Nat→F):Nat→F
 | 0=>0
 | n+1=>sumN f n+f n
theorem sumN_congr {f g:Nat→F}:∀ {n:Nat},(∀ i,i < n→f i=g i)→sumN f n=sumN g n
 | 0,_=>rfl
 | n+1,h=>by simp only [sumN];rw [sumN_congr (n:=n) (fun i hi=>h i (by omega)),h n (by omega)]
theorem sumN_zero {f:Nat→F} {n:Nat} (h:∀ i,i < n→f i=0):sumN f n=0:=by
 induction n with
 | zero=>rfl
 | succ n ih=>simp only [sumN];rw [ih (fun i hi=>h i (by omega)),h n (by omega)];grind
theorem sumN_single {f:Nat→F} {n k:Nat} (hk:k < n) (h:∀ i,i < n→i≠k→f i=0):sumN f n=f k:=by
 induction n with
 | zero=>omega
 | succ n ih =>
  simp only [sumN]
  by_cases e:k=n
  ·subst e;rw [sumN_zero (fun i hi=>h i (by omega) (by omega))];grind
  ·rw [ih (by omega) (fun i hi=>h i (by omega)),h n (by omega) (by omega)];grind
theorem sumN_add (f g:Nat→F) (k:F):∀ n,sumN (fun i=>f i+k*g i) n=sumN f n+k*sumN g n
 | 0=>by simp only [sumN];grind
 | n+1=>by simp only [sumN];rw [sumN_add f g k n];grind
def vz:V:=fun _=>0
def vadd (u:V) (k:F) (v:V):V:=fun j=>u j+k*v j
def row (m:List V) (i:Nat):V:=m.getD i vz
def comb (c:Nat→F) (m:List V):V:=fun j=>sumN (fun i=>c i*row m i j) m.length
def Span (m:List V) (v:V):Prop:=∃ c,v=comb c m
theorem Span.zero (m:List V):Span m vz:=⟨fun _=>0,by funext j;simp only [comb,vz];exact (sumN_zero fun i _=>by grind).symm⟩
theorem Span.add {m:List V} {u v:V} (hu:Span m u) (k:F) (hv:Span m v):Span m (vadd u k v):=by
 obtain ⟨c,rfl⟩:=hu
 obtain ⟨d,rfl⟩:=hv
 refine ⟨fun i=>c i+k*d i,?_⟩
 funext j
 simp only [comb,vadd]
 rw [← sumN_add]
 exact sumN_congr fun i _=>by grind
theorem Span.row {m:List V} {i:Nat} (hi:i < m.length):Span m (row m i):=⟨fun k=>if k=i then 1 else 0,by
 funext j
 simp only [comb]
 rw [sumN_single hi (fun k _ hk=>by simp only [if_neg hk];grind)]
 simp only [if_true];grind⟩
theorem Span.of_rows {m m':List V} (h:∀ i,i < m.length→Span m' (LA.row m i)) {v:V} (hv:Span m v):Span m' v:=by
 obtain ⟨c,rfl⟩:=hv
 have:∀ n,n≤m.length→Span m' (fun j=>sumN (fun i=>c i*LA.row m i j) n):=by
  intro n
  induction n with
  | zero=>intro _;exact Span.zero m'
  | succ n ih =>
   intro hn
   have:=(ih (by omega)).add (c n) (h n (by omega))
   exact this
 exact this m.length (Nat.le_refl _)
theorem row_mem {m:List V} {i:Nat} (hi:i < m.length):row m i∈m:=by
 unfold row;rw [List.getD_eq_getElem?_getD,List.getElem?_eq_getElem hi];exact List.getElem_mem hi
theorem mem_row {m:List V} {v:V} (h:v∈m):∃ i,i < m.length∧row m i=v:=by
 obtain ⟨i,hi,rfl⟩:=List.getElem_of_mem h
 exact ⟨i,hi,by unfold row;rw [List.getD_eq_getElem?_getD,List.getElem?_eq_getElem hi];rfl⟩
theorem Span.mem {m:List V} {v:V} (h:v∈m):Span m v:=by obtain ⟨i,hi,rfl⟩:=mem_row h;exact Span.row hi
theorem Span.of_mem {m m':List V} (h:∀ v∈m,Span m' v) {v:V} (hv:Span m v):Span m' v:=Span.of_rows (fun i hi=>h _ (row_mem hi)) hv
def Lead (v:V) (l:Nat):Prop:=v l≠0∧∀ j,j < l→v j=0
theorem Lead.uniq {v:V} {a b:Nat} (h:Lead v a) (k:Lead v b):a=b:=by
 rcases Nat.lt_trichotomy a b with hl | rfl | hl
 ·exact absurd (k.2 a hl) h.1
 ·rfl
 ·exact absurd (h.2 b hl) k.1
structure Red (m:List V) (p:Nat→Nat):Prop where
 inc:∀ i j,i < j→j < m.length→p i < p j
 one:∀ i,i < m.length→row m i (p i)=1
 zero:∀ i,i < m.length→∀ j,j < p i→row m i j=0
 clear:∀ i k,i < m.length→k < m.length→i≠k→row m i (p k)=0
theorem one_ne:(1:F)≠0:=by decide
theorem Red.lead {m:List V} {p:Nat→Nat} (h:Red m p) {i:Nat} (hi:i < m.length):Lead (row m i) (p i):=⟨by rw [h.one i hi];exact one_ne,h.zero i hi⟩
theorem Red.at_piv {m:List V} {p:Nat→Nat} (h:Red m p) (c:Nat→F) {k:Nat} (hk:k < m.length):comb c m (p k)=c k:=by
 simp only [comb]
 rw [sumN_single hk (fun i hi hne=>by rw [h.clear i k hi hk hne];grind),h.one k hk];grind
theorem Red.inj {m:List V} {p:Nat→Nat} (h:Red m p) {i j:Nat} (hi:i < m.length) (hj:j < m.length) (e:p i=p j):i=j:=by
 rcases Nat.lt_trichotomy i j with hl | rfl | hl
 ·have:=h.inc i j hl hj;omega
 ·rfl
 ·have:=h.inc j i hl hi;omega
theorem Red.lead_piv {m:List V} {p:Nat→Nat} (h:Red m p) {v:V} (hv:Span m v) {l:Nat} (hl:Lead v l):∃ i,i < m.length∧p i=l:=by
 obtain ⟨c,rfl⟩:=hv
 have:∃ i,i < m.length∧c i≠0:=Classical.byContradiction fun hn=>hl.1 (by
  simp only [comb]
  exact sumN_zero fun i hi=>by
   have:c i=0:=Classical.byContradiction fun hc=>hn ⟨i,hi,hc⟩
   rw [this];grind)
 have first:∃ i,(i < m.length∧c i≠0)∧∀ k,k < i→c k=0:=by
  obtain ⟨i,hi,hc⟩:=this
  induction i using Nat.strongRecOn with
  | ind i ih =>
   by_cases hs:∃ k,k < i∧c k≠0
   ·obtain ⟨k,hk,hck⟩:=hs;exact ih k hk (by omega) hck
   ·exact ⟨i,⟨hi,hc⟩,fun k hk=>Classical.byContradiction fun hv=>hs ⟨k,hk,hv⟩⟩
 obtain ⟨i,⟨hi,hc⟩,hf⟩:=first
 refine ⟨i,hi,?_⟩
 have h1:Lead (comb c m) (p i):=⟨by rw [h.at_piv c hi];exact hc,fun j hj=>by
  simp only [comb]
  refine sumN_zero fun k hk=>?_
  by_cases hki:k < i
  ·rw [hf k hki];grind
  ·have:j < p k:=by
    by_cases e:k=i
    ·rw [e];exact hj
    ·have:=h.inc i k (by omega) hk;omega
   rw [h.zero k hk j this];grind⟩
 exact h1.uniq hl
theorem Red.uniq {m m':List V} {p p':Nat→Nat} (h:Red m p) (h':Red m' p') (hs:∀ v,Span m v→Span m' v) (hs':∀ v,Span m' v→Span m v):m=m':=by
 have piv:∀ i,i < m.length→∃ k,k < m'.length∧p' k=p i:=fun i hi=>h'.lead_piv (hs _ (Span.row hi)) (h.lead hi)
 have piv':∀ i,i < m'.length→∃ k,k < m.length∧p k=p' i:=fun i hi=>h.lead_piv (hs' _ (Span.row hi)) (h'.lead hi)
 have step:∀ i,(i < m.length↔i < m'.length)∧(i < m.length→p i=p' i):=by
  intro i
  induction i using Nat.strongRecOn with
  | ind i ih =>
   have a1:i < m.length→i < m'.length∧p' i≤p i:=fun hi=>by
    obtain ⟨k,hk,e⟩:=piv i hi
    have hki:¬ k < i:=fun hlt=>by
     have h1:=(ih k hlt).2 (by omega)
     have:=h.inc k i hlt hi
     omega
    refine ⟨by omega,?_⟩
    by_cases e2:i=k
    ·rw [e2,e];rw [← e2];exact Nat.le_refl _
    ·have:=h'.inc i k (by omega) hk;omega
   have a2:i < m'.length→i < m.length∧p i≤p' i:=fun hi=>by
    obtain ⟨k,hk,e⟩:=piv' i hi
    have hki:¬ k < i:=fun hlt=>by
     have h1:=(ih k hlt).2 hk
     have:=h'.inc k i hlt hi
     omega
    refine ⟨by omega,?_⟩
    by_cases e2:i=k
    ·rw [e2,e];rw [← e2];exact Nat.le_refl _
    ·have:=h.inc i k (by omega) hk;omega
   exact ⟨⟨fun hi=>(a1 hi).1,fun hi=>(a2 hi).1⟩,fun hi=>by have:=(a1 hi).2;have:=(a2 (a1 hi).1).2;omega⟩
 have hlen:m.length=m'.length:=by
  rcases Nat.lt_trichotomy m.length m'.length with hl | e | hl
  ·have:=(step m.length).1.2 hl;omega
  ·exact e
  ·have:=(step m'.length).1.1 hl;omega
 apply List.ext_getElem hlen
 intro i hi hi'
 obtain ⟨c,hc⟩:=hs _ (Span.row hi)
 have hcu:∀ k,k < m'.length→c k=row m i (p k):=fun k hk=>by
  have:=h'.at_piv c hk
  rw [← hc,← (step k).2 (by omega)] at this
  exact this.symm
 have e1:row m i=row m' i:=by
  rw [hc]
  funext j
  simp only [comb]
  rw [sumN_single hi' (fun k hk hne=>by rw [hcu k hk,h.clear i k hi (by omega) (fun e=>hne e.symm)];grind),hcu i hi',h.one i hi]
  grind
 unfold row at e1
 rw [List.getD_eq_getElem?_getD,List.getD_eq_getElem?_getD,List.getElem?_eq_getElem hi,List.getElem?_eq_getElem hi'] at e1
 exact e1
def vscale (k:F) (v:V):V:=fun j=>k*v j
theorem Span.scale {m:List V} {v:V} (k:F) (h:Span m v):Span m (vscale k v):=by
 have:=(Span.zero m).add k h
 have e:vadd vz k v=vscale k v:=by funext j;simp only [vadd,vz,vscale];grind
 rwa [e] at this
def redTo (m:List V) (p:Nat→Nat) (v:V):Nat→V
 | 0=>v
 | n+1=>vadd (redTo m p v n) (-(redTo m p v n (p n))) (row m n)
def rem (m:List V) (p:Nat→Nat) (v:V):V:=redTo m p v m.length
theorem row_map {N:Nat} (g:Nat→V) {i:Nat} (hi:i < N):row ((List.range N).map g) i=g i:=by
 unfold row
 rw [List.getD_eq_getElem?_getD,List.getElem?_map,List.getElem?_range hi];rfl
def gjRows (m:List V) (a b k:Nat) (inv:F):List V :=
 (List.range m.length).map fun i=>if i=a then vscale inv (row m b) else vadd (if i=b then row m a else row m i) (-((if i=b then row m a else row m i) k)) (vscale inv (row m b))
structure Gj (m0 m:List V) (p:Nat→Nat) (k a:Nat):Prop where
 le:a≤m.length
 inc:∀ i j,i < j→j < a→p i < p j
 lt:∀ i,i < a→p i < k
 one:∀ i,i < a→row m i (p i)=1
 zero:∀ i,i < a→∀ j,j < p i→row m i j=0
 clear:∀ i r,i < a→r < m.length→r≠i→row m r (p i)=0
 rest:∀ r,a≤r→r < m.length→∀ j,j < k→row m r j=0
 span:∀ v,Span m v↔Span m0 v
theorem Gj.start (m:List V):Gj m m (fun _=>0) 0 0:=⟨Nat.zero_le _,fun i j _ h=>absurd h (by omega),fun i h=>absurd h (by omega),fun i h=>absurd h (by omega),fun i h=>absurd h (by omega),fun i r h=>absurd h (by omega),fun r _ _ j h=>absurd h (by omega),fun v=>Iff.rfl⟩
theorem Gj.skip {m0 m:List V} {p:Nat→Nat} {k a:Nat} (h:Gj m0 m p k a) (hz:∀ r,a≤r→r < m.length→row m r k=0):Gj m0 m p (k+1) a :=
 ⟨h.le, h.inc, fun i hi => by have := h.lt i hi; omega, h.one, h.zero, h.clear, fun r h1 h2 j hj => by
  by_cases e:j=k
  ·rw [e];exact hz r h1 h2
  ·exact h.rest r h1 h2 j (by omega),h.span⟩
theorem Gj.step {m0 m:List V} {p:Nat→Nat} {k a b:Nat} (h:Gj m0 m p k a) (hab:a≤b) (hb:b < m.length) {inv:F} (hinv:row m b k*inv=1) :
  Gj m0 (gjRows m a b k inv) (fun i=>if i=a then k else p i) (k+1) (a+1):=by
 have hlen:(gjRows m a b k inv).length=m.length:=by simp [gjRows]
 have hr:∀ i,i < m.length→row (gjRows m a b k inv) i=if i=a then vscale inv (row m b) else vadd (if i=b then row m a else row m i) (-((if i=b then row m a else row m i) k)) (vscale inv (row m b)):=fun i hi=>row_map _ hi
 have hw1:vscale inv (row m b) k=1:=by simp only [vscale];grind
 have hw0:∀ j,j < k→vscale inv (row m b) j=0:=fun j hj=>by simp only [vscale];rw [h.rest b hab hb j hj];grind
 have hsw:∀ i,i < m.length→i≠a→∃ r,r < m.length∧(if i=b then row m a else row m i)=row m r∧(a≤i→a≤r)∧(i < a→r=i):=fun i hi hne=>by
  by_cases e:i=b
  ·exact ⟨a,by omega,by rw [if_pos e],fun _=>Nat.le_refl _,fun hia=>by omega⟩
  ·exact ⟨i,hi,by rw [if_neg e],fun h=>h,fun _=>rfl⟩
 refine ⟨by rw [hlen];omega,fun i j hij hj=>?_,fun i hi=>?_,fun i hi=>?_,fun i hi j hj=>?_,fun i r hi hrl hne=>?_,fun r har hrl j hj=>?_,fun v=>?_⟩
 ·rw [if_neg (show ¬ i = a by omega)]
  by_cases e:j=a
  ·rw [if_pos e];exact h.lt i (by omega)
  ·rw [if_neg e];exact h.inc i j hij (by omega)
 ·by_cases e : i = a
  ·rw [if_pos e];omega
  ·rw [if_neg e];have:=h.lt i (by omega);omega
 ·rw [hr i (by omega)]
  by_cases e:i=a
  ·rw [if_pos e,if_pos e];exact hw1
  ·rw [if_neg e, if_neg e, if_neg (show ¬ i = b by omega)]
   simp only [vadd]
   rw [h.one i (by omega),hw0 _ (h.lt i (by omega))];grind
 ·rw [hr i (by omega)]
  by_cases e:i=a
  ·rw [if_pos e] at hj;rw [if_pos e];exact hw0 j hj
  ·rw [if_neg e] at hj
   rw [if_neg e,if_neg (show ¬ i=b by omega)]
   simp only [vadd]
   rw [h.zero i (by omega) j hj,hw0 j (by have:=h.lt i (by omega);omega)];grind
 ·rw [hlen] at hrl
  rw [hr r hrl]
  by_cases e:i=a
  ·rw [if_pos e, if_neg (fun e' => hne (e'.trans e.symm))]
   simp only [vadd]
   rw [hw1];grind
  ·rw [if_neg e]
   have hia:i < a:=by omega
   by_cases e2:r=a
   ·rw [if_pos e2];exact hw0 _ (h.lt i hia)
   ·rw [if_neg e2]
    obtain ⟨q,hq,hqe,hq1,hq2⟩:=hsw r hrl e2
    rw [hqe]
    simp only [vadd]
    rw [hw0 _ (h.lt i hia),h.clear i q hia hq (fun e3=>by
     by_cases hra:r < a
     ·exact hne ((hq2 hra).symm.trans e3)
     ·have:=hq1 (by omega);omega)]
    grind
 ·rw [hlen] at hrl
  rw [hr r hrl,if_neg (show ¬ r=a by omega)]
  obtain ⟨q,hq,hqe,hq1,hq2⟩:=hsw r hrl (by omega)
  rw [hqe]
  simp only [vadd]
  by_cases e:j=k
  ·rw [e,hw1];grind
  ·rw [h.rest q (hq1 (by omega)) hq j (by omega),hw0 j (by omega)];grind
 ·rw [← h.span]
  have hwS:Span (gjRows m a b k inv) (vscale inv (row m b)):=by
   have:=Span.row (m:=gjRows m a b k inv) (i:=a) (by omega)
   rwa [hr a (by omega),if_pos rfl] at this
  have hbS:Span (gjRows m a b k inv) (row m b):=by
   have:=hwS.scale (row m b k)
   have e:vscale (row m b k) (vscale inv (row m b))=row m b:=by
    funext j;simp only [vscale]
    have:row m b k*(inv*row m b j)=(row m b k*inv)*row m b j:=by grind
    rw [this,hinv];grind
   rwa [e] at this
  constructor
  ·refine Span.of_rows fun i hi => ?_
   rw [hlen] at hi
   rw [hr i hi]
   have hw':Span m (vscale inv (row m b)):=(Span.row hb).scale inv
   by_cases e:i=a
   ·rw [if_pos e];exact hw'
   ·rw [if_neg e]
    obtain ⟨q,hq,hqe,_⟩:=hsw i hi e
    rw [hqe];exact (Span.row hq).add _ hw'
  ·refine Span.of_rows fun i hi => ?_
   have back:∀ t,t < m.length→t≠a→Span (gjRows m a b k inv) (if t=b then row m a else row m t):=fun t ht hta=>by
    have h1:=Span.row (m:=gjRows m a b k inv) (i:=t) (by omega)
    rw [hr t ht,if_neg hta] at h1
    have h2:=h1.add ((if t=b then row m a else row m t) k) hwS
    generalize (if t=b then row m a else row m t)=q at *
    have e:vadd (vadd q (-(q k)) (vscale inv (row m b))) (q k) (vscale inv (row m b))=q:=by funext j;simp only [vadd];grind
    rwa [e] at h2
   by_cases e:i=b
   ·rw [e];exact hbS
   ·by_cases e2 : i = a
    ·have := back b hb (by omega)
     rw [if_pos rfl] at this
     rw [e2];exact this
    ·have := back i hi e2
     rwa [if_neg e] at this
theorem Gj.done {m0 m:List V} {p:Nat→Nat} {k a n:Nat} (h:Gj m0 m p k a) (hz:a=m.length∨(n≤k∧∀ r,r < m.length→∀ j,n≤j→row m r j=0)) :
  Red (m.take a) p∧∀ v,Span (m.take a) v↔Span m0 v:=by
 have hl:(m.take a).length=a:=by rw [List.length_take];exact Nat.min_eq_left h.le
 have hr:∀ i,i < a→row (m.take a) i=row m i:=fun i hi=>by
  unfold row;rw [List.getD_eq_getElem?_getD,List.getD_eq_getElem?_getD,List.getElem?_take,if_pos hi]
 refine ⟨⟨fun i j hij hj=>h.inc i j hij (by omega),fun i hi=>?_,fun i hi=>?_,fun i q hi hq hne=>?_⟩,fun v=>?_⟩
 ·rw [hr i (by omega)];exact h.one i (by omega)
 ·rw [hr i (by omega)];exact h.zero i (by omega)
 ·rw [hr i (by omega)];exact h.clear q i (by omega) (by have:=h.le;omega) hne
 ·rw [← h.span]
  constructor
  ·exact Span.of_mem fun r hr=>Span.mem (List.mem_of_mem_take hr)
  ·refine Span.of_rows fun i hi => ?_
   by_cases e:i < a
   ·rw [← hr i e];exact Span.row (by omega)
   ·rcases hz with hz | ⟨h1, h2⟩
    ·omega
    ·have:row m i=vz:=by
      funext j
      by_cases hj:j < k
      ·exact h.rest i (by omega) hi j hj
      ·exact h2 i hi j (by omega)
     rw [this];exact Span.zero _
def El (x:Int):Prop:=0≤x∧x≤1018
def c (x:Int):F:=Fin.ofNat 1019 x.toNat
theorem c_val (x:Int):(c x).val=x.toNat % 1019:=rfl
theorem c_one:c 1=1:=rfl
theorem c_inj {x y:Int} (hx:El x) (hy:El y) (h:c x=c y):x=y:=by
 have:=congrArg Fin.val h
 rw [c_val,c_val,Nat.mod_eq_of_lt (by have:=hx.2;omega),Nat.mod_eq_of_lt (by have:=hy.2;omega)] at this
 have:=hx.1;have:=hy.1;omega
theorem c_add {x y:Int} (hx:0≤x) (hy:0≤y):c (x+y)=c x+c y:=by
 apply Fin.ext
 rw [Fin.val_add,c_val,c_val,c_val,Int.toNat_add hx hy,← Nat.add_mod]
theorem c_mul {x y:Int} (hx:0≤x) (hy:0≤y):c (x*y)=c x*c y:=by
 apply Fin.ext
 rw [Fin.val_mul,c_val,c_val,c_val,Int.toNat_mul hx hy,← Nat.mul_mod]
theorem c_mod {x:Int} (hx:0≤x):c (x.tmod 1019)=c x:=by
 apply Fin.ext
 rw [c_val,c_val,Int.tmod_eq_emod_of_nonneg hx]
 omega
theorem El.mod {x:Int} (hx:0≤x):El (x.tmod 1019):=by
 rw [Int.tmod_eq_emod_of_nonneg hx];unfold El;omega
theorem c_ne {x:Int} (hx:El x):c x=0↔x=0:=⟨fun h=>c_inj hx (by unfold El;omega) h,fun h=>by rw [h];rfl⟩
theorem c_neg {x:Int} (hx:El x):c (1019 - x)=-(c x):=by
 have h1:=c_add (x:=1019 - x) (y:=x) (by have:=hx.2;omega) hx.1
 rw [show 1019 - x+x=1019 by omega] at h1
 have h2:c 1019=0:=rfl
 rw [h2] at h1
 grind
def VokB (n:Nat) (v:List Int):Prop:=v.length=n∧∀ x∈v,El x
def vec (v:List Int):V:=fun j=>c (v.getD j 0)
theorem VokB.at_ {n:Nat} {v:List Int} (h:VokB n v) (j:Nat):El (v.getD j 0):=by
 rcases Nat.lt_or_ge j v.length with hj | hj
 ·have : v.getD j 0 = v[j] := by simp [List.getD, hj]
  rw [this];exact h.2 _ (List.getElem_mem hj)
 ·have : v.getD j 0 = 0 := by simp [List.getD, hj]
  rw [this];unfold El;omega
theorem vec_out {v:List Int} {j:Nat} (h:v.length≤j):vec v j=0:=by
 have:v.getD j 0=0:=by simp [List.getD,h]
 unfold vec;rw [this];rfl
theorem vec_inj {n:Nat} {a b:List Int} (ha:VokB n a) (hb:VokB n b) (h:vec a=vec b):a=b:=by
 apply List.ext_getElem (by rw [ha.1,hb.1])
 intro i h1 h2
 have:=c_inj (ha.at_ i) (hb.at_ i) (congrFun h i)
 simpa [List.getD,h1,h2] using this
def addS (a b:List Int) (k:Int):List Int:=List.zipWith (fun x y=>(x+k*y).tmod 1019) a b
def scaleS (v:List Int) (k:Int):List Int:=v.map fun x=>(x*k).tmod 1019
theorem addS_len {a b:List Int} {k:Int} (h:a.length=b.length):(addS a b k).length=a.length:=by simp [addS,h]
theorem addS_at {a b:List Int} {k:Int} (h:a.length=b.length) (j:Nat):(addS a b k).getD j 0=(a.getD j 0+k*b.getD j 0).tmod 1019:=by
 unfold addS
 simp only [List.getD_eq_getElem?_getD,List.getElem?_zipWith]
 rcases Nat.lt_or_ge j a.length with hj | hj
 ·rw [List.getElem?_eq_getElem hj,List.getElem?_eq_getElem (by omega)];rfl
 ·rw [List.getElem?_eq_none hj,List.getElem?_eq_none (by omega)];simp
theorem addS_ok {n:Nat} {a b:List Int} {k:Int} (ha:VokB n a) (hb:VokB n b) (hk:El k):VokB n (addS a b k)∧vec (addS a b k)=vadd (vec a) (c k) (vec b):=by
 have hl:a.length=b.length:=by rw [ha.1,hb.1]
 refine ⟨⟨by rw [addS_len hl,ha.1],fun x hx=>?_⟩,?_⟩
 ·obtain ⟨j, hj, rfl⟩ := List.getElem_of_mem hx
  have h1:=addS_at (k:=k) hl j
  rw [show (addS a b k).getD j 0=(addS a b k)[j] by simp [List.getD,hj]] at h1
  rw [h1]
  exact El.mod (Int.add_nonneg (ha.at_ j).1 (Int.mul_nonneg hk.1 (hb.at_ j).1))
 ·funext j
  simp only [vec,vadd]
  rw [addS_at hl,c_mod (Int.add_nonneg (ha.at_ j).1 (Int.mul_nonneg hk.1 (hb.at_ j).1)),c_add (ha.at_ j).1 (Int.mul_nonneg hk.1 (hb.at_ j).1),c_mul hk.1 (hb.at_ j).1]
theorem scaleS_ok {n:Nat} {v:List Int} {k:Int} (hv:VokB n v) (hk:El k):VokB n (scaleS v k)∧vec (scaleS v k)=vscale (c k) (vec v):=by
 have at_:∀ j,(scaleS v k).getD j 0=(v.getD j 0*k).tmod 1019:=fun j=>by
  unfold scaleS
  simp only [List.getD_eq_getElem?_getD,List.getElem?_map]
  rcases Nat.lt_or_ge j v.length with hj | hj
  ·rw [List.getElem?_eq_getElem hj];rfl
  ·rw [List.getElem?_eq_none hj];simp
 refine ⟨⟨by simp [scaleS,hv.1],fun x hx=>?_⟩,?_⟩
 ·obtain ⟨y, hy, rfl⟩ := List.mem_map.1 hx
  exact El.mod (Int.mul_nonneg (hv.2 y hy).1 hk.1)
 ·funext j
  simp only [vec,vscale]
  rw [at_,c_mod (Int.mul_nonneg (hv.at_ j).1 hk.1),c_mul (hv.at_ j).1 hk.1]
  grind
def leadS:List Int→Int
 | []=>-1
 | x::l=>if x≠0 then 0 else if leadS l < 0 then -1 else leadS l+1
theorem leadS_bd:∀ (v:List Int),-1≤leadS v∧leadS v < ((v.length:Nat):Int)∨(leadS v=-1)
 | []=>.inr rfl
 | x :: l => by
  have:=leadS_bd l
  simp only [leadS,List.length_cons]
  split
  ·left;omega
  ·split
   ·right;rfl
   ·left;omega
theorem leadS_neg:∀ {v:List Int},leadS v < 0→∀ j,v.getD j 0=0
 | [],_,j=>by simp
 | x :: l, h, j => by
  simp only [leadS] at h
  split at h
  ·omega
  ·rename_i hx
   split at h
   ·rename_i hl
    cases j with
    | zero=>simpa using hx
    | succ j=>have:=leadS_neg hl j;simpa using this
   ·omega
theorem leadS_pos:∀ {v:List Int},0≤leadS v→v.getD (leadS v).toNat 0≠0∧∀ j,j < (leadS v).toNat→v.getD j 0=0
 | [],h=>by simp [leadS] at h
 | x :: l, h => by
  simp only [leadS] at h ⊢
  split
  ·rename_i hx
   exact ⟨by simpa using hx,fun j hj=>by simp at hj⟩
  ·rename_i hx
   split
   ·rename_i hl;rw [if_neg hx,if_pos hl] at h;omega
   ·rename_i hl
    obtain ⟨h1,h2⟩:=leadS_pos (v:=l) (by omega)
    have e:(leadS l+1).toNat=(leadS l).toNat+1:=by omega
    rw [e]
    refine ⟨by simpa using h1,fun j hj=>?_⟩
    cases j with
    | zero=>simpa using hx
    | succ j=>have:=h2 j (by omega);simpa using this
theorem leadS_lead {n:Nat} {v:List Int} (hv:VokB n v) (h:0≤leadS v):Lead (vec v) (leadS v).toNat:=by
 obtain ⟨h1,h2⟩:=leadS_pos h
 refine ⟨fun e=>h1 ((c_ne (hv.at_ _)).1 e),fun j hj=>?_⟩
 unfold vec;rw [h2 j hj];rfl
theorem leadS_zero {v:List Int} (h:leadS v < 0):vec v=vz:=by
 funext j;unfold vec;rw [leadS_neg h j];rfl
theorem leadS_of {n:Nat} {v:List Int} (hv:VokB n v) {l:Nat} (h:Lead (vec v) l):leadS v=l:=by
 by_cases hn:leadS v < 0
 ·exact absurd (congrFun (leadS_zero hn) l) h.1
 ·have:=(leadS_lead hv (by omega)).uniq h;omega
def pwB:Nat→F→Nat→F
 | 0,_,_=>1
 | f+1,x,n=>bif n.beq 0 then 1 else (bif (n % 2).beq 1 then x else 1)*pwB f (x*x) (n / 2)
def pmL (m:Int) (out a:Int) (n:Nat):Int:=if h:n=0 then out else pmL m (if n % 2=1 then (out*a).tmod m else out) ((a*a).tmod m) (n / 2)
termination_by n
theorem pmL_zero (m out a:Int):pmL m out a 0=out:=by rw [pmL,dif_pos rfl]
theorem pmL_odd {m out a:Int} {n:Nat} (h:n % 2=1):pmL m out a n=pmL m ((out*a).tmod m) ((a*a).tmod m) (n / 2):=by rw [pmL,dif_neg (by omega),if_pos h]
theorem pmL_even {m out a:Int} {n:Nat} (h0:n≠0) (h:n % 2=0):pmL m out a n=pmL m out ((a*a).tmod m) (n / 2):=by rw [pmL,dif_neg h0,if_neg (by omega)]
theorem tmod_lt {x m:Int} (hx:0≤x) (hm:0 < m):0≤x.tmod m∧x.tmod m < m:=by
 rw [Int.tmod_eq_emod_of_nonneg hx]
 exact ⟨Int.emod_nonneg _ (by omega),Int.emod_lt_of_pos _ hm⟩
theorem pmL_bd {m:Int} (hm:0 < m):∀ (f n:Nat) (out a:Int),n < 2 ^ f→0≤out→out < m→0≤a→0≤pmL m out a n∧pmL m out a n < m
 | 0, n, out, a, h, h1, h2, h3 => by
  have:n=0:=by simpa using h
  rw [this,pmL_zero];exact ⟨h1,h2⟩
 | f + 1, n, out, a, h, h1, h2, h3 => by
  by_cases h0:n=0
  ·rw [h0,pmL_zero];exact ⟨h1,h2⟩
  ·have hn : n / 2 < 2 ^ f := by rw [Nat.pow_succ] at h; omega
   have ha:=tmod_lt (Int.mul_nonneg h3 h3) hm
   by_cases ho:n % 2=1
   ·rw [pmL_odd ho]
    have:=tmod_lt (Int.mul_nonneg h1 h3) hm
    exact pmL_bd hm f _ _ _ hn this.1 this.2 ha.1
   ·rw [pmL_even h0 (by omega)];exact pmL_bd hm f _ _ _ hn h1 h2 ha.1
theorem pmL_c:∀ (f n:Nat) (out a:Int),n < 2 ^ f→0≤out→0≤a→c (pmL 1019 out a n)=c out*pwB f (c a) n
 | 0, n, out, a, h, h1, h3 => by
  have:n=0:=by simpa using h
  rw [this,pmL_zero];simp only [pwB];grind
 | f + 1, n, out, a, h, h1, h3 => by
  by_cases h0:n=0
  ·rw [h0, pmL_zero]; simp only [pwB]
   show c out=c out*1
   grind
  ·have hn : n / 2 < 2 ^ f := by rw [Nat.pow_succ] at h; omega
   have ha:=(tmod_lt (m:=1019) (Int.mul_nonneg h3 h3) (by decide)).1
   have e0:n.beq 0=false:=by cases n with | zero=>exact absurd rfl h0 | succ n=>rfl
   by_cases ho:n % 2=1
   ·rw [pmL_odd ho, pmL_c f _ _ _ hn (tmod_lt (Int.mul_nonneg h1 h3) (by decide)).1 ha, c_mod (Int.mul_nonneg h1 h3), c_mod (Int.mul_nonneg h3 h3), c_mul h1 h3, c_mul h3 h3]
    simp only [pwB,e0,ho,cond_false]
    show _=c out*(c a*_)
    grind
   ·have ho' : n % 2 = 0 := by omega
    rw [pmL_even h0 ho',pmL_c f _ _ _ hn h1 ha,c_mod (Int.mul_nonneg h3 h3),c_mul h3 h3]
    simp only [pwB,e0,ho',cond_false]
    show _=c out*(1*_)
    grind
theorem fermat:∀ x:F,x≠0→x*pwB 10 x 1017=1:=by decide +kernel
def invS (x:Int):Int:=pmL 1019 1 x 1017
theorem invS_ok {x:Int} (h:El x) (h0:x≠0):El (invS x)∧c x*c (invS x)=1:=by
 have hb:=pmL_bd (m:=1019) (by decide) 10 1017 1 x (by decide) (by decide) (by decide) h.1
 refine ⟨⟨hb.1,by unfold invS;omega⟩,?_⟩
 unfold invS
 rw [pmL_c 10 1017 1 x (by decide) (by decide) h.1,c_one]
 have:=fermat (c x) (fun e=>h0 ((c_ne h).1 e))
 grind
def redStep (out r:List Int):List Int:=if out.getD (leadS r).toNat 0≠0 then addS out r (1019 - out.getD (leadS r).toNat 0) else out
def redS (rows:List (List Int)) (v:List Int):List Int:=rows.foldl redStep v
def elimS (w:List Int) (l:Nat) (r:List Int):List Int:=if r.getD l 0≠0 then addS r w (1019 - r.getD l 0) else r
def atTo (rows:List (List Int)) (l:Int):Nat→Nat
 | 0=>0
 | i+1=>if leadS (rows.getD i []) < l then i+1 else atTo rows l i
def insW (rows:List (List Int)) (v:List Int):List Int:=scaleS (redS rows v) (invS ((redS rows v).getD (leadS (redS rows v)).toNat 0))
def insE (rows:List (List Int)) (v:List Int):List (List Int):=rows.map (elimS (insW rows v) (leadS (redS rows v)).toNat)
def insS (rows:List (List Int)) (v:List Int):List (List Int)×Bool:=if leadS (redS rows v) < 0 then (rows,false) else
 ((insE rows v).take (atTo (insE rows v) (leadS (redS rows v)) rows.length)++[insW rows v]++(insE rows v).drop (atTo (insE rows v) (leadS (redS rows v)) rows.length),true)
def pv (rows:List (List Int)) (i:Nat):Nat:=(leadS (rows.getD i [])).toNat
structure RedL (n:Nat) (rows:List (List Int)):Prop where
 ok:∀ r∈rows,VokB n r
 nz:∀ r∈rows,0≤leadS r
 red:Red (rows.map vec) (pv rows)
theorem RedL.nil (n:Nat):RedL n []:=⟨by simp,by simp,⟨by simp,by simp,by simp,by simp⟩⟩
theorem row_vec {rows:List (List Int)} {i:Nat} (hi:i < rows.length):row (rows.map vec) i=vec (rows.getD i []):=by
 unfold row
 rw [List.getD_eq_getElem?_getD,List.getElem?_map,List.getElem?_eq_getElem hi,List.getD_eq_getElem?_getD,List.getElem?_eq_getElem hi];rfl
theorem getD_in {rows:List (List Int)} {i:Nat} (hi:i < rows.length):rows.getD i []∈rows:=by
 rw [List.getD_eq_getElem?_getD,List.getElem?_eq_getElem hi];exact List.getElem_mem hi
theorem elimS_ok {n:Nat} {w r:List Int} {l:Nat} (hw:VokB n w) (hr:VokB n r):VokB n (elimS w l r)∧vec (elimS w l r)=vadd (vec r) (-(vec r l)) (vec w):=by
 unfold elimS
 have hx:=hr.at_ l
 split
 ·have hk : El (1019 - r.getD l 0) := by unfold El at hx ⊢; omega
  obtain ⟨h1,h2⟩:=addS_ok hr hw hk
  exact ⟨h1,by rw [h2,c_neg hx];rfl⟩
 ·rename_i h
  refine ⟨hr,?_⟩
  have:r.getD l 0=0:=by omega
  funext j
  simp only [vadd]
  have e:vec r l=0:=by unfold vec;rw [this];rfl
  rw [e];grind
theorem RedL.uniq {n:Nat} {a b:List (List Int)} (ha:RedL n a) (hb:RedL n b) (h:∀ x,Span (a.map vec) x↔Span (b.map vec) x):a=b:=by
 have e:=ha.red.uniq hb.red (fun v=>(h v).1) (fun v=>(h v).2)
 have hl:a.length=b.length:=by have:=congrArg List.length e;simpa using this
 apply List.ext_getElem hl
 intro i h1 h2
 refine vec_inj (ha.ok _ (List.getElem_mem h1)) (hb.ok _ (List.getElem_mem h2)) ?_
 have:=congrArg (fun l:List V=>row l i) e
 rw [row_vec h1,row_vec h2,List.getD_eq_getElem?_getD,List.getD_eq_getElem?_getD,List.getElem?_eq_getElem h1,List.getElem?_eq_getElem h2] at this
 exact this
def ent (rows:List (List Int)) (i k:Nat):Int:=(rows.getD i []).getD k 0
def fnd (rows:List (List Int)) (k:Nat):Nat→Nat→Nat
 | 0,p=>p
 | f+1,p=>if p < rows.length∧ent rows p k=0 then fnd rows k f (p+1) else p
theorem fnd_spec {rows:List (List Int)} {k:Nat}:∀ (f p:Nat),rows.length≤p+f→p≤rows.length→p≤fnd rows k f p∧fnd rows k f p≤rows.length∧(∀ i,p≤i→i < fnd rows k f p→ent rows i k=0)∧(fnd rows k f p < rows.length→ent rows (fnd rows k f p) k≠0)
 | 0,p,h,hp=>by simp only [fnd];exact ⟨Nat.le_refl _,hp,fun i h1 h2=>absurd h2 (by omega),fun h=>by omega⟩
 | f + 1, p, h, hp => by
  simp only [fnd]
  split
  ·rename_i hc
   obtain ⟨h1,h2,h3,h4⟩:=fnd_spec (rows:=rows) (k:=k) f (p+1) (by omega) (by omega)
   exact ⟨by omega,h2,fun i h5 h6=>by
    by_cases e:i=p
    ·rw [e];exact hc.2
    ·exact h3 i (by omega) h6,h4⟩
  ·rename_i hc
   refine ⟨Nat.le_refl _,hp,fun i h1 h2=>absurd h2 (by omega),fun hl e=>hc ⟨hl,e⟩⟩
theorem fnd_uniq {rows:List (List Int)} {k p q:Nat} (hpl:p≤rows.length) (h1:p≤q) (h2:q≤rows.length) (h3:∀ i,p≤i→i < q→ent rows i k=0) (h4:q < rows.length→ent rows q k≠0):fnd rows k rows.length p=q:=by
 obtain ⟨a1,a2,a3,a4⟩:=fnd_spec (rows:=rows) (k:=k) rows.length p (by omega) hpl
 rcases Nat.lt_trichotomy (fnd rows k rows.length p) q with h | h | h
 ·exact absurd (h3 _ a1 h) (a4 (by omega))
 ·exact h
 ·exact absurd (a3 q h1 h) (h4 (by omega))
def gjLead (rows:List (List Int)) (b k:Nat):List Int:=scaleS (rows.getD b []) (invS (ent rows b k))
def gjMap (rows:List (List Int)) (a b k:Nat):List (List Int):=(List.range rows.length).map fun i=>if i=a then gjLead rows b k else elimS (gjLead rows b k) k (if i=b then rows.getD a [] else rows.getD i [])
def gjStep (s:List (List Int)×Nat) (k:Nat):List (List Int)×Nat:=if fnd s.1 k s.1.length s.2=s.1.length then s else (gjMap s.1 s.2 (fnd s.1 k s.1.length s.2) k,s.2+1)
def gjAt (m:List (List Int)):Nat→List (List Int)×Nat
 | 0=>(m,0)
 | k+1=>if (gjAt m k).2 < (gjAt m k).1.length then gjStep (gjAt m k) k else gjAt m k
def gjS (m:List (List Int)) (n:Nat):List (List Int):=(gjAt m n).1.take (gjAt m n).2
theorem gjMap_len (rows:List (List Int)) (a b k:Nat):(gjMap rows a b k).length=rows.length:=by simp [gjMap]
theorem vec_ent {rows:List (List Int)} {i k:Nat}:vec (rows.getD i []) k=c (ent rows i k):=rfl
theorem gj_inv {n:Nat} {m:List (List Int)} (hm:∀ r∈m,VokB n r):∀ k,(∀ r∈(gjAt m k).1,VokB n r)∧(gjAt m k).1.length=m.length∧((gjAt m k).2 < (gjAt m k).1.length→∃ p,Gj (m.map vec) ((gjAt m k).1.map vec) p k (gjAt m k).2)∧∃ p k',Gj (m.map vec) ((gjAt m k).1.map vec) p k' (gjAt m k).2
 | 0=>⟨hm,rfl,fun _=>⟨_,Gj.start _⟩,⟨_,_,Gj.start _⟩⟩
 | k + 1 => by
  obtain ⟨h1,h2,h3,h4⟩:=gj_inv hm k
  simp only [gjAt]
  by_cases hlt:(gjAt m k).2 < (gjAt m k).1.length
  ·rw [if_pos hlt]
   obtain ⟨p,hp⟩:=h3 hlt
   generalize gjAt m k=s at *
   obtain ⟨rows,a⟩:=s
   simp only at *
   obtain ⟨f1,f2,f3,f4⟩:=fnd_spec (rows:=rows) (k:=k) rows.length a (by omega) (by omega)
   unfold gjStep
   simp only
   generalize fnd rows k rows.length a=b at *
   by_cases hb:b=rows.length
   ·rw [if_pos hb]
    have hs:=hp.skip (fun r h5 h6=>by
     have h6':r < rows.length:=by simpa using h6
     rw [row_vec h6',vec_ent,f3 r h5 (by omega)];rfl)
    exact ⟨h1,h2,fun _=>⟨p,hs⟩,⟨p,_,hs⟩⟩
   ·rw [if_neg hb]
    have hbl:b < rows.length:=by omega
    have hbok:=h1 _ (getD_in hbl)
    have hex:El (ent rows b k):=hbok.at_ k
    obtain ⟨i1,i2⟩:=invS_ok hex (f4 hbl)
    obtain ⟨w1,w2⟩:=scaleS_ok hbok i1
    have hmap:(gjMap rows a b k).map vec=gjRows (rows.map vec) a b k (c (invS (ent rows b k))):=by
     unfold gjMap gjRows
     rw [List.map_map,List.length_map]
     apply List.map_congr_left
     intro i hi
     have hi':i < rows.length:=List.mem_range.1 hi
     simp only [Function.comp]
     by_cases e:i=a
     ·rw [if_pos e,if_pos e,row_vec hbl];exact w2
     ·rw [if_neg e, if_neg e]
      have hsw:VokB n (if i=b then rows.getD a [] else rows.getD i [])∧vec (if i=b then rows.getD a [] else rows.getD i [])=(if i=b then row (rows.map vec) a else row (rows.map vec) i):=by
       by_cases e2:i=b
       ·rw [if_pos e2,if_pos e2,row_vec hlt];exact ⟨h1 _ (getD_in hlt),rfl⟩
       ·rw [if_neg e2,if_neg e2,row_vec hi'];exact ⟨h1 _ (getD_in hi'),rfl⟩
      have:=elimS_ok (l:=k) w1 hsw.1
      rw [hsw.2] at this
      rw [row_vec hbl,← w2]
      exact this.2
    have hst:=hp.step f1 (by rw [List.length_map];exact hbl) (inv:=c (invS (ent rows b k))) (by rw [row_vec hbl,vec_ent];exact i2)
    rw [← hmap] at hst
    refine ⟨fun r hr=>?_,by rw [gjMap_len];exact h2,fun _=>⟨_,hst⟩,⟨_,_,hst⟩⟩
    unfold gjMap at hr
    obtain ⟨i,hi,rfl⟩:=List.mem_map.1 hr
    have hi':i < rows.length:=List.mem_range.1 hi
    split
    ·exact w1
    ·refine (elimS_ok (l := k) w1 ?_).1
     split
     ·exact h1 _ (getD_in hlt)
     ·exact h1 _ (getD_in hi')
  ·rw [if_neg hlt]
   exact ⟨h1,h2,fun h=>absurd h hlt,h4⟩
theorem gjS_ok {n:Nat} {m:List (List Int)} (hm:∀ r∈m,VokB n r):RedL n (gjS m n)∧∀ x,Span ((gjS m n).map vec) x↔Span (m.map vec) x:=by
 obtain ⟨h1,h2,h3,h4⟩:=gj_inv hm n
 unfold gjS
 have key:∃ p,Red (((gjAt m n).1.map vec).take (gjAt m n).2) p∧∀ v,Span (((gjAt m n).1.map vec).take (gjAt m n).2) v↔Span (m.map vec) v:=by
  by_cases hlt:(gjAt m n).2 < (gjAt m n).1.length
  ·obtain ⟨p, hp⟩ := h3 hlt
   exact ⟨p,hp.done (.inr ⟨Nat.le_refl n,fun r hr j hj=>by
    have hr':r < (gjAt m n).1.length:=by simpa using hr
    rw [row_vec hr']
    exact vec_out (by rw [(h1 _ (getD_in hr')).1];exact hj)⟩)⟩
  ·obtain ⟨p, k', hp⟩ := h4
   have:=hp.le
   rw [List.length_map] at this
   exact ⟨p,hp.done (n:=n) (.inl (by rw [List.length_map];omega))⟩
 obtain ⟨p,hr,hs⟩:=key
 rw [← List.map_take] at hr hs
 generalize hR:(gjAt m n).1.take (gjAt m n).2=R at *
 have hok:∀ r∈R,VokB n r:=fun r hr=>by rw [← hR] at hr;exact h1 r (List.mem_of_mem_take hr)
 have hlead:∀ i,i < R.length→leadS (R.getD i [])=p i:=fun i hi=>by
  have:=hr.lead (i:=i) (by simpa using hi)
  rw [row_vec hi] at this
  exact leadS_of (hok _ (getD_in hi)) this
 have hpv:∀ i,i < R.length→pv R i=p i:=fun i hi=>by
  show (leadS _).toNat=_;rw [hlead i hi];rfl
 have hl:(R.map vec).length=R.length:=by simp
 exact ⟨⟨hok,fun r hr=>by
  obtain ⟨i,hi,rfl⟩:=List.getElem_of_mem hr
  have:=hlead i hi
  rw [List.getD_eq_getElem?_getD,List.getElem?_eq_getElem hi] at this
  simp only [Option.getD_some] at this
  omega,⟨fun i j hij hj=>by rw [hpv i (by omega),hpv j (by omega)];exact hr.inc i j hij hj,fun i hi=>by rw [hpv i (by omega)];exact hr.one i hi,fun i hi j hj=>by rw [hpv i (by omega)] at hj;exact hr.zero i hi j hj,
   fun i k hi hk hne=>by rw [hpv k (by omega)];exact hr.clear i k hi hk hne⟩⟩,hs⟩
theorem gjS_red {n:Nat} {m:List (List Int)} (h:RedL n m):gjS m n=m:=(gjS_ok h.ok).1.uniq h (gjS_ok h.ok).2
def redAt (m:List (List Int)) (i:Nat):Prop:=(if i=0 then -1 else leadS (m.getD (i - 1) [])) < leadS (m.getD i [])∧(m.getD i []).getD (leadS (m.getD i [])).toNat 0=1∧∀ k,k < m.length→k≠i→(m.getD k []).getD (leadS (m.getD i [])).toNat 0=0
theorem redAt_iff {n:Nat} {m:List (List Int)} (hm:∀ r∈m,VokB n r):(∀ i,i < m.length→redAt m i)↔RedL n m:=by
 constructor
 ·intro h
  have hnz:∀ i,i < m.length→0≤leadS (m.getD i []):=by
   intro i
   induction i with
   | zero=>intro hi;have:=(h 0 hi).1;rw [if_pos rfl] at this;omega
   | succ i ih=>intro hi;have:=(h (i+1) hi).1;rw [if_neg (by omega)] at this;have:=ih (by omega);simp only [Nat.add_sub_cancel] at *;omega
  have hinc:∀ i j,i < j→j < m.length→leadS (m.getD i []) < leadS (m.getD j []):=by
   intro i j hij hj
   obtain ⟨d,rfl⟩:∃ d,j=i+1+d:=⟨j - i - 1,by omega⟩
   induction d with
   | zero=>have:=(h (i+1) hj).1;rw [if_neg (by omega)] at this;simpa using this
   | succ d ih =>
    have h1:=ih (by omega) (by omega)
    have h2:=(h (i+1+(d+1)) hj).1
    rw [if_neg (by omega),show i+1+(d+1) - 1=i+1+d by omega] at h2
    omega
  refine ⟨hm,fun r hr=>?_,fun i j hij hj=>?_,fun i hi=>?_,fun i hi j hj=>?_,fun i k hi hk hne=>?_⟩
  ·obtain ⟨i, hi, rfl⟩ := List.getElem_of_mem hr
   have:=hnz i hi
   rw [List.getD_eq_getElem?_getD,List.getElem?_eq_getElem hi] at this
   exact this
  ·rw [List.length_map] at hj
   have:=hinc i j hij hj;have:=hnz i (by omega)
   unfold pv;omega
  ·rw [List.length_map] at hi
   rw [row_vec hi]
   unfold vec pv
   rw [(h i hi).2.1];rfl
  ·rw [List.length_map] at hi
   rw [row_vec hi]
   unfold vec
   rw [(leadS_pos (hnz i hi)).2 j hj];rfl
  ·rw [List.length_map] at hi hk
   rw [row_vec hi]
   unfold vec pv
   rw [(h k hk).2.2 i hi hne];rfl
 ·intro h i hi
  have hl:(m.map vec).length=m.length:=by simp
  have hp:∀ i,i < m.length→leadS (m.getD i [])=(pv m i:Int):=fun i hi=>by
   have:=h.nz _ (getD_in hi)
   unfold pv;omega
  refine ⟨?_,?_,fun k hk hne=>?_⟩
  ·by_cases e : i = 0
   ·rw [if_pos e];have:=h.nz _ (getD_in hi);omega
   ·rw [if_neg e, hp i hi, hp (i - 1) (by omega)]
    have:=h.red.inc (i - 1) i (by omega) (by omega);omega
  ·have := h.red.one i (by omega)
   rw [row_vec hi] at this
   exact c_inj ((h.ok _ (getD_in hi)).at_ _) (by unfold El;omega) (this.trans c_one.symm)
  ·have := h.red.clear k i (by omega) (by omega) hne
   rw [row_vec hk] at this
   exact (c_ne ((h.ok _ (getD_in hk)).at_ _)).1 this
theorem gjS_iff {n:Nat} {m:List (List Int)} (hm:∀ r∈m,VokB n r):gjS m n=m↔RedL n m:=⟨fun h=>by rw [← h];exact (gjS_ok hm).1,gjS_red⟩
theorem RedL.len {n:Nat} {rows:List (List Int)} (h:RedL n rows):rows.length≤n:=by
 have hp:∀ i,i < rows.length→i≤pv rows i:=by
  intro i
  induction i with
  | zero=>intro _;exact Nat.zero_le _
  | succ i ih=>intro hi;have:=ih (by omega);have:=h.red.inc i (i+1) (by omega) (by simpa using hi);omega
 rcases Nat.eq_zero_or_pos rows.length with h0 | h0
 ·omega
 ·have h1 := hp (rows.length - 1) (by omega)
  have hm:=getD_in (show rows.length - 1 < rows.length by omega)
  have h2:=h.nz _ hm
  have h3:=leadS_bd (rows.getD (rows.length - 1) [])
  have h4:=(h.ok _ hm).1
  unfold pv at h1
  omega
theorem VokB.rng {n:Nat} {v:List Int} (h:VokB n v) (j:Nat):0≤v.getD j 0∧v.getD j 0≤1018:=h.at_ j
theorem RedL.at_ {n:Nat} {rows:List (List Int)} (h:RedL n rows) {i:Nat} (hi:i < rows.length):VokB n (rows.getD i [])∧0≤leadS (rows.getD i [])∧leadS (rows.getD i []) < (n:Int):=by
 have hm:=getD_in hi
 have h2:=h.nz _ hm
 have h3:=leadS_bd (rows.getD i [])
 have h4:=h.ok _ hm
 exact ⟨h4,h2,by have:=h4.1;omega⟩
theorem elimS_yes {w r:List Int} {l:Nat} (h:r.getD l 0≠0):elimS w l r=addS r w (1019 - r.getD l 0):=if_pos h
theorem elimS_no {w r:List Int} {l:Nat} (h:r.getD l 0=0):elimS w l r=r:=if_neg (fun e=>e h)
theorem gjAt_le (m:List (List Int)):∀ k,(gjAt m k).2≤(gjAt m k).1.length
 | 0=>Nat.zero_le _
 | k + 1 => by
  have:=gjAt_le m k
  simp only [gjAt]
  split
  ·unfold gjStep
   split
   ·exact this
   ·rw [gjMap_len];omega
  ·exact this
theorem gjAt_stop {m:List (List Int)} {k:Nat} (h:¬ (gjAt m k).2 < (gjAt m k).1.length):∀ d,gjAt m (k+d)=gjAt m k
 | 0=>rfl
 | d + 1 => by
  have ih:=gjAt_stop h d
  show (if (gjAt m (k+d)).2 < (gjAt m (k+d)).1.length then _ else gjAt m (k+d))=_
  rw [if_neg (by rw [ih];exact h),ih]
theorem gjAt_none {m:List (List Int)} {k:Nat} (h:(gjAt m k).2 < (gjAt m k).1.length) (hf:fnd (gjAt m k).1 k (gjAt m k).1.length (gjAt m k).2=(gjAt m k).1.length):gjAt m (k+1)=gjAt m k:=by
 show (if _ then _ else _)=_
 rw [if_pos h];exact if_pos hf
theorem gjAt_step {m:List (List Int)} {k:Nat} (h:(gjAt m k).2 < (gjAt m k).1.length) (hf:fnd (gjAt m k).1 k (gjAt m k).1.length (gjAt m k).2≠(gjAt m k).1.length):gjAt m (k+1)=(gjMap (gjAt m k).1 (gjAt m k).2 (fnd (gjAt m k).1 k (gjAt m k).1.length (gjAt m k).2) k,(gjAt m k).2+1):=by
 show (if _ then _ else _)=_
 rw [if_pos h];exact if_neg hf
def gjBase (rows:List (List Int)) (a b k:Nat):List (List Int):=(rows.set b (rows.getD a [])).set a (gjLead rows b k)
def gjMid (rows:List (List Int)) (a b k i:Nat):List (List Int):=(gjMap rows a b k).take i++(gjBase rows a b k).drop i
theorem gjBase_len {rows:List (List Int)} {a b k:Nat}:(gjBase rows a b k).length=rows.length:=by simp [gjBase]
theorem gjMid_len {rows:List (List Int)} {a b k i:Nat}:(gjMid rows a b k i).length=rows.length:=by simp [gjMid,gjBase_len,gjMap_len];omega
theorem gjMid_all {rows:List (List Int)} {a b k i:Nat} (h:rows.length≤i):gjMid rows a b k i=gjMap rows a b k:=by
 unfold gjMid
 rw [List.take_of_length_le (by rw [gjMap_len];exact h),List.drop_eq_nil_of_le (by rw [gjBase_len];exact h),List.append_nil]
theorem gjBase_at {rows:List (List Int)} {a b k i:Nat} (hi:i < rows.length):(gjBase rows a b k).getD i []=if i=a then gjLead rows b k else if i=b then rows.getD a [] else rows.getD i []:=by
 unfold gjBase
 simp only [List.getD_eq_getElem?_getD]
 by_cases ha:i=a
 ·subst ha;rw [if_pos rfl,List.getElem?_set_self (by simpa using hi)];rfl
 ·rw [if_neg ha, List.getElem?_set_ne (fun e => ha e.symm)]
  by_cases hb:i=b
  ·subst hb;rw [if_pos rfl,List.getElem?_set_self hi];rfl
  ·rw [if_neg hb,List.getElem?_set_ne (fun e=>hb e.symm)]
theorem gjMap_at {rows:List (List Int)} {a b k i:Nat} (hi:i < rows.length):(gjMap rows a b k).getD i []=if i=a then gjLead rows b k else elimS (gjLead rows b k) k (if i=b then rows.getD a [] else rows.getD i []):=by
 unfold gjMap
 rw [List.getD_eq_getElem?_getD,List.getElem?_map,List.getElem?_range hi];rfl
theorem gjMid_hi {rows:List (List Int)} {a b k i j:Nat} (hi:i≤j) (hj:j < rows.length):(gjMid rows a b k i).getD j []=(gjBase rows a b k).getD j []:=by
 have hl:(List.take i (gjMap rows a b k)).length=i:=by simp [gjMap_len];omega
 unfold gjMid
 simp only [List.getD_eq_getElem?_getD]
 rw [List.getElem?_append_right (by omega),hl,List.getElem?_drop,show i+(j - i)=j by omega]
theorem gjMid_lo {rows:List (List Int)} {a b k i j:Nat} (hi:j < i) (hj:j < rows.length):(gjMid rows a b k i).getD j []=(gjMap rows a b k).getD j []:=by
 have hl:(List.take i (gjMap rows a b k)).length=min i rows.length:=by simp [gjMap_len]
 unfold gjMid
 simp only [List.getD_eq_getElem?_getD]
 rw [List.getElem?_append_left (by omega),List.getElem?_take_of_lt hi]
theorem gjMid_piv {rows:List (List Int)} {a b k i:Nat} (ha:a < rows.length):(gjMid rows a b k i).getD a []=gjLead rows b k:=by
 rcases Nat.lt_or_ge a i with h | h
 ·rw [gjMid_lo h ha,gjMap_at ha,if_pos rfl]
 ·rw [gjMid_hi h ha,gjBase_at ha,if_pos rfl]
theorem gjMid_next {rows:List (List Int)} {a b k i:Nat} (hi:i < rows.length):gjMid rows a b k (i+1)=(gjMid rows a b k i).set i ((gjMap rows a b k).getD i []):=by
 have hl:(List.take i (gjMap rows a b k)).length=i:=by simp [gjMap_len];omega
 unfold gjMid
 have h1:i < (gjMap rows a b k).length:=by rw [gjMap_len];exact hi
 have h2:i < (gjBase rows a b k).length:=by rw [gjBase_len];exact hi
 rw [List.set_append_right _ _ (by omega),hl,Nat.sub_self,List.take_succ_eq_append_getElem h1,List.append_assoc]
 congr 1
 rw [← List.getElem_cons_drop h2,List.set_cons_zero,List.getD_eq_getElem?_getD,List.getElem?_eq_getElem h1];rfl
theorem gjMid_same {rows:List (List Int)} {a b k i:Nat} (hi:i < rows.length) (h:i=a∨((gjMid rows a b k i).getD i []).getD k 0=0):gjMid rows a b k (i+1)=gjMid rows a b k i:=by
 have e:(gjMap rows a b k).getD i []=(gjMid rows a b k i).getD i []:=by
  rw [gjMid_hi (Nat.le_refl _) hi,gjMap_at hi,gjBase_at hi]
  by_cases ha:i=a
  ·rw [if_pos ha,if_pos ha]
  ·rw [if_neg ha, if_neg ha]
   rw [gjMid_hi (Nat.le_refl _) hi,gjBase_at hi,if_neg ha] at h
   rcases h with h | h
   ·exact absurd h ha
   ·exact elimS_no h
 rw [gjMid_next hi,e]
 apply List.ext_getElem?
 intro j
 by_cases hj:j=i
 ·subst hj
  rw [List.getElem?_set_self (by rw [gjMid_len];exact hi),List.getD_eq_getElem?_getD,List.getElem?_eq_getElem (by rw [gjMid_len];exact hi)];rfl
 ·rw [List.getElem?_set_ne (fun e=>hj e.symm)]
theorem gjMid_add {rows:List (List Int)} {a b k i:Nat} (hi:i < rows.length) (ha:i≠a) (h:((gjMid rows a b k i).getD i []).getD k 0≠0):gjMid rows a b k (i+1)=(gjMid rows a b k i).set i (addS ((gjMid rows a b k i).getD i []) (gjLead rows b k) (1019 - ((gjMid rows a b k i).getD i []).getD k 0)):=by
 rw [gjMid_next hi]
 congr 1
 rw [gjMid_hi (Nat.le_refl _) hi,gjBase_at hi,if_neg ha] at h ⊢
 rw [gjMap_at hi,if_neg ha]
 exact elimS_yes h
theorem gjLead_ok {n:Nat} {rows:List (List Int)} {b k:Nat} (h:∀ r∈rows,VokB n r) (hb:b < rows.length) (hz:ent rows b k≠0):VokB n (gjLead rows b k) :=
 (scaleS_ok (h _ (getD_in hb)) (invS_ok ((h _ (getD_in hb)).at_ k) hz).1).1
theorem gjBase_ok {n:Nat} {rows:List (List Int)} {a b k:Nat} (h:∀ r∈rows,VokB n r) (ha:a < rows.length) (hb:b < rows.length) (hz:ent rows b k≠0) {i:Nat} (hi:i < rows.length):VokB n ((gjBase rows a b k).getD i []):=by
 rw [gjBase_at hi]
 split
 ·exact gjLead_ok h hb hz
 ·split
  ·exact h _ (getD_in ha)
  ·exact h _ (getD_in hi)
def gp (m:List (List Int)) (k:Nat):Nat:=fnd (gjAt m k).1 k (gjAt m k).1.length (gjAt m k).2
theorem gp_eq {m:List (List Int)} {k j:Nat} (h:(gjAt m k).2+j≤(gjAt m k).1.length) (h3:∀ i,(gjAt m k).2≤i→i < (gjAt m k).2+j→ent (gjAt m k).1 i k=0) (h4:(gjAt m k).2+j < (gjAt m k).1.length→ent (gjAt m k).1 ((gjAt m k).2+j) k≠0):gp m k=(gjAt m k).2+j :=
 fnd_uniq (gjAt_le m k) (by omega) h h3 h4
theorem gp_bd (m:List (List Int)) (k:Nat):(gjAt m k).2≤gp m k∧gp m k≤(gjAt m k).1.length∧(gp m k < (gjAt m k).1.length→ent (gjAt m k).1 (gp m k) k≠0):=by
 obtain ⟨h1,h2,_,h4⟩:=fnd_spec (rows:=(gjAt m k).1) (k:=k) (gjAt m k).1.length (gjAt m k).2 (by omega) (gjAt_le m k)
 exact ⟨h1,h2,h4⟩
theorem ent_step {R:List (List Int)} {a j k:Nat} (h:∀ i,a≤i→i < a+j→ent R i k=0) (h2:(R.getD (a+j) []).getD k 0=0):∀ i,a≤i→i < a+(j+1)→ent R i k=0:=fun i h3 h4=>by
 by_cases e:i=a+j
 ·rw [e];exact h2
 ·exact h i h3 (by omega)
def gm (m:List (List Int)) (k i:Nat):List (List Int):=gjMid (gjAt m k).1 (gjAt m k).2 (gp m k) k i
theorem gm_len (m:List (List Int)) (k i:Nat):(gm m k i).length=(gjAt m k).1.length:=gjMid_len
theorem gm_ok {n:Nat} {m:List (List Int)} {k i:Nat} (hm:∀ r∈m,VokB n r) (ha:(gjAt m k).2 < (gjAt m k).1.length) (hp:gp m k < (gjAt m k).1.length) (hi:i < (gjAt m k).1.length):VokB n ((gm m k i).getD i []):=by
 unfold gm;rw [gjMid_hi (Nat.le_refl _) hi];exact gjBase_ok (gj_inv hm k).1 ha hp ((gp_bd m k).2.2 hp) hi
theorem gm_piv {n:Nat} {m:List (List Int)} {k i:Nat} (hm:∀ r∈m,VokB n r) (ha:(gjAt m k).2 < (gjAt m k).1.length) (hp:gp m k < (gjAt m k).1.length):VokB n ((gm m k i).getD (gjAt m k).2 []):=by
 unfold gm;rw [gjMid_piv ha];exact gjLead_ok (gj_inv hm k).1 hp ((gp_bd m k).2.2 hp)
theorem gm_same {m:List (List Int)} {k i:Nat} (hi:i < (gjAt m k).1.length) (h:i=(gjAt m k).2∨((gm m k i).getD i []).getD k 0=0):gm m k (i+1)=gm m k i:=gjMid_same hi h
theorem gm_add {m:List (List Int)} {k i:Nat} (hi:i < (gjAt m k).1.length) (ha':(gjAt m k).2 < (gjAt m k).1.length) (ha:i≠(gjAt m k).2) (h:((gm m k i).getD i []).getD k 0≠0):gm m k (i+1)=(gm m k i).set i (addS ((gm m k i).getD i []) ((gm m k i).getD (gjAt m k).2 []) (1019 - ((gm m k i).getD i []).getD k 0)):=by
 have e:=gjMid_add (b:=gp m k) hi ha h
 rw [← gjMid_piv (i:=i) ha'] at e
 exact e
theorem gm_zero {m:List (List Int)} {k:Nat} {w:List Int} (h:w=gjLead (gjAt m k).1 (gp m k) k):((gjAt m k).1.set (gp m k) ((gjAt m k).1.getD (gjAt m k).2 [])).set (gjAt m k).2 w=gm m k 0:=by rw [h];rfl
theorem gm_none {m:List (List Int)} {k:Nat} (h:(gjAt m k).2 < (gjAt m k).1.length) (hf:gp m k=(gjAt m k).1.length):gjAt m (k+1)=gjAt m k:=gjAt_none h hf
theorem gm_done {m:List (List Int)} {k i:Nat} (h:(gjAt m k).2 < (gjAt m k).1.length) (hf:gp m k≠(gjAt m k).1.length) (hi:(gjAt m k).1.length≤i):gjAt m (k+1)=(gm m k i,(gjAt m k).2+1):=by
 rw [gjAt_step h hf];unfold gm;rw [gjMid_all hi];rfl
theorem gm_end {m:List (List Int)} {k n:Nat} (hk:k≤n) (h:k=n∨¬ (gjAt m k).2 < (gjAt m k).1.length):(gjAt m k).1.take (gjAt m k).2=gjS m n:=by
 unfold gjS
 rcases h with h | h
 ·rw [h]
 ·have := gjAt_stop h (n - k)
  rw [show k+(n - k)=n by omega] at this
  rw [this]
end LA
