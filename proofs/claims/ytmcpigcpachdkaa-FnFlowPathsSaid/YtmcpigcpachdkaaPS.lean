/- Walking a function that changes arguments in place: entry and end. No program is named; no condition. -/
import Derived.Test.YtmcpigcpachdkaaPT
namespace Go.Proofs.Ytmcpigcpachdkaa
open Go.RowKit
set_option linter.unusedVariables false
set_option linter.unusedSimpArgs false
def hdrs:(s:Sh)→List Value→List Value
 | .pair a b,cs=>hdrs a (cs.take a.size)++hdrs b (cs.drop a.size)
 | .st _ a,cs=>hdrs a cs
 | .sl _ _,cs=>cs
 | _,_=>[]
def ptr0:Value→Value
 | .pointer (some a)=>.pointer (some ⟨a.block,0,none⟩)
 | u=>u
def Kd.hdrs (s:Sh) (u:Value):Kd→List Value
 | .io=>Go.Proofs.Ytmcpigcpachdkaa.hdrs s u.cells.toList
 | .bx _ _=>[ptr0 u]
 | _=>[]
def Kd.pinN (s:Sh):Kd→Nat
 | .io=>s.cnt
 | .bx _ _=>1
 | _=>0
def Kd.inN (s:Sh):Kd→Nat
 | .rd=>0
 | .io | .tk=>s.cnt
 | .bx _ _=>s.cnt+1
def hdrsA:List Kd→(l:List Sh)→List Value→List Value
 | k::ks,s::l,u::us=>k.hdrs s u++hdrsA ks l us
 | _,_,_=>[]
def pinIds:List Kd→List Sh→List Nat→List Nat
 | k::ks,s::l,ids=>ids.take (k.pinN s)++pinIds ks l (ids.drop (k.inN s))
 | _,_,_=>[]
def cntI:List Kd→List Sh→Nat
 | k::ks,s::l=>k.inN s+cntI ks l
 | _,_=>0
def Sum.hd (S:Sum) (us:List Value) (k:Nat):Value:=(hdrsA S.kinds S.dom us).getD k undef
def Kd.inPV (s:Sh) (x:s.D) (ids:List Nat):Kd→PV
 | .rd=>s.pv (s.cvs false x)
 | .io | .tk=>s.pv (resC true s x ids).1
 | .bx _ off=>.c (.ptr (ids.headD 0) off)
def Kd.inOb (s:Sh) (x:s.D) (ids:List Nat):Kd→List (Nat×Option Ob)
 | .rd=>[]
 | .io | .tk=>(resC true s x ids).2.1
 | .bx t _=>[(ids.headD 0,some (.bx t (resC true s x ids.tail).1))]++(resC true s x ids.tail).2.1
def inP:List Kd→(l:List Sh)→Dom l→List Nat→List PV×List (Nat×Option Ob)
 | k::ks,s::l,x,ids=>(k.inPV s x.1 ids::(inP ks l x.2 (ids.drop (k.inN s))).1,(inP ks l x.2 (ids.drop (k.inN s))).2++k.inOb s x.1 ids)
 | _,_,_,_=>([],[])
def pins:List Nat→List Nat→Nat→(Nat→Value)→List (Nat×Option Ob)
 | i::is,g::gs,k,v=>pins is gs (k+1) v++[(g,some (.pin i (v k)))]
 | _,_,_,_=>[]
def inI (S:Sum) (ids gs:List Nat) (us:List Value) (x:Dom S.dom):St:=⟨numA 0 (inP S.kinds S.dom x ids).1,pins (pinIds S.kinds S.dom ids) gs 0 (S.hd us)++(inP S.kinds S.dom x ids).2⟩
section
variable {P:Program} {w0:World} {Z0:Nat→Prop} {L:List Nat} {N:Nat} {K:List Nat} {σ:St} {a:Act} {w:World} {Z:Nat→Prop} {E:Env}
theorem hdrs_len:∀ (s:Sh) {cs:List Value} {x:s.D} {F:List Nat},s.ow w cs x F→(hdrs s cs).length=s.cnt
 | .int _,_,_,_,_=>rfl
 | .bool _,_,_,_,_=>rfl
 | .u8 _,_,_,_,_=>rfl
 | .str _,_,_,_,_=>rfl
 | .st _ p,_,_,_,h=>hdrs_len p h
 | .sl _ p,_,_,_,h=>by obtain ⟨v,vs,Fs,rfl,_⟩:=h;rfl
 | .pair p q, cs, x, F, h => by
  obtain ⟨c,d,G,H,rfl,rfl,h1,h2⟩:=h
  have hlc:c.length=p.size:=p.rd_len (p.ow_rd (Z:=fun _=>True) h1 fun _ _=>trivial)
  show (hdrs p ((c++d).take p.size)++hdrs q ((c++d).drop p.size)).length=p.cnt+q.cnt
  rw [← hlc,List.take_left,List.drop_left,List.length_append,hdrs_len p h1,hdrs_len q h2]
theorem resC_hdr:∀ (s:Sh) {cs:List Value} {x y:s.D} {F:List Nat} {ids:List Nat},s.ow w cs y F→dens E Z w (resC true s x ids).1 cs→(resC true s x ids).2.2=ids.drop s.cnt→∀ k,k < s.cnt→(hdrs s cs).getD k undef=E.hdr (ids.getD k 0)
 | .int _,_,_,_,_,_,_,_,_,k,hk=>by simp [Sh.cnt] at hk
 | .bool _,_,_,_,_,_,_,_,_,k,hk=>by simp [Sh.cnt] at hk
 | .u8 _,_,_,_,_,_,_,_,_,k,hk=>by simp [Sh.cnt] at hk
 | .str _,_,_,_,_,_,_,_,_,k,hk=>by simp [Sh.cnt] at hk
 | .st _ p,cs,x,y,F,ids,ho,hd,hj,k,hk=>resC_hdr p (x:=x) (y:=y) ho hd hj k hk
 | .sl _ p, cs, x, y, F, ids, ho, hd, hj, k, hk => by
  obtain ⟨v,vs,Fs,rfl,_⟩:=ho
  have:k=0:=by simp [Sh.cnt] at hk;exact hk
  subst this
  have hv:v=E.hdr (ids.headD 0):=hd.1
  cases ids with
  | nil=>simp [hdrs,hv]
  | cons i is=>simp [hdrs,hv]
 | .pair p q, cs, x, y, F, ids, ho, hd, hj, k, hk => by
  obtain ⟨c,d,G,H,rfl,rfl,h1,h2⟩:=ho
  have hlc:c.length=p.size:=p.rd_len (p.ow_rd (Z:=fun _=>True) h1 fun _ _=>trivial)
  have hl1:∀ (s:Sh) (x:s.D) (ids:List Nat),(resC true s x ids).1.length=s.size∧(resC true s x ids).2.2=ids.drop s.cnt:=by
   intro s
   induction s with
   | pair p q ihp ihq =>
    intro x ids
    have e1:=ihp x.1 ids
    have e2:=ihq x.2 (resC true p x.1 ids).2.2
    refine ⟨?_,?_⟩
    ·show ((resC true p x.1 ids).1 ++ (resC true q x.2 (resC true p x.1 ids).2.2).1).length = p.size + q.size
     rw [List.length_append,e1.1,e2.1]
    ·show (resC true q x.2 (resC true p x.1 ids).2.2).2.2 = ids.drop (p.cnt + q.cnt)
     rw [e2.2,e1.2,List.drop_drop]
   | st t p ih=>intro x ids;exact ih x ids
   | sl t p _=>intro x ids;exact ⟨rfl,by simp [resC,Sh.cnt]⟩
   | int t=>intro x ids;exact ⟨rfl,by simp [resC,Sh.cnt]⟩
   | bool t=>intro x ids;exact ⟨rfl,by simp [resC,Sh.cnt]⟩
   | u8 t=>intro x ids;exact ⟨rfl,by simp [resC,Sh.cnt]⟩
   | str t=>intro x ids;exact ⟨rfl,by simp [resC,Sh.cnt]⟩
   | fn0 f=>intro x ids;exact ⟨rfl,by simp [resC,Sh.cnt]⟩
   | fn f p _=>intro x ids;exact ⟨rfl,by simp [resC,Sh.cnt]⟩
   | pt p _=>intro x ids;exact ⟨rfl,by simp [resC,Sh.cnt]⟩
  have e1:=hl1 p x.1 ids
  have hd:dens E Z w ((resC true p x.1 ids).1++(resC true q x.2 (resC true p x.1 ids).2.2).1) (c++d):=hd
  have hd1:=hd.take_ p.size
  have hd2:=hd.drop_ p.size
  rw [List.take_append_of_le_length (by omega),List.take_of_length_le (by omega),← hlc,List.take_left] at hd1
  rw [← e1.1,List.drop_left,e1.1,← hlc,List.drop_left] at hd2
  rw [e1.2] at hd2
  show (hdrs p ((c++d).take p.size)++hdrs q ((c++d).drop p.size)).getD k undef=_
  rw [← hlc,List.take_left,List.drop_left]
  have hln:=hdrs_len p h1
  by_cases hkp:k < p.cnt
  ·rw [List.getD_eq_getElem?_getD, List.getElem?_append_left (by omega), ← List.getD_eq_getElem?_getD]
   exact resC_hdr p h1 hd1 e1.2 k hkp
  ·have hk' : k - p.cnt < q.cnt := by have : k < p.cnt + q.cnt := hk; omega
   have:=resC_hdr q (x:=x.2) (ids:=ids.drop p.cnt) h2 hd2 (hl1 q x.2 _).2 (k - p.cnt) hk'
   rw [List.getD_eq_getElem?_getD,List.getElem?_append_right (by omega),hln,← List.getD_eq_getElem?_getD,this]
   simp only [List.getD_eq_getElem?_getD,List.getElem?_drop]
   rw [show p.cnt+(k - p.cnt)=k by omega]
theorem pv_ids {s:Sh} {cs:List CV} {i:Nat} (h:i∈(s.pv cs).ids):i∈cs.flatMap CV.ids:=by
 unfold Sh.pv at h
 cases hag:s.agg with
 | true=>rw [hag] at h;exact h
 | false =>
  rw [hag] at h
  cases cs with
  | nil=>simp [PV.ids,CV.ids] at h
  | cons c cs=>rw [List.flatMap_cons];exact List.mem_append.2 (.inl h)
theorem pv_den {s:Sh} {cs:List CV} {u:Value} (hform:resForm s u) (hd:dens E Z w cs u.cells.toList):(s.pv cs).den E Z w u:=by
 unfold Sh.pv
 cases hag:s.agg with
 | true =>
  obtain ⟨vs,hv⟩:=hform.1 hag
  rw [hv] at hd
  exact ⟨vs,hv,hd⟩
 | false =>
  have h1c:=hform.2 hag
  rw [cells_one h1c] at hd
  match cs,hd with
  | [c],hd=>exact hd.1
theorem drop_nodup {l:List Nat} (n:Nat) (h:l.Nodup):(l.drop n).Nodup∧∀ i∈l.drop n,i ∉ l.take n:=by
 rw [← List.take_append_drop n l] at h
 have:=List.nodup_append.1 h
 exact ⟨this.2.1,fun i h1 h2=>this.2.2 i h2 i h1 rfl⟩
theorem in_one {K:List Nat} {σ:St} {E:Env} (h:RelE w0 Z0 L N K σ a w E Z) {s:Sh} {u:Value}:∀ {k:Kd} {x:s.D} {G ids:List Nat},k.arg w Z s u x G→G.Nodup→(∀ b∈G,Free w0 L σ w E Z b)→ids.Nodup→(∀ i∈ids,i ∉ K)→k.inN s≤ids.length →
  ∃ E' K',RelE w0 Z0 L N K' (σ.add (k.inOb s x ids)) a w E' Z∧(k.inPV s x ids).den E' Z w u∧(∀ i∈(k.inPV s x ids).ids,i∈K')∧(∀ i,i∈K'↔i∈ids.take (k.inN s)∨i∈K)∧(∀ i∈K,E'.hdr i=E.hdr i) ∧
   (∀ b,Free w0 L σ w E Z b→b ∉ G→Free w0 L (σ.add (k.inOb s x ids)) w E' Z b)∧(k.hdrs s u).length=k.pinN s∧∀ j,j < k.pinN s→(k.hdrs s u).getD j undef=E'.hdr (ids.getD j 0):=by
 intro k x G ids ha hn hf hi hik hc
 cases k with
 | rd =>
  obtain ⟨ha,rfl⟩:=ha
  have ha1:=args_den (E:=E) [s] (us:=[u]) (y:=(x,())) ⟨ha,trivial⟩
  exact ⟨E, K, h, ha1.1.1, fun i hi' => by have h0 := ha1.2; have : (s.pv (s.cvs false x)).ids = [] := by simpa [frzP] using h0
                                           rw [show (Kd.rd.inPV s x ids)=s.pv (s.cvs false x) from rfl,this] at hi';simp at hi',by simp [Kd.inN],fun _ _=>rfl,fun b hb _=>hb,rfl,fun j hj=>by simp [Kd.pinN] at hj⟩
 | io =>
  obtain ⟨how,hform⟩:=ha
  obtain ⟨E1,K1,r1,d1,i1,j1,k1,e1,f1⟩:=adopt_res s (dp:=true) (y:=x) h (ow_res s how) hn hf hi hik hc
  exact ⟨E1,K1,r1,pv_den hform d1,fun i hi'=>i1 i (pv_ids hi'),k1,e1,f1,hdrs_len s how,resC_hdr s (x:=x) (ids:=ids) how d1 j1⟩
 | tk =>
  obtain ⟨how,hform⟩:=ha
  obtain ⟨E1,K1,r1,d1,i1,j1,k1,e1,f1⟩:=adopt_res s (dp:=true) (y:=x) h (ow_res s how) hn hf hi hik hc
  exact ⟨E1,K1,r1,pv_den hform d1,fun i hi'=>i1 i (pv_ids hi'),k1,e1,f1,rfl,fun j hj=>by simp [Kd.pinN] at hj⟩
 | bx t off =>
  obtain ⟨b,vs,H,rfl,hbx,how,rfl⟩:=ha
  cases ids with
  | nil=>simp [Kd.inN] at hc
  | cons o ids =>
   have hn':=List.nodup_cons.1 hn
   have hi':=List.nodup_cons.1 hi
   have hc':s.cnt≤ids.length:=by simpa [Kd.inN] using hc
   obtain ⟨E1,K1,r1,d1,i1,j1,k1,e1,f1⟩:=adopt_res s (dp:=true) (y:=x) h (ow_res s how) hn'.2 (fun b hb=>hf b (by simp [hb])) hi'.2 (fun i hi2=>hik i (by simp [hi2])) hc'
   have hoK1:o ∉ K1:=fun hm=>by
    rcases (k1 o).1 hm with h' | h'
    ·exact hi'.1 (List.mem_of_mem_take h')
    ·exact hik o (by simp) h'
   have hset:∀ j,j≠o→(E1.set o (.pointer (some ⟨b,0,none⟩)) [b]).hdr j=E1.hdr j:=fun j hj=>by simp [Env.set,hj]
   have hsetK:∀ j∈K1,(E1.set o (.pointer (some ⟨b,0,none⟩)) [b]).hdr j=E1.hdr j:=fun j hj=>hset j fun e=>hoK1 (e ▸ hj)
   have hself:(E1.set o (.pointer (some ⟨b,0,none⟩)) [b]).hdr o=.pointer (some ⟨b,0,none⟩):=by simp [Env.set]
   have r2:=r1.adopt (id:=o) hoK1 (ob:=.bx t (resC true s x ids).1) (hd:=.pointer (some ⟨b,0,none⟩)) (F:=[b]) ⟨b,vs,rfl,rfl,hbx,d1.keep hsetK (fun _ h=>h) (fun _ _=>rfl) i1⟩ (by simp) (fun b' hb'=>by
    have e:b'=b:=by simpa using hb'
    subst e
    exact f1 b' (hf b' (by simp)) hn'.1) rfl i1
   refine ⟨_,o::K1,?_,⟨b,hself,rfl⟩,fun i hi2=>?_,fun i=>?_,fun i hi2=>?_,fun b' hb' hbG=>?_,rfl,fun j hj=>?_⟩
   ·show RelE w0 Z0 L N _ (σ.add ([(o, some (.bx t (resC true s x ids).1))] ++ (resC true s x ids).2.1)) a w _ Z
    rw [← add_add];exact r2
   ·have : i = o := by simpa [Kd.inPV, PV.ids, CV.ids] using hi2
    simp [this]
   ·simp only [Kd.inN, List.take_succ_cons, List.mem_cons, k1 i]
    constructor
    ·rintro (h | h | h)
     ·exact .inl (.inl h)
     ·exact .inl (.inr h)
     ·exact .inr h
    ·rintro ((h | h) | h)
     ·exact .inl h
     ·exact .inr (.inl h)
     ·exact .inr (.inr h)
   ·rw [hset i fun e=>hik o (by simp) (e ▸ hi2)];exact e1 i hi2
   ·have hb1 := f1 b' hb' fun hm => hbG (by simp [hm])
    show Free w0 L (σ.add ([(o,some (.bx t (resC true s x ids).1))]++(resC true s x ids).2.1)) w _ Z b'
    rw [← add_add]
    refine ⟨hb1.1,hb1.2.1,hb1.2.2.1,fun o' x' ho'=>?_⟩
    rcases add_one ho' with ⟨rfl,rfl⟩ | ⟨h1,h2⟩
    ·simp only [Env.set,if_true];intro hm;exact hbG (by simp at hm;simp [hm])
    ·simp only [Env.set,h1,if_false];exact hb1.2.2.2 o' x' h2
   ·have : j = 0 := by simp [Kd.pinN] at hj; exact hj
    subst this
    simp only [Kd.hdrs,ptr0,List.getD_cons_zero]
    exact hself.symm
theorem adopt_in:∀ {ks:List Kd} {l:List Sh} {K:List Nat} {σ:St} {E:Env} {us:List Value} {x:Dom l} {F ids:List Nat},RelE w0 Z0 L N K σ a w E Z→argsIO w Z ks l us x F→F.Nodup→(∀ b∈F,Free w0 L σ w E Z b)→ids.Nodup→(∀ i∈ids,i ∉ K)→cntI ks l≤ids.length →
  ∃ E' K',RelE w0 Z0 L N K' (σ.add (inP ks l x ids).2) a w E' Z∧pdens E' Z w (inP ks l x ids).1 us∧(∀ i∈((inP ks l x ids).1).flatMap PV.ids,i∈K')∧(∀ i,i∈K'↔i∈ids.take (cntI ks l)∨i∈K)∧(∀ i∈K,E'.hdr i=E.hdr i) ∧
   (hdrsA ks l us).length=(pinIds ks l ids).length∧(∀ i∈pinIds ks l ids,i∈K')∧∀ j,j < (pinIds ks l ids).length→(hdrsA ks l us).getD j undef=E'.hdr ((pinIds ks l ids).getD j 0)
 | [], [], K, σ, E, us, x, F, ids, h, ha, _, _, _, _, _ => by
  match us,ha with
  | [],_=>exact ⟨E,K,h,trivial,by simp [inP],by simp [cntI],fun _ _=>rfl,rfl,by simp [pinIds],fun k hk=>by simp [pinIds] at hk⟩
 | [],_::_,_,_,_,us,_,_,_,_,ha,_,_,_,_,_=>by cases us<;>cases ha
 | _::_,[],_,_,_,us,_,_,_,_,ha,_,_,_,_,_=>by cases us<;>cases ha
 | k :: ks, s :: l, K, σ, E, us, x, F, ids, h, ha, hn, hf, hi, hk, hc => by
  match us,ha with
  | u :: us, ha =>
   obtain ⟨G,H,rfl,h1,h2⟩:=ha
   have hn':=List.nodup_append.1 hn
   have hc0:k.inN s+cntI ks l≤ids.length:=hc
   obtain ⟨E1,K1,r1,d1,i1,k1,e1,f1,g1,p1⟩:=in_one h (ids:=ids) h1 hn'.1 (fun b hb=>hf b (List.mem_append.2 (.inl hb))) hi hk (by omega)
   have hdn:=drop_nodup (k.inN s) hi
   obtain ⟨E2,K2,r2,d2,i2,k2,e2,g2,q2,p2⟩:=adopt_in (x:=x.2) (ids:=ids.drop (k.inN s)) r1 h2 hn'.2.1 (fun b hb=>f1 b (hf b (List.mem_append.2 (.inr hb))) fun hg=>hn'.2.2 b hg b hb rfl) hdn.1
    (fun i hi1 hi2=>by rcases (k1 i).1 hi2 with h' | h';exact hdn.2 i hi1 h';exact hk i (List.mem_of_mem_drop hi1) h') (by rw [List.length_drop];omega)
   have hpin:k.pinN s≤k.inN s:=by cases k<;>simp [Kd.pinN,Kd.inN]
   have htl:(ids.take (k.pinN s)).length=k.pinN s:=by rw [List.length_take];omega
   refine ⟨E2,K2,?_,⟨?_,d2⟩,?_,?_,?_,?_,?_,?_⟩
   ·show RelE w0 Z0 L N K2 (σ.add ((inP ks l x.2 (ids.drop (k.inN s))).2 ++ k.inOb s x.1 ids)) a w E2 Z
    rw [← add_add];exact r2
   ·exact PV.keep e2 (fun _ h=>h) (fun _ _=>rfl) d1 i1
   ·intro i hi'
    rw [show (inP (k::ks) (s::l) x ids).1=k.inPV s x.1 ids::(inP ks l x.2 (ids.drop (k.inN s))).1 from rfl,List.flatMap_cons] at hi'
    rcases List.mem_append.1 hi' with hi' | hi'
    ·exact (k2 i).2 (.inr (i1 i hi'))
    ·exact i2 i hi'
   ·intro i
    rw [k2,k1,show cntI (k::ks) (s::l)=k.inN s+cntI ks l from rfl,List.take_add,List.mem_append]
    constructor
    ·rintro (h | h | h)
     ·exact .inl (.inr h)
     ·exact .inl (.inl h)
     ·exact .inr h
    ·rintro ((h | h) | h)
     ·exact .inr (.inl h)
     ·exact .inl h
     ·exact .inr (.inr h)
   ·intro i hi';rw [e2 i ((k1 i).2 (.inr hi')),e1 i hi']
   ·show (k.hdrs s u ++ hdrsA ks l us).length = (ids.take (k.pinN s) ++ pinIds ks l (ids.drop (k.inN s))).length
    rw [List.length_append,List.length_append,g1,g2,htl]
   ·intro i hi'
    rcases List.mem_append.1 (show i∈ids.take (k.pinN s)++pinIds ks l (ids.drop (k.inN s)) from hi') with hi' | hi'
    ·have:i∈ids.take (k.inN s):=by
      rw [← Nat.min_eq_left hpin,← List.take_take] at hi'
      exact List.mem_of_mem_take hi'
     exact (k2 i).2 (.inr ((k1 i).2 (.inl this)))
    ·exact q2 i hi'
   ·intro j hj
    have hj:j < (ids.take (k.pinN s)++pinIds ks l (ids.drop (k.inN s))).length:=hj
    rw [List.length_append,htl] at hj
    show (k.hdrs s u++hdrsA ks l us).getD j undef=E2.hdr ((ids.take (k.pinN s)++pinIds ks l (ids.drop (k.inN s))).getD j 0)
    by_cases hjs:j < k.pinN s
    ·rw [List.getD_eq_getElem?_getD, List.getElem?_append_left (by omega), ← List.getD_eq_getElem?_getD, p1 j hjs, List.getD_eq_getElem?_getD (l := _ ++ _), List.getElem?_append_left (by omega), List.getElem?_take_of_lt hjs, ← List.getD_eq_getElem?_getD]
     refine (e2 _ ((k1 _).2 (.inl ?_))).symm
     rw [List.getD_eq_getElem?_getD,List.getElem?_eq_getElem (by omega)]
     exact List.mem_take_iff_getElem.2 ⟨j,by omega,rfl⟩
    ·rw [List.getD_eq_getElem?_getD,List.getElem?_append_right (by omega),g1,← List.getD_eq_getElem?_getD,p2 (j - k.pinN s) (by omega),List.getD_eq_getElem?_getD (l:=_++_),List.getElem?_append_right (by omega),htl,← List.getD_eq_getElem?_getD]
theorem adopt_pins:∀ {is gs:List Nat} {k:Nat} {K:List Nat} {σ:St} {E:Env} {v:Nat→Value},RelE w0 Z0 L N K σ a w E Z→(∀ i∈is,i∈K)→gs.Nodup→(∀ g∈gs,g ∉ K)→(∀ j,j < is.length→v (k+j)=E.hdr (is.getD j 0)) →
  ∃ E' K',RelE w0 Z0 L N K' (σ.add (pins is gs k v)) a w E' Z∧(∀ i∈K,i∈K')∧∀ i∈K,E'.hdr i=E.hdr i
 | [],gs,k,K,σ,E,v,h,_,_,_,_=>⟨E,K,by cases gs<;>exact h,fun _ h=>h,fun _ _=>rfl⟩
 | i::is,[],k,K,σ,E,v,h,_,_,_,_=>⟨E,K,h,fun _ h=>h,fun _ _=>rfl⟩
 | i :: is, g :: gs, k, K, σ, E, v, h, hi, hg, hk, hv => by
  have hgK:=hk g (by simp)
  have hig:i≠g:=fun e=>hgK (e ▸ hi i (by simp))
  have hhd:∀ j∈K,(E.set g (.bool false) []).hdr j=E.hdr j:=fun j hj=>by
   have:j≠g:=fun e=>hgK (e ▸ hj)
   simp [Env.set,this]
  have r1:=h.adopt (id:=g) hgK (ob:=.pin i (v k)) (hd:=.bool false) (F:=[]) ⟨rfl,by
   rw [hhd i (hi i (by simp))]
   have:=hv 0 (by simp)
   simpa using this.symm,rfl⟩ List.nodup_nil (by simp) rfl (by simp only [Ob.ids,List.mem_singleton];rintro j rfl;exact hi j (by simp))
  have hgn:=List.nodup_cons.1 hg
  obtain ⟨E',K',r2,k2,e2⟩:=adopt_pins (is:=is) (gs:=gs) (k:=k+1) (v:=v) r1 (fun j hj=>List.mem_cons.2 (.inr (hi j (List.mem_cons.2 (.inr hj))))) hgn.2 (fun g' hg' hm=>by
   rcases List.mem_cons.1 hm with rfl | hm
   ·exact hgn.1 hg'
   ·exact hk g' (by simp [hg']) hm) (fun j hj=>by
   have:=hv (j+1) (by simpa using hj)
   rw [show k+1+j=k+(j+1) by omega,this]
   simp only [List.getD_cons_succ]
   rw [hhd]
   have:is.getD j 0∈is:=by
    rw [List.getD_eq_getElem?_getD,List.getElem?_eq_getElem hj];simp
   exact hi _ (List.mem_cons.2 (.inr this)))
  refine ⟨E',K',?_,fun j hj=>k2 j (by simp [hj]),fun j hj=>by rw [e2 j (by simp [hj]),hhd j hj]⟩
  show RelE w0 Z0 L N K' (σ.add (pins is gs (k+1) v++[(g,some (.pin i (v k)))])) a w E' Z
  rw [← add_add];exact r2
theorem argsIO_len:∀ {ks:List Kd} {l:List Sh} {us:List Value} {x:Dom l} {F:List Nat},argsIO w Z ks l us x F→us.length=l.length
 | [],[],us,x,F,h=>by match us,h with | [],_=>rfl
 | [],_::_,us,_,_,h=>by cases us<;>cases h
 | _::_,[],us,_,_,h=>by cases us<;>cases h
 | k :: ks, s :: l, us, x, F, h => by
  match us,h with
  | u::us,h=>obtain ⟨G,H,_,_,h2⟩:=h;simp [argsIO_len h2]
theorem argsIO_lens:∀ {ks:List Kd} {l:List Sh} {us:List Value} {x:Dom l} {F:List Nat},argsIO w Z ks l us x F→lensD l x
 | [],[],us,x,F,h=>trivial
 | [],_::_,us,_,_,h=>by cases us<;>cases h
 | _::_,[],us,_,_,h=>by cases us<;>cases h
 | k :: ks, s :: l, us, x, F, h => by
  match us,h with
  | u :: us, h =>
   obtain ⟨G,H,_,h1,h2⟩:=h
   refine ⟨?_,argsIO_lens h2⟩
   cases k with
   | rd=>exact s.rd_lens h1.1.1
   | io=>exact s.rd_lens (s.ow_rd (Z:=fun _=>True) h1.1 fun _ _=>trivial)
   | tk=>exact s.rd_lens (s.ow_rd (Z:=fun _=>True) h1.1 fun _ _=>trivial)
   | bx t off=>obtain ⟨b,vs,H,_,_,how,_⟩:=h1;exact s.rd_lens (s.ow_rd (Z:=fun _=>True) how fun _ _=>trivial)
theorem at_enterI {f:FuncId} {fn:Func} {c:Code} {S:Sum} (N:Nat) (ids gs:List Nat) (σ:List Value→Dom S.dom→St) (hf:P.funcs[f]?=some fn) (hb:fn.body=some c)
  (hn:(Nat.ble S.dom.length N && N.beq fn.ntmps && !S.kinds.isEmpty && ids.length.beq (cntI S.kinds S.dom) && nodupB (gs++ids) && S.prim.isNone)=true) (hσ:∀ us x,(inI S ids gs us x).only (List.range S.dom.length) (ids++gs)=σ us x)
  (h:∀ (w0:World) (Z0:Nat→Prop) (us:List Value) (x:Dom S.dom) (L:List Nat) (a:Act) (w:World),argsIO w0 Z0 S.kinds S.dom us x L→S.pre x→lensD S.dom x→At w0 Z0 L N (σ us x) a w→c.wp P (bodyPost P fn (S.RetI w0 us x L)) a w):FnOK P f S:=by
 simp only [Bool.and_eq_true] at hn
 obtain ⟨⟨⟨⟨⟨h1,h2⟩,h3⟩,h4⟩,h5⟩,h6⟩:=hn
 have hN:=Nat.eq_of_beq_eq_true h2
 have hlen:=Nat.le_of_ble_eq_true h1
 have hcnt:=Nat.eq_of_beq_eq_true h4
 have hnd:=List.nodup_append.1 (nodupB_spec h5)
 unfold FnOK
 rw [Option.isNone_iff_eq_none.1 h6]
 simp only
 have hk:S.kinds.isEmpty=false:=by simpa using h3
 rw [hk,cond_false]
 intro w Z us x F hZ hio hFn hF hpre
 refine calls_of_wp hf hb (h w Z us x F _ w hio hpre (argsIO_lens hio) ?_)
 rw [← hσ]
 have hul:=argsIO_len hio
 -- no temporaries known
 have r0:RelE w Z F N [] ⟨[],[]⟩ { tmps:=us.toArray++Array.replicate (fn.ntmps - us.toArray.size) undef,defers:=[] } w ⟨fun _=>.bool false,fun _=>[]⟩ Z:=by
  refine ⟨rfl,?_,fun t=>trivial,fun t i hi=>by simp [St.tmp,look,AV.ids,PV.ids,CV.ids] at hi,?_,?_,?_,?_,?_,fun b hb=>.inl hb,hZ,SameBut.refl _ _,?_⟩
  ·simp only [Array.size_append,List.size_toArray,Array.size_replicate];omega
  all_goals first
   | (intro o x o' x' ho;cases ho;done)
   | (intro o x ho;cases ho;done)
   | (intro i hi;simp at hi)
 obtain ⟨E1,K1,r1,d1,i1,k1,e1,l1,q1,f1⟩:=adopt_in r0 hio hFn (fun b hb=>⟨(hF b hb).1,(hF b hb).2,.inr hb,fun o x ho=>by cases ho⟩) hnd.2.1 (fun i _=>by simp) (by omega)
 obtain ⟨E2,K2,r2,k2,e2⟩:=adopt_pins (is:=pinIds S.kinds S.dom ids) (gs:=gs) (k:=0) (v:=S.hd us) r1 q1 hnd.1 (fun g hg hm=>by
  rcases (k1 g).1 hm with h' | h'
  ·exact hnd.2.2 g hg g (List.mem_of_mem_take h') rfl
  ·simp at h') (fun j hj=>by rw [Nat.zero_add];exact f1 j hj)
 have htm:∀ t,(inI S ids gs us x).tmp t=match ((inP S.kinds S.dom x ids).1)[t]? with | some p=>.p p | none=>.p (.c .un):=fun t=>by
  show (look (numA 0 _) t).getD _=_
  rw [look_num t _ 0 (Nat.zero_le _),Nat.sub_zero]
  cases ((inP S.kinds S.dom x ids).1)[t]?<;>rfl
 have hd2:=d1.keep e2 (fun _ h=>h) (fun _ _=>rfl) i1
 have hS:Stands w Z F N K2 (inI S ids gs us x) { tmps:=us.toArray++Array.replicate (fn.ntmps - us.toArray.size) undef,defers:=[] } w:=by
  have hob:∀ o,(inI S ids gs us x).obj o=((({ tm:=[],ob:=[] }:St).add (inP S.kinds S.dom x ids).2).add (pins (pinIds S.kinds S.dom ids) gs 0 (S.hd us))).obj o:=fun o=>by
   rw [add_add];show (look (pins (pinIds S.kinds S.dom ids) gs 0 (S.hd us)++(inP S.kinds S.dom x ids).2) o).getD none=(look ((pins (pinIds S.kinds S.dom ids) gs 0 (S.hd us)++(inP S.kinds S.dom x ids).2)++[]) o).getD none
   rw [List.append_nil]
  refine ⟨E2,Z,r2.defers,r2.size,fun t=>?_,fun t i hi=>?_,fun o x ho=>r2.obj o x (by rw [← hob];exact ho),fun o x ho=>r2.oids o x (by rw [← hob];exact ho),fun o x ho=>r2.nodup o x (by rw [← hob];exact ho),
   fun o x o' x' ho ho'=>r2.apart o x o' x' (by rw [← hob];exact ho) (by rw [← hob];exact ho'),fun o x ho=>r2.free o x (by rw [← hob];exact ho),r2.znew,r2.zlt,r2.frame,r2.hone⟩
  ·rw [htm]
   cases hp:((inP S.kinds S.dom x ids).1)[t]? with
   | none=>trivial
   | some p =>
    obtain ⟨u,hu,hpd⟩:=pdens_at hd2 hp
    have hlt:t < us.length:=by
     rcases Nat.lt_or_ge t us.length with h' | h'
     ·exact h'
     ·rw [List.getElem?_eq_none h'] at hu;cases hu
    have:(us.toArray++Array.replicate (fn.ntmps - us.toArray.size) undef).getD t undef=u:=by
     rw [Array.getD_eq_getD_getElem?,Array.getElem?_append_left (by simpa using hlt),List.getElem?_toArray,hu]
     rfl
    simp only
    rw [this]
    exact hpd
  ·rw [htm] at hi
   cases hp:((inP S.kinds S.dom x ids).1)[t]? with
   | none=>rw [hp] at hi;simp [AV.ids,PV.ids,CV.ids] at hi
   | some p =>
    rw [hp] at hi
    exact k2 i (i1 i (List.mem_flatMap.2 ⟨p,List.mem_of_getElem? hp,hi⟩))
 exact hS.norm _ _
def ioR:(s:Sh)→s.D→List Nat→RM (s.D×List Nat)
 | .int _,x,ids=>.ret (x,ids)
 | .bool _,x,ids=>.ret (x,ids)
 | .u8 _,x,ids=>.ret (x,ids)
 | .str _,x,ids=>.ret (x,ids)
 | .pair a b,x,ids=>(ioR a x.1 ids).bind fun y=>(ioR b x.2 y.2).bind fun z=>.ret ((y.1,z.1),z.2)
 | .st _ a,x,ids=>ioR a x ids
 | .sl _ a, _, ids => match ids with
  | id :: ids => .obj id fun
   | .row dp a' ys=>if h:a'.beq a=true then bif dp || a.plain then .ret (castL (Sh.eq_of_beq h) ys,ids) else .fail else .fail
   | _=>.fail
  | []=>.fail
 | .fn0 _,_,_ | .fn _ _,_,_ | .pt _,_,_=>.fail
def ioR1 (s:Sh) (x:s.D) (ids:List Nat):Kd→RM (s.D×List Nat)
 | .rd | .tk=>.ret (x,[])
 | .io=>(ioR s x ids).bind fun y=>.ret (y.1,ids.take s.cnt)
 | .bx t _ => .obj (ids.headD 0) fun
  | .bx t' cs=>bif t'.beq t then (owC s cs).bind fun y=>.ret (y.1,ids.headD 0::y.2) else .fail
  | _=>.fail
def ioRs:List Kd→(l:List Sh)→Dom l→List Nat→RM (Dom l×List Nat)
 | [],[],_,_=>.ret ((),[])
 | k::ks,s::l,x,ids=>(ioR1 s x.1 ids k).bind fun y=>(ioRs ks l x.2 (ids.drop (k.inN s))).bind fun z=>.ret ((y.1,z.1),y.2++z.2)
 | _,_,_,_=>.fail
def pinsM (v:Nat→Value):List Nat→List Nat→Nat→RM Unit
 | i :: is, g :: gs, k => .obj g fun
  | .pin i' u=>bif i'.beq i then .need (u=v k) (pinsM v is gs (k+1)) else .fail
  | _=>.fail
 | [],[],_=>.ret ()
 | _,_,_=>.fail
def firstRow (S:Sum):Bool:=match S.kinds,S.dom with
 | .io::_,.sl _ _::_=>true
 | _,_=>false
def retV (P:Program) (S:Sum) (ids:List Nat) (ps:List PV):RM (Option (Dom S.cod)×List Nat):=match S.ali with
 | none=>(retA true S.cod ps).bind fun r=>.ret (some r.1,r.2)
 | some j => bif j.beq 0 && firstRow S then (match ps with
  | [.c (.sl r)]=>bif r.beq (ids.headD 0) then .ret (none,[]) else .fail
  | _=>.fail) else .fail
def retI (P:Program) (S:Sum) (rs:List ResultVar) (ids gs:List Nat) (us:List Value) (x:Dom S.dom):RM (Dom S.dom×Option (Dom S.cod)) :=
 (pinsM (S.hd us) (pinIds S.kinds S.dom ids) gs 0).bind fun _=>(ioRs S.kinds S.dom x ids).bind fun y=>(resM P rs).bind fun ps=>(retV P S ids ps).bind fun r=>bif nodupB (y.2++r.2) then .ret (y.1,r.1) else .fail
theorem pinsM_hdr (h:RelE w0 Z0 L N K σ a w E Z) {v:Nat→Value}:∀ {is gs:List Nat} {k:Nat} {u:Unit},(pinsM v is gs k).run σ=some u→AllP ((pinsM v is gs k).obl σ)→∀ j,j < is.length→E.hdr (is.getD j 0)=v (k+j)
 | [],gs,k,u,hr,ho,j,hj=>by simp at hj
 | i::is,[],k,u,hr,ho,j,hj=>by cases hr
 | i :: is, g :: gs, k, u, hr, ho, j, hj => by
  unfold pinsM at hr ho
  obtain ⟨b,hb,hr1,ho1⟩:=obj_split hr ho
  match b,hb,hr1,ho1 with
  | .pin i' u', hb, hr1, ho1 =>
   obtain ⟨hi,hr2,ho2⟩:=bif_split hr1 ho1
   obtain ⟨hu,hr3,ho3⟩:=need_split hr2 ho2
   have hi:=Nat.eq_of_beq_eq_true hi
   subst hi
   have hd:=h.obj g _ hb
   cases j with
   | zero=>simpa [hu] using hd.2.1
   | succ j =>
    have:=pinsM_hdr h hr3 ho3 j (by simpa using hj)
    rw [List.getD_cons_succ,this,show k+1+j=k+(j+1) by omega]
theorem ioR_ow (h:RelE w0 Z0 L N K σ a w E Z) {w1:World}:∀ (s:Sh) {cs:List Value} {x x':s.D} {G:List Nat} {ids ids':List Nat},s.ow w1 cs x G→(ioR s x ids).run σ=some (x',ids')→(∀ k,k < s.cnt→E.hdr (ids.getD k 0)=(hdrs s cs).getD k undef) →
  s.ow w cs x' ((ids.take s.cnt).flatMap E.fp)∧ids'=ids.drop s.cnt∧s.cnt≤ids.length∧∀ m∈ids.take s.cnt,∃ y,σ.obj m=some y
 | .int _,cs,x,x',G,ids,ids',ho,hr,hh=>by have e1:=ret_some hr;cases e1;exact ⟨⟨ho.1,rfl⟩,rfl,Nat.zero_le _,by simp [Sh.cnt]⟩
 | .bool _,cs,x,x',G,ids,ids',ho,hr,hh=>by have e1:=ret_some hr;cases e1;exact ⟨⟨ho.1,rfl⟩,rfl,Nat.zero_le _,by simp [Sh.cnt]⟩
 | .u8 _,cs,x,x',G,ids,ids',ho,hr,hh=>by have e1:=ret_some hr;cases e1;exact ⟨⟨ho.1,ho.2.1,rfl⟩,rfl,Nat.zero_le _,by simp [Sh.cnt]⟩
 | .str _,cs,x,x',G,ids,ids',ho,hr,hh=>by have e1:=ret_some hr;cases e1;exact ⟨⟨ho.1,rfl⟩,rfl,Nat.zero_le _,by simp [Sh.cnt]⟩
 | .st _ p,cs,x,x',G,ids,ids',ho,hr,hh=>ioR_ow h p (x:=x) ho (by unfold ioR at hr;exact hr) hh
 | .pair p q, cs, x, x', G, ids, ids', ho, hr, hh => by
  unfold ioR at hr
  obtain ⟨y,hy,hr1⟩:=RM.run_bind hr
  obtain ⟨z,hz,hr2⟩:=RM.run_bind hr1
  have e1:=ret_some hr2;cases e1
  obtain ⟨y1,y2⟩:=y;obtain ⟨z1,z2⟩:=z
  obtain ⟨c,d,G,H,rfl,rfl,h1,h2⟩:=ho
  have hlc:c.length=p.size:=p.rd_len (p.ow_rd (Z:=fun _=>True) h1 fun _ _=>trivial)
  have hln:=hdrs_len p h1
  have hh':∀ k,k < p.cnt+q.cnt→E.hdr (ids.getD k 0)=(hdrs p c++hdrs q d).getD k undef:=fun k hk=>by
   have:=hh k hk
   have e:hdrs (.pair p q) (c++d)=hdrs p c++hdrs q d:=by
    show hdrs p ((c++d).take p.size)++hdrs q ((c++d).drop p.size)=_
    rw [← hlc,List.take_left,List.drop_left]
   rw [e] at this;exact this
  have k1:=ioR_ow h p h1 hy (fun k hk=>by
   rw [hh' k (by omega),List.getD_eq_getElem?_getD,List.getElem?_append_left (by omega),← List.getD_eq_getElem?_getD])
  obtain ⟨o1,rfl,l1,m1⟩:=k1
  have k2:=ioR_ow h q h2 hz (fun k hk=>by
   have:=hh' (p.cnt+k) (by omega)
   rw [List.getD_eq_getElem?_getD (l:=_++_),List.getElem?_append_right (by omega),hln,Nat.add_sub_cancel_left,← List.getD_eq_getElem?_getD] at this
   rw [← this]
   simp only [List.getD_eq_getElem?_getD,List.getElem?_drop])
  obtain ⟨o2,rfl,l2,m2⟩:=k2
  have l2':q.cnt≤ids.length - p.cnt:=by simpa using l2
  refine ⟨⟨c,d,_,_,rfl,?_,o1,o2⟩,by rw [List.drop_drop];rfl,by show p.cnt+q.cnt≤_;omega,fun m hm=>?_⟩
  ·show (ids.take (p.cnt + q.cnt)).flatMap E.fp = _
   rw [List.take_add,List.flatMap_append]
  ·have hm : m ∈ ids.take (p.cnt + q.cnt) := hm
   rw [List.take_add] at hm
   rcases List.mem_append.1 hm with hm | hm
   ·exact m1 m hm
   ·exact m2 m hm
 | .sl _ p, cs, x, x', G, ids, ids', ho, hr, hh => by
  obtain ⟨v,vs0,Fs0,rfl,_⟩:=ho
  unfold ioR at hr
  cases ids with
  | nil=>cases hr
  | cons id ids =>
   obtain ⟨b,hb,hr⟩:=obj_some hr
   match b,hb,hr with
   | .row dp a' ys, hb, hr =>
    obtain ⟨hp,hr⟩:=dif_some hr
    obtain ⟨hc,hr⟩:=bif_some hr
    have e1:=ret_some hr;cases e1
    have:=Sh.eq_of_beq hp
    subst this
    have hv:=hh 0 (by simp [Sh.cnt])
    have hv:E.hdr id=v:=by simpa [hdrs] using hv
    obtain ⟨vs,Fs,h1,h2,h3⟩:=h.obj id _ hb
    rw [hv] at h1 h3
    refine ⟨?_,by simp [Sh.cnt],by simp [Sh.cnt],fun m hm=>by simp [Sh.cnt] at hm;subst hm;exact ⟨_,hb⟩⟩
    show ∃ v' vs Fs,[v]=[v']∧_
    cases dp with
    | true=>exact ⟨v,vs,Fs,rfl,h1,h2,by simp [Sh.cnt,h3]⟩
    | false =>
     obtain ⟨Gs,g1,g2,g3⟩:=Els.own (by simpa using hc) h2
     exact ⟨v,vs,Gs,rfl,h1,g1,by simp only [Sh.cnt,List.take_succ_cons,List.take_zero,List.flatMap_cons,List.flatMap_nil,List.append_nil,h3,g2,g3]⟩
theorem ioR1_out (h:RelE w0 Z0 L N K σ a w E Z) {w1:World} {Z1:Nat→Prop} {s:Sh} {u:Value}:∀ {k:Kd} {x x':s.D} {G ids c:List Nat},k.arg w1 Z1 s u x G→(ioR1 s x ids k).run σ=some (x',c)→AllP ((ioR1 s x ids k).obl σ)→k.inN s≤ids.length→(∀ j,j < k.pinN s→E.hdr (ids.getD j 0)=(k.hdrs s u).getD j undef) →
  k.out w s u x' (c.flatMap E.fp)∧∀ m∈c,∃ y,σ.obj m=some y:=by
 intro k x x' G ids c ha hr ho hc hh
 cases k with
 | rd=>have e1:=ret_some hr;cases e1;exact ⟨rfl,by simp⟩
 | tk=>have e1:=ret_some hr;cases e1;exact ⟨rfl,by simp⟩
 | io =>
  obtain ⟨y,hy,hr1⟩:=RM.run_bind hr
  have e1:=ret_some hr1;cases e1
  obtain ⟨y1,y2⟩:=y
  have:=ioR_ow h s ha.1 hy hh
  exact ⟨this.1,this.2.2.2⟩
 | bx t off =>
  obtain ⟨b,hb,hr1,ho1⟩:=obj_split hr ho
  match b,hb,hr1,ho1 with
  | .bx t' cs, hb, hr1, ho1 =>
   obtain ⟨ht,hr2,ho2⟩:=bif_split hr1 ho1
   have ht:=Nat.eq_of_beq_eq_true ht
   subst ht
   obtain ⟨y,hy,hyo,hr3,_⟩:=bind_split hr2 ho2
   have e1:=ret_some hr3;cases e1
   obtain ⟨b',vs',H,rfl,_⟩:=ha
   have h0:=hh 0 (by simp [Kd.pinN])
   have hhd:E.hdr (ids.headD 0)=.pointer (some ⟨b',0,none⟩):=by
    have:ids.getD 0 0=ids.headD 0:=by cases ids<;>rfl
    rw [← this,h0];rfl
   obtain ⟨b2,vs,hb2,hF,hbx,hd⟩:=h.obj _ _ hb
   rw [hhd] at hb2;cases hb2
   have hw:=owC_ow h s hy hyo hd
   refine ⟨⟨b',vs,_,rfl,hbx,hw.1,by rw [List.flatMap_cons,hF];rfl⟩,fun m hm=>?_⟩
   rcases List.mem_cons.1 hm with rfl | hm
   ·exact ⟨_,hb⟩
   ·exact hw.2 m hm
theorem ioRs_out (h:RelE w0 Z0 L N K σ a w E Z) {w1:World} {Z1:Nat→Prop}:∀ {ks:List Kd} {l:List Sh} {us:List Value} {x x':Dom l} {F:List Nat} {ids c:List Nat},argsIO w1 Z1 ks l us x F→(ioRs ks l x ids).run σ=some (x',c)→AllP ((ioRs ks l x ids).obl σ)→cntI ks l≤ids.length→(∀ k,k < (pinIds ks l ids).length→E.hdr ((pinIds ks l ids).getD k 0)=(hdrsA ks l us).getD k undef) →
  outIO w ks l us x' (c.flatMap E.fp)∧∀ m∈c,∃ y,σ.obj m=some y
 | [], [], us, x, x', F, ids, c, ha, hr, _, _, hh => by
  match us,ha with
  | [],_=>have e1:=ret_some hr;cases e1;exact ⟨rfl,by simp⟩
 | [],_::_,us,_,_,_,_,_,ha,_,_,_,_=>by cases us<;>cases ha
 | _::_,[],us,_,_,_,_,_,ha,_,_,_,_=>by cases us<;>cases ha
 | k :: ks, s :: l, us, x, x', F, ids, c, ha, hr, ho, hc, hh => by
  match us,ha with
  | u :: us, ha =>
   obtain ⟨G,H,rfl,h1,h2⟩:=ha
   unfold ioRs at hr ho
   obtain ⟨y,hy,hyo,hr1,ho1⟩:=bind_split hr ho
   obtain ⟨z,hz,hzo,hr2,_⟩:=bind_split hr1 ho1
   have e1:=ret_some hr2;cases e1
   obtain ⟨y1,y2⟩:=y;obtain ⟨z1,z2⟩:=z
   have hc0:k.inN s+cntI ks l≤ids.length:=hc
   have hpin:k.pinN s≤k.inN s:=by cases k<;>simp [Kd.pinN,Kd.inN]
   have htl:(ids.take (k.pinN s)).length=k.pinN s:=by rw [List.length_take];omega
   have hhl:(k.hdrs s u).length=k.pinN s:=by
    cases k with
    | rd=>rfl
    | tk=>rfl
    | io=>exact hdrs_len s h1.1
    | bx t off=>rfl
   have hh':∀ j,j < k.pinN s+(pinIds ks l (ids.drop (k.inN s))).length→E.hdr ((ids.take (k.pinN s)++pinIds ks l (ids.drop (k.inN s))).getD j 0)=(k.hdrs s u++hdrsA ks l us).getD j undef:=fun j hj=>hh j (by
    show j < (ids.take (k.pinN s)++pinIds ks l (ids.drop (k.inN s))).length
    rw [List.length_append,htl];exact hj)
   have k1:=ioR1_out h h1 hy hyo (by omega) (fun j hj=>by
    have:=hh' j (by omega)
    rw [List.getD_eq_getElem?_getD,List.getElem?_append_left (by omega),List.getElem?_take_of_lt hj,← List.getD_eq_getElem?_getD,List.getD_eq_getElem?_getD (l:=_++_),List.getElem?_append_left (by omega),← List.getD_eq_getElem?_getD] at this
    exact this)
   have k2:=ioRs_out h h2 hz hzo (by rw [List.length_drop];omega) (fun j hj=>by
    have:=hh' (k.pinN s+j) (by omega)
    rw [List.getD_eq_getElem?_getD,List.getElem?_append_right (by omega),htl,Nat.add_sub_cancel_left,← List.getD_eq_getElem?_getD,List.getD_eq_getElem?_getD (l:=_++_),List.getElem?_append_right (by omega),hhl,Nat.add_sub_cancel_left,← List.getD_eq_getElem?_getD] at this
    exact this)
   refine ⟨⟨_,_,by rw [List.flatMap_append],k1.1,k2.1⟩,fun m hm=>?_⟩
   rcases List.mem_append.1 hm with hm | hm
   ·exact k1.2 m hm
   ·exact k2.2 m hm
def endI (P:Program) (S:Sum) (rs:List ResultVar) (ids gs:List Nat) (us:List Value) (x:Dom S.dom) (σ:St):Option ((Dom S.dom×Option (Dom S.cod))×List Prop) :=
 bif ids.length.beq (cntI S.kinds S.dom) then ((retI P S rs ids gs us x).run σ).map fun y=>(y,(retI P S rs ids gs us x).obl σ) else none
theorem at_returnI {fn:Func} {S:Sum} {us:List Value} {x:Dom S.dom} (ids gs:List Nat) (x':Dom S.dom) (y:Option (Dom S.cod)) (ps:List Prop) (hio:argsIO w0 Z0 S.kinds S.dom us x L) (h:At w0 Z0 L N σ a w)
  (hr:endI P S fn.results.toList ids gs us x σ=some ((x',y),ps)) (ho:AllP ps) (hx:x'=S.upd x) (hy:∀ z,y=some z→z=S.g x):bodyPost P fn (S.RetI w0 us x L) .ret a w:=by
 unfold endI at hr
 cases hb:ids.length.beq (cntI S.kinds S.dom) with
 | false=>rw [hb] at hr;cases hr
 | true =>
 rw [hb,cond_true] at hr
 have hcnt:=Nat.eq_of_beq_eq_true hb
 obtain ⟨E,Z,h⟩:=h
 cases hm:(retI P S fn.results.toList ids gs us x).run σ with
 | none=>rw [hm] at hr;cases hr
 | some z =>
  rw [hm] at hr
  simp only [Option.map_some,Option.some.injEq,Prod.mk.injEq] at hr
  obtain ⟨rfl,rfl⟩:=hr
  unfold retI at hm ho
  obtain ⟨u,hu,huo,hr1,ho1⟩:=bind_split hm ho
  obtain ⟨q,hq,hqo,hr2,ho2⟩:=bind_split hr1 ho1
  obtain ⟨qs,hqs,_,hr3,ho3⟩:=bind_split hr2 ho2
  obtain ⟨r,hr',hro,hr4,ho4⟩:=bind_split hr3 ho3
  obtain ⟨hnd,hr5⟩:=bif_some hr4
  have e1:=ret_some hr5;cases e1
  obtain ⟨vs,hvs,hpd,hpk⟩:=results_run h hqs
  obtain ⟨q1,q2⟩:=q
  obtain ⟨r1,r2⟩:=r
  have hnd:=nodupB_spec hnd
  have hhd:=pinsM_hdr h hu huo
  have hout:=ioRs_out h hio hq hqo (by omega) (fun k hk=>by rw [hhd k hk,Nat.zero_add];rfl)
  have hnd':=List.nodup_append.1 hnd
  -- the results
  have key:∃ F2:List Nat,F2=r2.flatMap E.fp∧(∀ m∈r2,∃ y,σ.obj m=some y)∧S.val us vs=tupV vs∧(S.ali=none→resAll (fun _=>False) w true S.cod vs (S.g x) F2):=by
   unfold retV at hr' hro
   cases hali:S.ali with
   | none =>
    rw [hali] at hr' hro
    obtain ⟨y,hy',hyo,hr6,_⟩:=bind_split hr' hro
    have e2:=ret_some hr6;cases e2
    have:=retA_all h (Zr:=fun _=>True) (fun _ _=>trivial) hpd hpk hy' hyo fun _ _ _ _ _ _=>trivial
    refine ⟨_,rfl,this.2,by unfold Sum.val;rw [hali],fun _=>?_⟩
    rw [← hy y.1 rfl]
    exact resAll_deep _ this.1
   | some j =>
    rw [hali] at hr' hro
    obtain ⟨hj,hr6⟩:=bif_some hr'
    simp only [Bool.and_eq_true] at hj
    have hj0:=Nat.eq_of_beq_eq_true hj.1
    subst hj0
    match qs,hpd,hr6 with
    | [.c (.sl rr)], hpd, hr6 =>
     obtain ⟨hrr,hr7⟩:=bif_some hr6
     have hrr:=Nat.eq_of_beq_eq_true hrr
     have e2:=ret_some hr7;cases e2
     refine ⟨[],rfl,by simp,?_,fun e=>by cases e⟩
     have hf:=hj.2
     unfold firstRow at hf
     split at hf
     ·rename_i ks t s l hks hdom
      match vs,hpd with
      | [v], hpd =>
       have hv:v=E.hdr rr:=hpd.1
       unfold Sum.val
       rw [hali]
       simp only [tupV]
       have hio':=hio
       have gen:∀ (kk:List Kd) (dd:List Sh) (xx:Dom dd),kk=.io::ks→dd=.sl t s::l→argsIO w0 Z0 kk dd us xx L→us.getD 0 undef=(hdrsA kk dd us).getD 0 undef∧(pinIds kk dd ids).length≠0∧(pinIds kk dd ids).getD 0 0=ids.headD 0∨ids=[]:=by
        intro kk dd xx e1 e2 ha
        subst e1 e2
        match us,ha with
        | u :: us, ha =>
         obtain ⟨G,H,_,h1,_⟩:=ha
         cases ids with
         | nil=>right;rfl
         | cons i ids =>
          left
          refine ⟨?_,by simp [pinIds,Kd.pinN,Sh.cnt],by simp [pinIds,Kd.pinN,Sh.cnt]⟩
          have h1c:=h1.2.2 rfl
          simp [hdrsA,Kd.hdrs,hdrs,cells_one h1c]
       have hids:ids≠[]:=fun e=>by
        rw [e] at hcnt
        rw [hks,hdom] at hcnt
        simp [cntI,Kd.inN,Sh.cnt] at hcnt
        omega
       rcases gen _ _ _ hks hdom hio' with g | g
       ·rw [hv, hrr, g.1, ← g.2.2]
        have:=hhd 0 (Nat.pos_of_ne_zero g.2.1)
        rw [this,Nat.zero_add];rfl
       ·exact absurd g hids
     ·cases hf
  obtain ⟨F2,rfl,hex2,hval,hres⟩:=key
  have hexa:∀ m∈q2++r2,∃ y,σ.obj m=some y:=fun m hm=>by
   rcases List.mem_append.1 hm with hm | hm
   ·exact hout.2 m hm
   ·exact hex2 m hm
  refine ⟨h.defers,_,hvs,vs,q2.flatMap E.fp,r2.flatMap E.fp,by rw [hval],by rw [← hx];exact hout.1,hres,?_,?_,h.frame⟩
  ·rw [← List.flatMap_append]
   exact fps_nodup h hnd hexa
  ·intro b hb
   rw [← List.flatMap_append] at hb
   obtain ⟨r,hr,hb⟩:=List.mem_flatMap.1 hb
   obtain ⟨y,hy⟩:=hexa r hr
   have:=h.free r y hy b hb
   exact ⟨this.1,this.2.2⟩
end
end Go.Proofs.Ytmcpigcpachdkaa
