/- Rows of elements that a call owns: read an element, replace an element. No program is named. -/
import Derived.Test.YtmcpigcpachdkaaBase
namespace Go.Proofs.Ytmcpigcpachdkaa
open Go.RowKit
section
variable {α:Type} {R:Rp α} {t:TypeId} {w w':World} {B:Nat} {xs:List α} {F:List Nat}
theorem Ows.at_:∀ {vs:List (List Value)} {xs:List α} {Fs:List (List Nat)} {i:Nat} (h:i < xs.length),Ows R w vs xs Fs→∃ c G,vs[i]?=some c∧Fs[i]?=some G∧R.ow w c xs[i] G
 | [],[],[],_,h,_=>absurd h (by simp)
 | c::_,_::_,G::_,0,_,h=>⟨c,G,rfl,rfl,h.1⟩
 | _ :: _, _ :: _, _ :: _, i + 1, hi, h => by
  obtain ⟨c,G,hc,hG,hr⟩:=Ows.at_ (i:=i) (by simpa using hi) h.2
  exact ⟨c,G,by simpa using hc,by simpa using hG,by simpa using hr⟩
theorem Ows.set_:∀ {vs:List (List Value)} {xs:List α} {Fs:List (List Nat)} {i:Nat} {c:List Value} {y:α} {G:List Nat},Ows R w vs xs Fs→R.ow w' c y G →
  (∀ j H,j≠i→Fs[j]?=some H→∀ b∈H,w'.heap[b]?=w.heap[b]?)→Ows R w' (vs.set i c) (xs.set i y) (Fs.set i G)
 | [],[],[],_,_,_,_,_,_,_=>by simp [Ows]
 | _ :: vs, _ :: xs, _ :: Fs, 0, _, _, _, h, hy, e => by
  refine ⟨hy,h.2.keep fun b hb=>?_⟩
  obtain ⟨H,hH,hbH⟩:=List.mem_flatten.1 hb
  obtain ⟨j,hj,rfl⟩:=List.getElem_of_mem hH
  exact e (j+1) _ (by omega) (by simp [hj]) b hbH
 | _ :: vs, _ :: xs, F :: Fs, i + 1, _, _, _, h, hy, e => by
  refine ⟨R.ow_keep h.1 fun b hb=>e 0 F (by omega) rfl b hb,Ows.set_ h.2 hy fun j H hj hH b hb=>e (j+1) H (by omega) (by simpa using hH) b hb⟩
theorem flatten_set_len (vs:List (List Value)) (i:Nat) (c:List Value) (s:Nat) (h:∀ v∈vs,v.length=s) (hi:i < vs.length) :
  (vs.set i c).flatten=vs.flatten.take (i*s)++c++vs.flatten.drop (i*s+s):=by
 induction vs generalizing i with
 | nil=>simp at hi
 | cons v vs ih =>
  have hv:v.length=s:=h v (by simp)
  cases i with
  | zero =>
   simp only [List.set_cons_zero,List.flatten_cons,Nat.zero_mul,List.take_zero,List.nil_append,Nat.zero_add]
   rw [← hv,List.drop_left]
  | succ i =>
   rw [List.set_cons_succ,List.flatten_cons,List.flatten_cons,ih i (fun v hv=>h v (by simp [hv])) (by simpa using hi)]
   have e1:(i+1)*s=v.length+i*s:=by rw [Nat.add_mul,hv];omega
   rw [e1,List.take_length_add_append,Nat.add_assoc,List.drop_length_add_append]
   simp [List.append_assoc]
def setCells (w:World) (g o:Nat):List Value→World
 | []=>w
 | c::cs=>setCells (w.setCell ⟨g,o,none⟩ c) g (o+1) cs
theorem setCells_block (g o:Nat) (cs:List Value):∀ (w:World) (e:TypeId) (cur:Array Value),w.heap[g]?=some (.cells cur e (0,0))→o+cs.length≤cur.size →
  ∃ cur',(setCells w g o cs).heap[g]?=some (.cells cur' e (0,0))∧cur'.size=cur.size∧cur'.toList=cur.toList.take o++cs++cur.toList.drop (o+cs.length):=by
 induction cs generalizing o with
 | nil=>intro w e cur h _;exact ⟨cur,h,rfl,by simp⟩
 | cons c cs ih =>
  intro w e cur h ho
  simp only [List.length_cons] at ho
  obtain ⟨cur',h1,h2,h3⟩:=ih (o+1) (w.setCell ⟨g,o,none⟩ c) e (cur.setIfInBounds o c) (heap_setCell_same w g o cur e c h) (by simp;omega)
  refine ⟨cur',h1,by simpa using h2,?_⟩
  rw [h3,Array.toList_setIfInBounds]
  have hol:o < cur.toList.length:=by simp;omega
  rw [List.take_succ_eq_append_getElem (by simpa using hol),List.take_set_of_le (Nat.le_refl _),List.getElem_set_self,List.drop_set_of_lt (by omega)]
  simp only [List.append_assoc,List.cons_append,List.nil_append,List.length_cons]
  rw [show o+1+cs.length=o+(cs.length+1) by omega]
theorem setCells_same (g:Nat) (cs:List Value):∀ (o:Nat) (w:World),SameBut [g] w (setCells w g o cs):=by
 induction cs with
 | nil=>intro o w;exact SameBut.refl _ _
 | cons c cs ih=>intro o w;exact ((SameBut.refl [g] w).setCell (p:=⟨g,o,none⟩) (by simp) c).trans (ih (o+1) _)
theorem Ows.lens {vs:List (List Value)} {Fs:List (List Nat)} (h:Ows R w vs xs Fs):∀ v∈vs,v.length=R.size:=by
 intro v hv
 obtain ⟨i,hi,rfl⟩:=List.getElem_of_mem hv
 obtain ⟨c,G,hc,_,hr⟩:=Ows.at_ (i:=i) (by rw [← h.len.1];exact hi) h
 rw [List.getElem?_eq_getElem hi] at hc
 cases hc
 exact Rp.ow_len hr
theorem mem_flatten_of {Fs:List (List Nat)} {i:Nat} {G:List Nat} (h:Fs[i]?=some G) {b:Nat} (hb:b∈G):b∈Fs.flatten :=
 List.mem_flatten.2 ⟨G,List.mem_of_getElem? h,hb⟩
theorem nodup_flat_apart:∀ {Fs:List (List Nat)} {i j:Nat} {G H:List Nat},Fs.flatten.Nodup→i≠j→Fs[i]?=some G→Fs[j]?=some H→∀ b∈G,b ∉ H
 | [],_,_,_,_,_,_,h,_=>by simp at h
 | X :: Fs, i, j, G, H, hn, hij, hG, hH => by
  rw [List.flatten_cons,List.nodup_append] at hn
  intro b hbG hbH
  cases i with
  | zero =>
   cases j with
   | zero=>exact hij rfl
   | succ j =>
    simp only [List.getElem?_cons_zero,Option.some.injEq] at hG
    subst hG
    exact hn.2.2 b hbG b (mem_flatten_of (i:=j) (by simpa using hH) hbH) rfl
  | succ i =>
   cases j with
   | zero =>
    simp only [List.getElem?_cons_zero,Option.some.injEq] at hH
    subst hH
    exact hn.2.2 b hbH b (mem_flatten_of (i:=i) (by simpa using hG) hbG) rfl
   | succ j=>exact nodup_flat_apart (i:=i) (j:=j) hn.2.1 (by omega) (by simpa using hG) (by simpa using hH) b hbG hbH
theorem nodup_flat_at {Fs:List (List Nat)} {i:Nat} {G:List Nat} (hn:Fs.flatten.Nodup) (h:Fs[i]?=some G):G.Nodup:=by
 induction Fs generalizing i with
 | nil=>simp at h
 | cons X Fs ih =>
  rw [List.flatten_cons,List.nodup_append] at hn
  cases i with
  | zero=>simp only [List.getElem?_cons_zero,Option.some.injEq] at h;subst h;exact hn.1
  | succ i=>exact ih hn.2.1 (by simpa using h)
theorem mem_flat_set {Fs:List (List Nat)} {i:Nat} {G:List Nat} {b:Nat} (h:b∈(Fs.set i G).flatten):b∈Fs.flatten∨b∈G:=by
 obtain ⟨H,hH,hb⟩:=List.mem_flatten.1 h
 rcases List.mem_or_eq_of_mem_set hH with h' | h'
 ·exact .inl (List.mem_flatten.2 ⟨H,h',hb⟩)
 ·subst h';exact .inr hb
theorem nodup_flat_set:∀ {Fs:List (List Nat)} {i:Nat} {G:List Nat},Fs.flatten.Nodup→G.Nodup→(∀ b∈G,b ∉ Fs.flatten)→(Fs.set i G).flatten.Nodup
 | [],_,_,_,_,_=>by simp
 | X :: Fs, 0, G, h, hG, hd => by
  rw [List.flatten_cons,List.nodup_append] at h
  rw [List.set_cons_zero,List.flatten_cons,List.nodup_append]
  exact ⟨hG,h.2.1,fun a ha b hb e=>hd a ha (by rw [List.flatten_cons];exact List.mem_append.2 (.inr (e ▸ hb)))⟩
 | X :: Fs, i + 1, G, h, hG, hd => by
  rw [List.flatten_cons,List.nodup_append] at h
  rw [List.set_cons_succ,List.flatten_cons,List.nodup_append]
  refine ⟨h.1,nodup_flat_set h.2.1 hG (fun b hb hf=>hd b hb (by rw [List.flatten_cons];exact List.mem_append.2 (.inr hf))),fun a ha b hb e=>?_⟩
  subst e
  rcases mem_flat_set hb with hb | hb
  ·exact h.2.2 a ha a hb rfl
  ·exact hd a hb (by rw [List.flatten_cons];exact List.mem_append.2 (.inl ha))
theorem Own.row {v:Value} (h:Own (Rp.slice t R) B w [v] xs F) (hn:0 < xs.length):∃ g cap,v=.slice (some ⟨g,0,none⟩) xs.length cap∧g∈F:=by
 obtain ⟨⟨v',vs,Fs,e,h1,h2,rfl⟩,_,_⟩:=h
 simp only [List.cons.injEq,and_true] at e
 subst e
 rcases h1.2 with ⟨_,h0⟩ | ⟨g,cap,cur,rfl,_⟩
 ·omega
 ·exact ⟨g,cap,rfl,by simp [Value.blk,Value.ownBlock]⟩
theorem Own.elem {g n cap k:Nat} (h:Own (Rp.slice t R) B w [.slice (some ⟨g,0,none⟩) n cap] xs F) (hk:k < xs.length) :
  ∃ c G,Own R B w c xs[k] G∧(∀ b∈G,b∈F)∧g∈F∧g ∉ G∧g < w.heap.size∧n=xs.length∧(∀ j u,c[j]?=some u→w.cell? ⟨g,k*R.size+j,none⟩=some u)∧(∀ j,w.frozen? ⟨g,j,none⟩=false) ∧
   (∀ (w1 : World) (c' : List Value) (y : α), SameBut G w w1 → Own R B w1 c' y G →
    Own (Rp.slice t R) B (setCells w1 g (k*R.size) c') [.slice (some ⟨g,0,none⟩) n cap] (xs.set k y) F) ∧
   (∀ (w1 : World) (c' : List Value) (y : α) (G' : List Nat), Below w.heap.size w w1 → Own R B w1 c' y G' → (∀ b ∈ G', b ∉ F) →
    ∃ F',Own (Rp.slice t R) B (setCells w1 g (k*R.size) c') [.slice (some ⟨g,0,none⟩) n cap] (xs.set k y) F'∧∀ b∈F',b∈F∨b∈G'):=by
 obtain ⟨⟨v',vs,Fs,e,h1,h2,rfl⟩,hnd,hB⟩:=h
 simp only [List.cons.injEq,and_true] at e
 subst e
 rcases h1.2 with ⟨h',_⟩ | ⟨g',cap',cur,h',hb0,hg,hnc,hcm,hcs,htake⟩
 ·cases h'
 ·simp only [Value.slice.injEq, Option.some.injEq, Addr.mk.injEq, and_true] at h'
  obtain ⟨rfl,rfl,rfl⟩:=h'
  obtain ⟨c,G,hc,hG,hr⟩:=h2.at_ hk
  have hblk:Value.blk (.slice (some ⟨g,0,none⟩) xs.length cap)=[g]:=rfl
  rw [hblk] at hnd hB
  have hnd':=List.nodup_append.1 hnd
  have hGF:∀ b∈G,b∈Fs.flatten:=fun b hb=>mem_flatten_of hG hb
  have hgG:g ∉ Fs.flatten:=fun hf=>hnd'.2.2 g (by simp) g hf rfl
  have hlens:=h2.lens
  have hvl:=h2.len.1
  have hfl:vs.flatten.length=xs.length*R.size:=h1.1
  have hkk:k*R.size+R.size≤xs.length*R.size:=by rw [← Nat.succ_mul];exact Nat.mul_le_mul_right _ hk
  have hcc:xs.length*R.size≤cap*R.size:=Nat.mul_le_mul_right _ hnc
  -- the row's block behind the store of an element's cells
  have row:∀ (w1:World) (c':List Value),w1.heap[g]?=some (.cells cur R.ty (0,0))→c'.length=R.size →
    (setCells w1 g (k*R.size) c').ownsRow 0 R.ty R.size (.slice (some ⟨g,0,none⟩) xs.length cap) xs.length (vs.set k c').flatten:=by
   intro w1 c' hw1 hcl
   obtain ⟨cur',e1,e2,e3⟩:=setCells_block g (k*R.size) c' w1 R.ty cur hw1 (by rw [hcs,hcl];omega)
   have hfs:=flatten_set_len vs k c' R.size hlens (by omega)
   refine ⟨?_,.inr ⟨g,cap,cur',rfl,Nat.zero_le _,e1,hnc,hcm,by rw [e2,hcs],?_⟩⟩
   ·rw [hfs];simp only [List.length_append,List.length_take,List.length_drop,hfl,hcl];rw [Nat.min_eq_left (by omega)];omega
   ·rw [hfs, e3, hcl, ← htake]
    have hcl':cur.toList.length=cap*R.size:=by simpa using hcs
    rw [List.take_append,List.take_append]
    simp only [List.length_append,List.length_take,hcl']
    rw [List.take_take,Nat.min_eq_right (by omega),List.take_take,Nat.min_eq_left (by omega:k*R.size≤xs.length*R.size)]
    rw [Nat.min_eq_left (by omega:k*R.size≤cap*R.size),hcl,List.take_of_length_le (by omega:c'.length≤xs.length*R.size - k*R.size)]
    congr 1
    rw [List.drop_take]
  refine ⟨c,G,⟨hr,nodup_flat_at hnd'.2.1 hG,fun b hb=>hB b (List.mem_append.2 (.inr (hGF b hb)))⟩,fun b hb=>List.mem_append.2 (.inr (hGF b hb)),by simp [hblk],fun hg'=>hgG (hGF g hg'),heap_lt hg,rfl,?_,?_,?_,?_⟩
  ·intro j u hu
   have:=Rds.flat_at (h2.rds (B:=w.heap.size) h2.lt) hc hu
   rw [cell_of_row w g _ cur _ (0,0) hg]
   rw [← htake,List.getElem?_take] at this
   split at this
   ·simpa using this
   ·cases this
  ·intro j;exact frozen_of_row w g j cur _ hg
  ·intro w1 c' y hs ho
   have hgw:w1.heap[g]?=some (.cells cur R.ty (0,0)):=by rw [hs.2.2.2.2 g (heap_lt hg) (fun hf=>hgG (hGF g hf))];exact hg
   have hcl:=Rp.ow_len ho.1
   refine ⟨⟨_,vs.set k c',Fs,rfl,?_,?_,rfl⟩,hnd,hB⟩
   ·rw [List.length_set];exact row w1 c' hgw hcl
   ·have e1:∀ b∈Fs.flatten,(setCells w1 g (k*R.size) c').heap[b]?=w1.heap[b]?:=fun b hb =>
     (setCells_same g c' (k*R.size) w1).2.2.2.2 b (Nat.lt_of_lt_of_le (h2.lt b hb) hs.size) (by simp;rintro rfl;exact hgG hb)
    have:=Ows.set_ (w':=setCells w1 g (k*R.size) c') (i:=k) (c:=c') (y:=y) (G:=G) h2 (R.ow_keep ho.1 fun b hb=>e1 b (hGF b hb)) (fun j H hj hH b hb=>by
     rw [e1 b (mem_flatten_of hH hb)]
     exact hs.2.2.2.2 b (h2.lt b (mem_flatten_of hH hb)) (fun hbG=>nodup_flat_apart hnd'.2.1 (Ne.symm hj) hG hH b hbG hb))
    have hset:Fs.set k G=Fs:=by
     apply List.ext_getElem?
     intro j
     by_cases hj:k=j
     ·subst hj
      rw [hG,List.getElem?_set_self (by have:=h2.len.2;omega)]
     ·rw [List.getElem?_set_ne hj]
    rwa [hset] at this
  ·intro w1 c' y G' hb1 ho hdis
   have hgw:w1.heap[g]?=some (.cells cur R.ty (0,0)):=by rw [hb1.block g (heap_lt hg)];exact hg
   have hcl:=Rp.ow_len ho.1
   have hgG':g ∉ G':=fun hf=>hdis g hf (by simp [hblk])
   refine ⟨g::(Fs.set k G').flatten,⟨⟨_,vs.set k c',Fs.set k G',rfl,?_,?_,rfl⟩,?_,?_⟩,?_⟩
   ·rw [List.length_set];exact row w1 c' hgw hcl
   ·refine Ows.set_ (w' := setCells w1 g (k * R.size) c') h2 (R.ow_keep ho.1 fun b hb => (setCells_same g c' (k * R.size) w1).2.2.2.2 b (R.ow_lt ho.1 b hb) (by simp; rintro rfl; exact hgG' hb)) (fun j H hj hH b hb => ?_)
    have hbf:=mem_flatten_of hH hb
    rw [(setCells_same g c' (k*R.size) w1).2.2.2.2 b (Nat.lt_of_lt_of_le (h2.lt b hbf) hb1.size) (by simp;rintro rfl;exact hgG hbf)]
    exact hb1.block b (h2.lt b hbf)
   ·rw [List.nodup_cons]
    refine ⟨fun hf=>?_,nodup_flat_set hnd'.2.1 ho.2.1 (fun b hb hf=>hdis b hb (List.mem_append.2 (.inr hf)))⟩
    rcases mem_flat_set hf with hf | hf
    ·exact hgG hf
    ·exact hgG' hf
   ·intro b hb
    rcases List.mem_cons.1 hb with rfl | hb
    ·exact hB b (by simp)
    ·rcases mem_flat_set hb with hb | hb
     ·exact hB b (List.mem_append.2 (.inr hb))
     ·exact ho.2.2 b hb
   ·intro b hb
    rcases List.mem_cons.1 hb with rfl | hb
    ·exact .inl (by simp [hblk])
    ·rcases mem_flat_set hb with hb | hb
     ·exact .inl (List.mem_append.2 (.inr hb))
     ·exact .inr hb
theorem setCell_id {w:World} {g o:Nat} {u:Value} (h:w.cell? ⟨g,o,none⟩=some u):w.setCell ⟨g,o,none⟩ u=w:=by
 unfold World.cell? at h
 simp only [Option.isSome_none,Bool.false_eq_true,if_false] at h
 split at h
 ·rename_i c e f hg
  have hlt:=heap_lt hg
  have key:(w.setCell ⟨g,o,none⟩ u).heap=w.heap:=by
   apply Array.ext_getElem?
   intro i
   unfold World.setCell
   rw [Array.getElem?_modify]
   by_cases hi:g=i
   ·subst hi
    rw [if_pos rfl,hg]
    simp only [Option.map_some,Option.some.injEq,Option.isSome_none,Bool.false_eq_true,if_false,Obj.cells.injEq,and_true]
    apply Array.ext_getElem?
    intro j
    rw [Array.getElem?_setIfInBounds]
    by_cases hj:o=j
    ·subst hj
     rw [if_pos rfl,h]
     have:o < c.size:=by
      rcases Nat.lt_or_ge o c.size with h' | h'
      ·exact h'
      ·rw [Array.getElem?_eq_none h'] at h;cases h
     rw [if_pos this]
    ·rw [if_neg hj]
   ·rw [if_neg hi]
  show ({ w with heap:=(w.setCell ⟨g,o,none⟩ u).heap }:World)=w
  rw [key]
 ·cases h
theorem setCells_id (g:Nat) (cs:List Value):∀ (o:Nat) (w:World),(∀ j u,cs[j]?=some u→w.cell? ⟨g,o+j,none⟩=some u)→setCells w g o cs=w:=by
 induction cs with
 | nil=>intro o w _;rfl
 | cons c cs ih =>
  intro o w h
  have h0:=h 0 c rfl
  rw [Nat.add_zero] at h0
  rw [setCells,setCell_id h0]
  exact ih (o+1) w fun j u hu=>by rw [Nat.add_assoc,Nat.add_comm 1 j];exact h (j+1) u (by simpa using hu)
theorem setCells_set (g:Nat) (cs:List Value):∀ (o j:Nat) (u:Value) (w:World),(∀ j u,cs[j]?=some u→w.cell? ⟨g,o+j,none⟩=some u)→j < cs.length→setCells w g o (cs.set j u)=w.setCell ⟨g,o+j,none⟩ u:=by
 induction cs with
 | nil=>intro o j u w _ h;simp at h
 | cons c cs ih =>
  intro o j u w h hj
  have h0:=h 0 c rfl
  rw [Nat.add_zero] at h0
  cases j with
  | zero =>
   rw [List.set_cons_zero,setCells,Nat.add_zero]
   exact setCells_id g cs (o+1) _ fun j' u' hu'=>by
    rw [World.cell?_setCell_other _ _ _ _ (by simp),Nat.add_assoc,Nat.add_comm 1 j']
    exact h (j'+1) u' (by simpa using hu')
  | succ j =>
   rw [List.set_cons_succ,setCells,setCell_id h0,ih (o+1) j u w (fun j' u' hu'=>by rw [Nat.add_assoc,Nat.add_comm 1 j'];exact h (j'+1) u' (by simpa using hu')) (by simpa using hj)]
   rw [Nat.add_assoc,Nat.add_comm 1 j]
theorem Own.at_ {g n cap k:Nat} (h:Own (Rp.slice t R) B w [.slice (some ⟨g,0,none⟩) n cap] xs F) (hk:k < xs.length) :
  ∃ c G,Own R B w c xs[k] G∧(∀ b∈G,b∈F)∧g∈F∧(∀ j u,c[j]?=some u→w.cell? ⟨g,k*R.size+j,none⟩=some u)∧(∀ j,w.frozen? ⟨g,j,none⟩=false) ∧
   (∀ (j:Nat) (u:Value) (y:α),j < c.length→Own R B w (c.set j u) y G→Own (Rp.slice t R) B (w.setCell ⟨g,k*R.size+j,none⟩ u) [.slice (some ⟨g,0,none⟩) n cap] (xs.set k y) F) ∧
   (∀ (w1:World) (y:α),SameBut G w w1→Own R B w1 c y G→Own (Rp.slice t R) B w1 [.slice (some ⟨g,0,none⟩) n cap] (xs.set k y) F):=by
 obtain ⟨c,G,h1,h2,h3,h4,h5,_,h7,h8,h9,_⟩:=h.elem hk
 refine ⟨c,G,h1,h2,h3,h7,h8,fun j u y hj ho=>?_,fun w1 y hs ho=>?_⟩
 ·have := h9 w (c.set j u) y (SameBut.refl _ _) ho
  rwa [setCells_set g c (k*R.size) j u w h7 hj] at this
 ·have := h9 w1 c y hs ho
  rwa [setCells_id g c (k*R.size) w1 (fun j u hu=>by
   rw [World.cell?_of_block (w:=w) (hs.2.2.2.2 g h5 h4)]
   exact h7 j u hu)] at this
theorem Own.made {v:Value} {n:Nat} {zs:List Value} {z:α} (h:w.ownsRow B R.ty R.size v n (List.replicate n zs).flatten) (hz:R.ow w zs z []):Own (Rp.slice t R) B w [v] (List.replicate n z) (Value.blk v):=by
 have ho:Ows R w (List.replicate n zs) (List.replicate n z) (List.replicate n []):=by
  clear h
  induction n with
  | zero=>trivial
  | succ n ih=>exact ⟨hz,ih⟩
 have hf:(List.replicate n ([]:List Nat)).flatten=[]:=by
  clear h ho
  induction n with
  | zero=>rfl
  | succ n ih=>rw [List.replicate_succ,List.flatten_cons,ih];rfl
 refine ⟨⟨v,_,_,rfl,by rw [List.length_replicate];exact own_zero h,ho,by rw [hf,List.append_nil]⟩,blk_nodup v,own_ge h⟩
theorem Own.empty {v:Value} (h:w.ownsRow B R.ty R.size v 0 []):Own (Rp.slice t R) B w [v] [] (Value.blk v) :=
 ⟨⟨v,[],[],rfl,own_zero h,trivial,by simp⟩,blk_nodup v,own_ge h⟩
theorem Own.int {tt:TypeId} {n:Int} (h:I64 n):Own (Rp.int tt) B w [.int .i64 n] n []:=⟨⟨rfl,h,rfl⟩,by simp,by simp⟩
theorem Own.pair {β:Type} {S:Rp β} {tt:TypeId} {c d:List Value} {a:α} {b:β} {G H:List Nat} (B':Nat) (h:Own R B w c a G) (k:Own S B' w d b H) (hG:∀ b∈G,b < B') (hB:B≤B'):Own (Rp.pair tt R S) B w (c++d) (a,b) (G++H) :=
 ⟨⟨c, d, G, H, rfl, rfl, h.1, k.1⟩, List.nodup_append.2 ⟨h.2.1, k.2.1, fun x hx y hy e => by have := hG x hx; have := k.2.2 y hy; omega⟩, fun x hx => by
  rcases List.mem_append.1 hx with hx | hx
  ·exact h.2.2 x hx
  ·exact Nat.le_trans hB (k.2.2 x hx)⟩
end
structure Mk (α:Type) where
 f:α→Int→α
 n:α→Nat
def Mk.int:Mk Int:=⟨fun _ k=>k,fun _=>1⟩
def Mk.val:Mk Int:=⟨fun x _=>x,fun _=>0⟩
def mkList {α:Type} (M:Mk α):List α→Int→List α
 | [],_=>[]
 | x::xs,k=>M.f x k::mkList M xs (k+M.n x)
def cntList {α:Type} (M:Mk α):List α→Nat
 | []=>0
 | x::xs=>M.n x+cntList M xs
def Mk.list {α:Type} (M:Mk α):Mk (List α):=⟨mkList M,cntList M⟩
section
variable {α:Type} (M:Mk α)
end
theorem Ret.slice {α:Type} {R:Rp α} {t:TypeId} {w w':World} {xs:List α} {v:Value} {F:List Nat} (h:Own (Rp.slice t R) w.heap.size w' [v] xs F) (hb:Below w.heap.size w w'):Ret (Rp.slice t R) w xs (.returned v) w' :=
 ⟨[v],F,rfl,h,hb⟩
def High (B:Nat) (w w':World):Prop:=w.heap.size≤w'.heap.size∧∀ b,B≤b→b < w.heap.size→w'.heap[b]?=w.heap[b]?
theorem High.refl (B:Nat) (w:World):High B w w:=⟨Nat.le_refl _,fun _ _ _=>rfl⟩
theorem High.trans {B:Nat} {a b c:World} (h:High B a b) (k:High B b c):High B a c :=
 ⟨Nat.le_trans h.1 k.1,fun x hx hs=>(k.2 x hx (Nat.lt_of_lt_of_le hs h.1)).trans (h.2 x hx hs)⟩
theorem High.alloc {B:Nat} {a w:World} (h:High B a w) (o:Obj):High B a (w.alloc o) :=
 h.trans ⟨by simp,fun b _ hs=>Below.heap_alloc w o b hs⟩
theorem High.setCell {B:Nat} {a w:World} (h:High B a w) {p:Addr} (hp:p.block < B) (u:Value):High B a (w.setCell p u) :=
 h.trans ⟨by simp,fun b hb _=>Below.heap_setCell w p u b (by omega)⟩
theorem High.call {B:Nat} {a w w':World} (h:High B a w) (k:Below w.heap.size w w'):High B a w' :=
 h.trans ⟨k.size,fun b _ hs=>k.block b hs⟩
theorem SameBut.call {F:List Nat} {w T w':World} (h:SameBut F w T) (k:Below T.heap.size T w'):SameBut F w w':=h.trans (SameBut.of_below k)
theorem SameBut.alloc {F:List Nat} {w T:World} (h:SameBut F w T) (o:Obj):SameBut F w (T.alloc o):=h.trans (SameBut.of_below ((Below.refl _ _).alloc (Nat.le_refl _) o))
theorem setCells_block_eq {g o:Nat} {cs:List Value} {w w1:World} {e:TypeId} {cur cur1:Array Value} (h:w.heap[g]?=some (.cells cur e (0,0))) (h1:w1.heap[g]?=some (.cells cur1 e (0,0))) (hs:cur1.size=cur.size)
  (ho:o+cs.length≤cur.size) (ht:cur1.toList.take o=cur.toList.take o) (hd:cur1.toList.drop (o+cs.length)=cur.toList.drop (o+cs.length)):(setCells w1 g o cs).heap[g]?=(setCells w g o cs).heap[g]?:=by
 obtain ⟨a,a1,a2,a3⟩:=setCells_block g o cs w e cur h ho
 obtain ⟨b,b1,b2,b3⟩:=setCells_block g o cs w1 e cur1 h1 (by omega)
 rw [a1,b1]
 have:a=b:=by
  apply Array.ext'
  rw [a3,b3,ht,hd]
 rw [this]
structure Hole {α:Type} (R:Rp α) (t:TypeId) (B:Nat) (w:World) (g n cap k:Nat) (L:List α) (F G:List Nat) (c:List Value):Prop where
 notin:g ∉ G
 lt:g < w.heap.size
 len:c.length=R.size
 cell:∀ j u,c[j]?=some u→w.cell? ⟨g,k*R.size+j,none⟩=some u
 frozen:∀ j,w.frozen? ⟨g,j,none⟩=false
 blk:∃ cur,w.heap[g]?=some (.cells cur R.ty (0,0))∧k*R.size+R.size≤cur.size
 close:∀ (w1:World) (c':List Value) (y:α),SameBut (g::G) w w1→w1.heap[g]?=(setCells w g (k*R.size) c').heap[g]?→Own R B w1 c' y G→Own (Rp.slice t R) B w1 [.slice (some ⟨g,0,none⟩) n cap] (L.set k y) F
section
variable {α:Type} {R:Rp α} {t:TypeId} {w w1:World} {B g n cap k:Nat} {L:List α} {F G:List Nat} {c:List Value}
theorem Hole.set (h:Hole R t B w g n cap k L F G c) (j:Nat) (u:Value) (hj:j < c.length):Hole R t B (w.setCell ⟨g,k*R.size+j,none⟩ u) g n cap k L F G (c.set j u):=by
 obtain ⟨cur,hg,hcs⟩:=h.blk
 have hlen:=h.len
 have hg1:(w.setCell ⟨g,k*R.size+j,none⟩ u).heap[g]?=some (.cells (cur.setIfInBounds (k*R.size+j) u) R.ty (0,0)):=heap_setCell_same w g _ cur _ u hg
 refine ⟨h.notin,by simpa using h.lt,by simpa using h.len,?_,fun i=>frozen_of_row _ g i _ _ hg1,⟨_,hg1,by simpa using hcs⟩,?_⟩
 ·intro i x hx
  rw [cell_of_row _ g _ _ _ (0,0) hg1,Array.getElem?_setIfInBounds]
  by_cases hij:j=i
  ·subst hij
   rw [List.getElem?_set_self hj] at hx
   rw [if_pos rfl,if_pos (by omega)]
   exact hx
  ·rw [List.getElem?_set_ne hij] at hx
   rw [if_neg (by omega),← cell_of_row w g _ cur _ (0,0) hg]
   exact h.cell i x hx
 ·intro w1 c' y hs hgw ho
  have hcl:=Rp.ow_len ho.1
  refine h.close w1 c' y (((SameBut.refl (g::G) w).setCell (by simp) u).trans hs) (hgw.trans ?_) ho
  refine setCells_block_eq hg hg1 (by simp) (by rw [hcl];exact hcs) ?_ ?_
  ·rw [Array.toList_setIfInBounds,List.take_set_of_le (by omega)]
  ·rw [Array.toList_setIfInBounds,List.drop_set_of_lt (by omega)]
theorem Hole.done (h:Hole R t B w g n cap k L F G c) {y:α} (ho:Own R B w c y G):Own (Rp.slice t R) B w [.slice (some ⟨g,0,none⟩) n cap] (L.set k y) F :=
 h.close w c y (SameBut.refl _ _) (by rw [setCells_id g c (k*R.size) w h.cell]) ho
end
theorem Rds.take:∀ {α:Type} {R:Rp α} {w:World} {B:Nat} {vs:List (List Value)} {xs:List α} (k:Nat),Rds R w B vs xs→Rds R w B (vs.take k) (xs.take k)
 | _,_,_,_,[],[],k,_=>by simp [Rds]
 | _,_,_,_,_::_,_::_,0,_=>by simp [Rds]
 | _,_,_,_,_::_,_::_,k+1,h=>⟨h.1,Rds.take k h.2⟩
theorem Rds.drop:∀ {α:Type} {R:Rp α} {w:World} {B:Nat} {vs:List (List Value)} {xs:List α} (k:Nat),Rds R w B vs xs→Rds R w B (vs.drop k) (xs.drop k)
 | _,_,_,_,[],[],k,_=>by simp [Rds]
 | _,_,_,_,_::_,_::_,0,h=>h
 | _,_,_,_,_::_,_::_,k+1,h=>Rds.drop k h.2
theorem flatten_take {α:Type} (vs:List (List α)) (k:Nat):∃ r,vs.flatten=(vs.take k).flatten++r :=
 ⟨(vs.drop k).flatten,by rw [← List.flatten_append,List.take_append_drop]⟩
theorem flatten_drop {α:Type} (vs:List (List α)) (k s:Nat) (h:∀ v∈vs,v.length=s) (hk:k≤vs.length):vs.flatten.drop (k*s)=(vs.drop k).flatten:=by
 have hl:((vs.take k).flatten).length=k*s:=by
  have:∀ (l:List (List α)),(∀ v∈l,v.length=s)→l.flatten.length=l.length*s:=by
   intro l
   induction l with
   | nil=>intro _;simp
   | cons x l ih=>intro hh;simp only [List.flatten_cons,List.length_append,List.length_cons,ih (fun v hv=>hh v (by simp [hv])),hh x (by simp),Nat.add_mul];omega
  rw [this _ (fun v hv=>h v (List.mem_of_mem_take hv))]
  simp;rw [Nat.min_eq_left hk]
 have e:vs.flatten=(vs.take k).flatten++(vs.drop k).flatten:=by rw [← List.flatten_append,List.take_append_drop]
 rw [e,← hl,List.drop_left]
theorem Rds.lens {α:Type} {R:Rp α} {w:World} {B:Nat}:∀ {vs:List (List Value)} {xs:List α},Rds R w B vs xs→∀ v∈vs,v.length=R.size
 | [],[],_,v,hv=>by simp at hv
 | _ :: _, _ :: _, h, v, hv => by
  rcases List.mem_cons.1 hv with rfl | hv
  ·exact R.rd_len h.1
  ·exact h.2.lens v hv
end Go.Proofs.Ytmcpigcpachdkaa
