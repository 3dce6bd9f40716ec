/- Plain words for memory, over any program: how a Go value in memory reads as a Lean datum ('Rp'), what a call leaves alone ('Ext'). No condition. -/
import Derived.WalkKit
import Derived.Outline
import Derived.LoopTactic
import Derived.OwnWalk
import Derived.Below
import Derived.Lib.Hide
import Derived.Deep.QuietTactic
import Derived.BigQuiet
import Derived.Deep.AppendLies
import Derived.Maps.AppendAt
namespace Go.Proofs.Ytmcpigcpachdkaa
open Go.RowKit
def I64 (n:Int):Prop:=-9223372036854775808≤n∧n≤9223372036854775807
structure Ext (B:Nat) (w:World) where
 val:World
 ok:Below B w val
def Ext.here (B:Nat) (w:World):Ext B w:=⟨w,Below.refl _ _⟩
instance (B:Nat) (w:World):Nonempty (Ext B w):=⟨Ext.here B w⟩
theorem Ext.cell {B:Nat} {w:World} (x:Ext B w) {p:Addr} (h:p.block < B):x.val.cell? p=w.cell? p:=x.ok.cell h
theorem Ext.size {B:Nat} {w:World} (x:Ext B w):w.heap.size≤x.val.heap.size:=x.ok.size
theorem Ext.of {B:Nat} {w w':World} (h:Below B w w'):∃ x:Ext B w,w'=x.val:=⟨⟨w',h⟩,rfl⟩
theorem Ext.step {B:Nat} {w w':World} (x:Ext B w) (h:Below B x.val w'):∃ y:Ext B w,w'=y.val:=⟨⟨w',x.ok.trans h⟩,rfl⟩
theorem Ext.alloc {B:Nat} {w:World} (x:Ext B w) (h:B≤x.val.heap.size) (o:Obj):∃ y:Ext B w,x.val.alloc o=y.val:=⟨⟨_,x.ok.alloc h o⟩,rfl⟩
theorem heap_lt {w:World} {b:Nat} {o:Obj} (h:w.heap[b]?=some o):b < w.heap.size:=by
 rcases Nat.lt_or_ge b w.heap.size with h' | h'
 ·exact h'
 ·rw [Array.getElem?_eq_none h'] at h;cases h
structure Rp (α:Type) where
 ty:TypeId
 size:Nat
 agg:Bool
 rd:World→Nat→List Value→α→Prop
 ow:World→List Value→α→List Nat→Prop
 rd_len:∀ {w B cs a},rd w B cs a→cs.length=size
 rd_one:∀ {w B cs a},rd w B cs a→∀ u∈cs,u.oneCell'=true
 rd_keep:∀ {w w' B cs a},rd w B cs a→(∀ p:Addr,p.block < B→w'.cell? p=w.cell? p)→rd w' B cs a
 rd_more:∀ {w B B' cs a},rd w B cs a→B≤B'→rd w B' cs a
 ow_keep:∀ {w w' cs a F},ow w cs a F→(∀ b∈F,w'.heap[b]?=w.heap[b]?)→ow w' cs a F
 ow_lt:∀ {w cs a F},ow w cs a F→∀ b∈F,b < w.heap.size
 ow_rd:∀ {w B cs a F},ow w cs a F→(∀ b∈F,b < B)→rd w B cs a
def Rp.val {α:Type} (R:Rp α) (cs:List Value):Value:=if R.agg then .agg cs.toArray else cs.headD undef
section
variable {α:Type} (R:Rp α) {w w':World} {B:Nat} {cs:List Value} {a:α} {F:List Nat}
theorem Rp.ow_below {R:Rp α} (h:R.ow w cs a F) (x:Below w.heap.size w w'):R.ow w' cs a F:=R.ow_keep h fun b hb=>x.block b (R.ow_lt h b hb)
theorem Rp.ow_len {R:Rp α} (h:R.ow w cs a F):cs.length=R.size:=R.rd_len (R.ow_rd (B:=w.heap.size) h (R.ow_lt h))
theorem Rp.ow_one {R:Rp α} (h:R.ow w cs a F):∀ u∈cs,u.oneCell'=true:=R.rd_one (R.ow_rd (B:=w.heap.size) h (R.ow_lt h))
end
def Rp.int (t:TypeId):Rp Int where
 ty:=t
 size:=1
 agg:=false
 rd _ _ cs n:=cs=[.int .i64 n]∧I64 n
 ow _ cs n F:=cs=[.int .i64 n]∧I64 n∧F=[]
 rd_len h:=by rw [h.1];rfl
 rd_one h:=by rw [h.1];simp [Value.oneCell']
 rd_keep h _:=h
 rd_more h _:=h
 ow_keep h _:=h
 ow_lt h:=by rw [h.2.2];simp
 ow_rd h _:=⟨h.1,h.2.1⟩
def Rp.bool (t:TypeId):Rp Bool where
 ty:=t
 size:=1
 agg:=false
 rd _ _ cs n:=cs=[.bool n]
 ow _ cs n F:=cs=[.bool n]∧F=[]
 rd_len h:=by rw [h];rfl
 rd_one h:=by rw [h];simp [Value.oneCell']
 rd_keep h _:=h
 rd_more h _:=h
 ow_keep h _:=h
 ow_lt h:=by rw [h.2];simp
 ow_rd h _:=h.1
def Rp.pair {α β:Type} (t:TypeId) (R:Rp α) (S:Rp β):Rp (α×β) where
 ty:=t
 size:=R.size+S.size
 agg:=true
 rd w B cs x:=∃ c d,cs=c++d∧R.rd w B c x.1∧S.rd w B d x.2
 ow w cs x F:=∃ c d G H,cs=c++d∧F=G++H∧R.ow w c x.1 G∧S.ow w d x.2 H
 rd_len:=by rintro _ _ _ _ ⟨c,d,rfl,h,k⟩;rw [List.length_append,R.rd_len h,S.rd_len k]
 rd_one:=by
  rintro _ _ _ _ ⟨c,d,rfl,h,k⟩ u hu
  rcases List.mem_append.1 hu with hu | hu
  ·exact R.rd_one h u hu
  ·exact S.rd_one k u hu
 rd_keep:=by rintro _ _ _ _ _ ⟨c,d,rfl,h,k⟩ e;exact ⟨c,d,rfl,R.rd_keep h e,S.rd_keep k e⟩
 rd_more:=by rintro _ _ _ _ _ ⟨c,d,rfl,h,k⟩ e;exact ⟨c,d,rfl,R.rd_more h e,S.rd_more k e⟩
 ow_keep:=by
  rintro _ _ _ _ _ ⟨c,d,G,H,rfl,rfl,h,k⟩ e
  exact ⟨c,d,G,H,rfl,rfl,R.ow_keep h fun b hb=>e b (List.mem_append.2 (.inl hb)),S.ow_keep k fun b hb=>e b (List.mem_append.2 (.inr hb))⟩
 ow_lt:=by
  rintro _ _ _ _ ⟨c,d,G,H,rfl,rfl,h,k⟩ b hb
  rcases List.mem_append.1 hb with hb | hb
  ·exact R.ow_lt h b hb
  ·exact S.ow_lt k b hb
 ow_rd:=by
  rintro _ _ _ _ _ ⟨c,d,G,H,rfl,rfl,h,k⟩ e
  exact ⟨c,d,rfl,R.ow_rd h fun b hb=>e b (List.mem_append.2 (.inl hb)),S.ow_rd k fun b hb=>e b (List.mem_append.2 (.inr hb))⟩
def Rp.as {α β:Type} (t:TypeId) (ag:Bool) (R:Rp α) (f:β→α):Rp β where
 ty:=t
 size:=R.size
 agg:=ag
 rd w B cs x:=R.rd w B cs (f x)
 ow w cs x F:=R.ow w cs (f x) F
 rd_len:=R.rd_len
 rd_one:=R.rd_one
 rd_keep:=R.rd_keep
 rd_more:=R.rd_more
 ow_keep:=R.ow_keep
 ow_lt:=R.ow_lt
 ow_rd:=R.ow_rd
def Rds {α:Type} (R:Rp α) (w:World) (B:Nat):List (List Value)→List α→Prop
 | [],[]=>True
 | c::cs,x::xs=>R.rd w B c x∧Rds R w B cs xs
 | _,_=>False
def Ows {α:Type} (R:Rp α) (w:World):List (List Value)→List α→List (List Nat)→Prop
 | [],[],[]=>True
 | c::cs,x::xs,F::Fs=>R.ow w c x F∧Ows R w cs xs Fs
 | _,_,_=>False
section
variable {α:Type} {R:Rp α} {w w':World} {B:Nat}
theorem Rds.len:∀ {vs:List (List Value)} {xs:List α},Rds R w B vs xs→vs.length=xs.length
 | [],[],_=>rfl
 | _::_,_::_,h=>by simp [Rds.len h.2]
theorem Rds.at_:∀ {vs:List (List Value)} {xs:List α} {i:Nat} (h:i < xs.length),Rds R w B vs xs→∃ c,vs[i]?=some c∧R.rd w B c xs[i]
 | [],[],_,h,_=>absurd h (by simp)
 | c::_,_::_,0,_,h=>⟨c,rfl,h.1⟩
 | _ :: _, _ :: _, i + 1, hi, h => by
  obtain ⟨c,hc,hr⟩:=Rds.at_ (i:=i) (by simpa using hi) h.2
  exact ⟨c,by simpa using hc,by simpa using hr⟩
theorem Rds.imp:∀ {B':Nat} {vs:List (List Value)} {xs:List α},(∀ c x,R.rd w B c x→R.rd w' B' c x)→Rds R w B vs xs→Rds R w' B' vs xs
 | _,[],[],_,_=>trivial
 | _,_::_,_::_,f,h=>⟨f _ _ h.1,h.2.imp f⟩
theorem Rds.one:∀ {vs:List (List Value)} {xs:List α},Rds R w B vs xs→∀ u∈vs.flatten,u.oneCell'=true
 | [],[],_,u,hu=>by simp at hu
 | _ :: _, _ :: _, h, u, hu => by
  rcases List.mem_append.1 hu with hu | hu
  ·exact R.rd_one h.1 u hu
  ·exact h.2.one u hu
theorem Rds.flat_at:∀ {vs:List (List Value)} {xs:List α} {i j:Nat} {c:List Value} {u:Value},Rds R w B vs xs→vs[i]?=some c→c[j]?=some u→vs.flatten[i*R.size+j]?=some u
 | [],[],_,_,_,_,_,h,_=>by simp at h
 | c :: _, _ :: _, 0, j, _, u, h, hc, hj => by
  simp only [List.length_cons,Nat.zero_lt_succ,List.getElem?_eq_getElem,List.getElem_cons_zero,Option.some.injEq] at hc
  subst hc
  have:j < c.length:=by rcases Nat.lt_or_ge j c.length with h' | h';exact h';rw [List.getElem?_eq_none h'] at hj;cases hj
  rw [List.flatten_cons,List.getElem?_append_left (by omega)]
  simpa using hj
 | c :: vs, _ :: _, i + 1, j, _, u, h, hc, hj => by
  have h1:=Rds.flat_at (i:=i) h.2 (by simpa using hc) hj
  have hl:=R.rd_len h.1
  rw [List.flatten_cons,List.getElem?_append_right (by rw [hl,Nat.add_mul];omega),← h1]
  congr 1
  rw [hl,Nat.add_mul]
  omega
theorem Ows.len:∀ {vs:List (List Value)} {xs:List α} {Fs:List (List Nat)},Ows R w vs xs Fs→vs.length=xs.length∧Fs.length=xs.length
 | [],[],[],_=>⟨rfl,rfl⟩
 | _::_,_::_,_::_,h=>by have:=Ows.len h.2;simp [this.1,this.2]
theorem Ows.keep:∀ {vs:List (List Value)} {xs:List α} {Fs:List (List Nat)},Ows R w vs xs Fs→(∀ b∈Fs.flatten,w'.heap[b]?=w.heap[b]?)→Ows R w' vs xs Fs
 | [],[],[],_,_=>trivial
 | _::_,_::_,_::_,h,e=>⟨R.ow_keep h.1 fun b hb=>e b (List.mem_append.2 (.inl hb)),h.2.keep fun b hb=>e b (List.mem_append.2 (.inr hb))⟩
theorem Ows.lt:∀ {vs:List (List Value)} {xs:List α} {Fs:List (List Nat)},Ows R w vs xs Fs→∀ b∈Fs.flatten,b < w.heap.size
 | [],[],[],_,b,hb=>by simp at hb
 | _ :: _, _ :: _, _ :: _, h, b, hb => by
  rcases List.mem_append.1 hb with hb | hb
  ·exact R.ow_lt h.1 b hb
  ·exact h.2.lt b hb
theorem Ows.rds:∀ {vs:List (List Value)} {xs:List α} {Fs:List (List Nat)},Ows R w vs xs Fs→(∀ b∈Fs.flatten,b < B)→Rds R w B vs xs
 | [],[],[],_,_=>trivial
 | _::_,_::_,_::_,h,e=>⟨R.ow_rd h.1 fun b hb=>e b (List.mem_append.2 (.inl hb)),h.2.rds fun b hb=>e b (List.mem_append.2 (.inr hb))⟩
end
def Value.blk (v:Value):List Nat:=v.ownBlock.toList
def Rp.slice {α:Type} (t:TypeId) (R:Rp α):Rp (List α) where
 ty:=t
 size:=1
 agg:=false
 rd w B cs xs:=∃ A c vs,cs=[.slice A xs.length c]∧xs.length≤c∧c≤maxLen∧Rds R w B vs xs ∧
  (0 < xs.length→∃ b off,A=some ⟨b,off,none⟩∧b < B∧∀ j u,vs.flatten[j]?=some u→w.cell? ⟨b,off+j,none⟩=some u)
 ow w cs xs F:=∃ v vs Fs,cs=[v]∧w.ownsRow 0 R.ty R.size v xs.length vs.flatten∧Ows R w vs xs Fs∧F=Value.blk v++Fs.flatten
 rd_len:=by rintro _ _ _ _ ⟨A,c,vs,rfl,_⟩;rfl
 rd_one:=by rintro _ _ _ _ ⟨A,c,vs,rfl,_⟩;simp [Value.oneCell']
 rd_keep:=by
  rintro _ _ _ _ _ ⟨A,c,vs,rfl,h1,h2,h3,h4⟩ e
  refine ⟨A,c,vs,rfl,h1,h2,h3.imp fun c x h=>R.rd_keep h e,fun hn=>?_⟩
  obtain ⟨b,off,hA,hb,hc⟩:=h4 hn
  exact ⟨b,off,hA,hb,fun j u hu=>(e _ hb).trans (hc j u hu)⟩
 rd_more:=by
  rintro _ _ _ _ _ ⟨A,c,vs,rfl,h1,h2,h3,h4⟩ e
  refine ⟨A,c,vs,rfl,h1,h2,h3.imp fun c x h=>R.rd_more h e,fun hn=>?_⟩
  obtain ⟨b,off,hA,hb,hc⟩:=h4 hn
  exact ⟨b,off,hA,by omega,hc⟩
 ow_keep:=by
  rintro w w' _ _ _ ⟨v,vs,Fs,rfl,h1,h2,rfl⟩ e
  refine ⟨v,vs,Fs,rfl,⟨h1.1,?_⟩,h2.keep fun b hb=>e b (List.mem_append.2 (.inr hb)),rfl⟩
  rcases h1.2 with h | ⟨g,cap,cur,hv,hb,hg,h⟩
  ·exact .inl h
  ·exact .inr ⟨g,cap,cur,hv,hb,by rw [e g (List.mem_append.2 (.inl (by rw [hv];simp [Value.blk,Value.ownBlock])))];exact hg,h⟩
 ow_lt:=by
  rintro w _ _ _ ⟨v,vs,Fs,rfl,h1,h2,rfl⟩ b hb
  rcases List.mem_append.1 hb with hb | hb
  ·rcases h1.2 with ⟨rfl, _⟩ | ⟨g, cap, cur, rfl, _, hg, h⟩
   ·simp [Value.blk,Value.ownBlock] at hb
   ·simp only [Value.blk, Value.ownBlock, Option.toList_some, List.mem_singleton] at hb
    subst hb
    exact heap_lt hg
  ·exact h2.lt b hb
 ow_rd:=by
  rintro w B _ xs _ ⟨v,vs,Fs,rfl,h1,h2,rfl⟩ e
  have h3:=h2.rds (B:=B) fun b hb=>e b (List.mem_append.2 (.inr hb))
  rcases h1.2 with ⟨rfl,hn⟩ | ⟨g,cap,cur,rfl,_,hg,hnc,hcm,hcs,ht⟩
  ·exact ⟨none,0,vs,by rw [hn],by omega,by simp [maxLen],h3,fun h=>by omega⟩
  ·refine ⟨_, cap, vs, rfl, hnc, hcm, h3, fun _ => ⟨g, 0, rfl, e g (List.mem_append.2 (.inl (by simp [Value.blk, Value.ownBlock]))), fun j u hu => ?_⟩⟩
   rw [← ht] at hu
   rw [Nat.zero_add,cell_of_row w g j cur _ (0,0) hg]
   rw [List.getElem?_take] at hu
   split at hu
   ·simpa using hu
   ·cases hu
section
variable {α:Type} {R:Rp α} {t:TypeId} {w w':World} {B:Nat} {v:Value} {xs:List α} {F:List Nat}
end
def SameBut (F:List Nat) (w w':World):Prop:=w'.os=w.os∧w'.tape=w.tape∧w'.output=w.output∧w.heap.size≤w'.heap.size∧∀ b,b < w.heap.size→b ∉ F→w'.heap[b]?=w.heap[b]?
theorem SameBut.refl (F:List Nat) (w:World):SameBut F w w:=⟨rfl,rfl,rfl,Nat.le_refl _,fun _ _ _=>rfl⟩
theorem SameBut.trans {F:List Nat} {a b c:World} (h:SameBut F a b) (k:SameBut F b c):SameBut F a c :=
 ⟨k.1.trans h.1,k.2.1.trans h.2.1,k.2.2.1.trans h.2.2.1,Nat.le_trans h.2.2.2.1 k.2.2.2.1,fun x hx hF=>(k.2.2.2.2 x (Nat.lt_of_lt_of_le hx h.2.2.2.1) hF).trans (h.2.2.2.2 x hx hF)⟩
theorem SameBut.more {F G:List Nat} {a b:World} (h:SameBut F a b) (k:∀ x∈F,x∈G):SameBut G a b :=
 ⟨h.1,h.2.1,h.2.2.1,h.2.2.2.1,fun x hx hG=>h.2.2.2.2 x hx fun hF=>hG (k x hF)⟩
theorem SameBut.setCell {F:List Nat} {a w:World} (h:SameBut F a w) {p:Addr} (hp:p.block∈F) (u:Value):SameBut F a (w.setCell p u) :=
 ⟨h.1,h.2.1,h.2.2.1,by simpa using h.2.2.2.1,fun x hx hF=>(Below.heap_setCell w p u x (fun e=>hF (by rw [e];exact hp))).trans (h.2.2.2.2 x hx hF)⟩
theorem SameBut.below {F:List Nat} {B:Nat} {a w:World} (h:SameBut F a w) (hB:B≤a.heap.size) (hF:∀ b∈F,B≤b):Below B a w :=
 ⟨h.1,h.2.1,h.2.2.1,h.2.2.2.1,fun x hx=>h.2.2.2.2 x (by omega) fun hm=>by have:=hF x hm;omega⟩
theorem SameBut.of_below {F:List Nat} {a w:World} (h:Below a.heap.size a w):SameBut F a w :=
 ⟨h.os,h.tape,h.output,h.size,fun x hx _=>h.block x hx⟩
theorem SameBut.size {F:List Nat} {a w:World} (h:SameBut F a w):a.heap.size≤w.heap.size:=h.2.2.2.1
def Own {α:Type} (R:Rp α) (B:Nat) (w:World) (cs:List Value) (a:α) (F:List Nat):Prop:=R.ow w cs a F∧F.Nodup∧∀ b∈F,B≤b
def Ret {α:Type} (R:Rp α) (w:World) (r:α) (e:Ending) (w':World):Prop :=
 ∃ cs F,e=.returned (R.val cs)∧Own R w.heap.size w' cs r F∧Below w.heap.size w w'
section
variable {α:Type} {R:Rp α} {B:Nat} {w w':World} {cs:List Value} {a:α} {F G:List Nat}
theorem Own.rd (h:Own R B w cs a F):R.rd w w.heap.size cs a:=R.ow_rd h.1 (R.ow_lt h.1)
theorem Own.lt (h:Own R B w cs a F):∀ b∈F,b < w.heap.size:=R.ow_lt h.1
theorem Own.below (h:Own R B w cs a F) (x:Below w.heap.size w w'):Own R B w' cs a F:=⟨R.ow_below h.1 x,h.2⟩
theorem Own.drop {B':Nat} (h:Own R B w cs a F) (hB:B'≤B):Own R B' w cs a F:=⟨h.1,h.2.1,fun b hb=>Nat.le_trans hB (h.2.2 b hb)⟩
theorem Own.keep (h:Own R B w cs a F) (x:∀ b∈F,w'.heap[b]?=w.heap[b]?):Own R B w' cs a F:=⟨R.ow_keep h.1 x,h.2⟩
theorem Own.alloc (h:Own R B w cs a F) (o:Obj):Own R B (w.alloc o) cs a F :=
 ⟨R.ow_keep h.1 fun b hb=>Below.heap_alloc w o b (R.ow_lt h.1 b hb),h.2⟩
theorem Own.apart {B':Nat} (h:∀ b∈F,b < B') (k:∀ b∈G,B'≤b):∀ b∈F,b ∉ G:=fun b hb hg=>by have:=h b hb;have:=k b hg;omega
end
structure Elem (P:Program) (t e:TypeId) (zs:List Value) (bytes:Nat):Prop where
 under:P.underlying t=some (.slice e)
 info:∃ i z,P.info? e=some i∧i.zero=some z∧i.size=zs.length∧i.bytes=bytes∧z.cells=zs.toArray
 pos:0 < zs.length
 pos':0 < bytes
theorem Elem.of {P:Program} {t e:TypeId} {zs:List Value} {bytes:Nat} (z:Value) (h:P.underlying t=some (.slice e))
  (h1:(P.info? e).map (fun i=>(i.zero,i.size,i.bytes))=some (some z,zs.length,bytes)) (h2:z.cells=zs.toArray) (h3:0 < zs.length) (h4:0 < bytes):Elem P t e zs bytes:=by
 obtain ⟨i,hi,a,b,c⟩:=info_parts h1
 exact ⟨h,⟨i,z,hi,a,b,c,h2⟩,h3,h4⟩
theorem made_flat (zs:List Value) (n:Nat) (h:0 < zs.length):(madeCells zs.toArray (n*zs.length)).toList=(List.replicate n zs).flatten:=by
 apply List.ext_getElem?
 intro j
 simp only [madeCells,List.size_toArray,Array.toList_map,Array.toList_range,List.getElem?_map]
 have key:∀ m,(List.replicate m zs).flatten[j]?=if j < m*zs.length then zs[j % zs.length]? else none:=by
  intro m
  induction m generalizing j with
  | zero=>simp
  | succ m ih =>
   rw [List.replicate_succ,List.flatten_cons]
   rcases Nat.lt_or_ge j zs.length with hj | hj
   ·rw [List.getElem?_append_left hj,Nat.mod_eq_of_lt hj,if_pos (by rw [Nat.add_mul];omega)]
   ·rw [List.getElem?_append_right hj, ih, ← Nat.mod_eq_sub_mod hj]
    by_cases hlt:j < (m+1)*zs.length
    ·rw [if_pos hlt,if_pos (by rw [Nat.add_mul] at hlt;omega)]
    ·rw [if_neg hlt,if_neg (by rw [Nat.add_mul] at hlt;omega)]
 rw [key]
 by_cases hj:j < n*zs.length
 ·have hm := Nat.mod_lt j h
  rw [if_pos hj,List.getElem?_range hj]
  simp [List.getElem?_eq_getElem hm,Option.map]
 ·rw [if_neg hj, List.getElem?_eq_none (by simpa using hj)]
  rfl
theorem blk_none:Value.blk (.slice none 0 0)=[]:=rfl
theorem blk_nodup (v:Value):(Value.blk v).Nodup:=by unfold Value.blk;cases v.ownBlock<;>simp
theorem own_zero {w:World} {base:Nat} {e:TypeId} {size:Nat} {v:Value} {n:Nat} {xs:List Value} (h:w.ownsRow base e size v n xs):w.ownsRow 0 e size v n xs:=by
 refine ⟨h.1,?_⟩
 rcases h.2 with h | ⟨g,cap,cur,h1,_,h3⟩
 ·exact .inl h
 ·exact .inr ⟨g,cap,cur,h1,Nat.zero_le _,h3⟩
theorem own_ge {w:World} {base:Nat} {e:TypeId} {size:Nat} {v:Value} {n:Nat} {xs:List Value} (h:w.ownsRow base e size v n xs):∀ b∈Value.blk v,base≤b:=by
 intro b hb
 exact (h.lt b (by simpa [Value.blk] using hb)).1
section
variable {P:Program} {t e:TypeId} {zs:List Value} {bytes:Nat} {ops:Array Oper} {rest:List Oper} {o:Oper} {a:Act} {Q:Exit→Act→World→Prop}
end
end Go.Proofs.Ytmcpigcpachdkaa
