/- Data shapes: how cells of memory read as plain Lean data, in a frozen part of memory ('rd') or in blocks of their own ('ow'). No program is named; no condition. -/
import Derived.Test.YtmcpigcpachdkaaRow
namespace Go.Proofs.Ytmcpigcpachdkaa
open Go.RowKit
set_option linter.unusedVariables false
set_option linter.unusedSimpArgs false
def kV (f:Nat):Value:=bif f.beq 4294967295 then .slice none 0 0 else .func (.func f) #[] #[]
theorem kV_one (f:Nat):(kV f).oneCell'=true:=by unfold kV;cases f.beq 4294967295<;>rfl
inductive Sh where
 | int (t:TypeId)
 | bool (t:TypeId)
 | u8 (t:TypeId)
 | str (t:TypeId)
 | pair (a b:Sh)
 | st (t:TypeId) (a:Sh)
 | sl (t:TypeId) (a:Sh)
 | fn0 (f:Nat)
 | fn (f:Nat) (a:Sh)
 | pt (a:Sh)
@[reducible] def Sh.D:Sh→Type
 | .int _=>Int
 | .bool _=>Bool
 | .u8 _=>Int
 | .str _=>ByteArray
 | .pair a b=>a.D×b.D
 | .st _ a=>a.D
 | .sl _ a=>List a.D
 | .fn0 _=>Unit
 | .fn _ a=>a.D
 | .pt a=>a.D
def Sh.beq:Sh→Sh→Bool
 | .int t,.int t'=>t.beq t'
 | .bool t,.bool t'=>t.beq t'
 | .u8 t,.u8 t'=>t.beq t'
 | .str t,.str t'=>t.beq t'
 | .pair a b,.pair a' b'=>a.beq a' && b.beq b'
 | .st t a,.st t' a'=>t.beq t' && a.beq a'
 | .sl t a,.sl t' a'=>t.beq t' && a.beq a'
 | .fn0 f,.fn0 f'=>f.beq f'
 | .fn f a,.fn f' a'=>f.beq f' && a.beq a'
 | .pt a,.pt a'=>a.beq a'
 | _,_=>false
theorem Sh.eq_of_beq:∀ {a b:Sh},a.beq b=true→a=b
 | .int _,b,h=>by cases b<;>simp [Sh.beq] at h;rw [h]
 | .bool _,b,h=>by cases b<;>simp [Sh.beq] at h;rw [h]
 | .u8 _,b,h=>by cases b<;>simp [Sh.beq] at h;rw [h]
 | .str _,b,h=>by cases b<;>simp [Sh.beq] at h;rw [h]
 | .pair a a',b,h=>by cases b<;>simp [Sh.beq] at h;rw [Sh.eq_of_beq h.1,Sh.eq_of_beq h.2]
 | .st _ a,b,h=>by cases b<;>simp [Sh.beq] at h;rw [h.1,Sh.eq_of_beq h.2]
 | .sl _ a,b,h=>by cases b<;>simp [Sh.beq] at h;rw [h.1,Sh.eq_of_beq h.2]
 | .fn0 _,b,h=>by cases b<;>simp [Sh.beq] at h;rw [h]
 | .fn _ a,b,h=>by cases b<;>simp [Sh.beq] at h;rw [h.1,Sh.eq_of_beq h.2]
 | .pt a,b,h=>by cases b<;>simp [Sh.beq] at h;rw [Sh.eq_of_beq h]
theorem Sh.beq_refl:∀ (a:Sh),a.beq a=true
 | .int _ | .bool _ | .u8 _ | .str _ | .fn0 _=>by simp [Sh.beq]
 | .fn _ a=>by simp [Sh.beq,Sh.beq_refl a]
 | .pt a=>by simp [Sh.beq,Sh.beq_refl a]
 | .pair a b=>by simp [Sh.beq,Sh.beq_refl a,Sh.beq_refl b]
 | .st _ a=>by simp [Sh.beq,Sh.beq_refl a]
 | .sl _ a=>by simp [Sh.beq,Sh.beq_refl a]
def Sh.size:Sh→Nat
 | .pair a b=>a.size+b.size
 | .st _ a=>a.size
 | _=>1
def Sh.ty:Sh→TypeId
 | .int t | .bool t | .u8 t | .str t | .st t _ | .sl t _=>t
 | .pair _ _ | .fn0 _ | .fn _ _ | .pt _=>0
def Sh.data:Sh→Bool
 | .pair a b=>a.data && b.data
 | .st _ a=>a.data
 | .sl _ a=>a.data
 | .fn0 _ | .fn _ _ | .pt _=>false
 | _=>true
def Sh.agg:Sh→Bool
 | .st _ _ | .pair _ _=>true
 | _=>false
def Sh.plain:Sh→Bool
 | .pair a b=>a.plain && b.plain
 | .st _ a=>a.plain
 | .sl _ _ | .fn0 _ | .fn _ _ | .pt _=>false
 | _=>true
def Sh.z:(s:Sh)→s.D
 | .int _=>(0:Int)
 | .bool _=>false
 | .u8 _=>(0:Int)
 | .str _=>ByteArray.empty
 | .pair a b=>(a.z,b.z)
 | .st _ a=>a.z
 | .sl _ _=>[]
 | .fn0 _=>()
 | .fn _ a=>a.z
 | .pt a=>a.z
def Sh.zs:Sh→List Value
 | .int _=>[.int .i64 0]
 | .bool _=>[.bool false]
 | .u8 _=>[.int .u8 0]
 | .str _=>[.string ByteArray.empty]
 | .pair a b=>a.zs++b.zs
 | .st _ a=>a.zs
 | .sl _ _=>[.slice none 0 0]
 | .fn0 _ | .fn _ _=>[.nilFunc]
 | .pt _=>[.pointer none]
theorem Sh.size_pos:∀ (s:Sh),0 < s.size
 | .int _ | .bool _ | .u8 _ | .str _ | .sl _ _ | .fn0 _ | .fn _ _ | .pt _=>by simp [Sh.size]
 | .pair a b=>by have:=a.size_pos;simp only [Sh.size];omega
 | .st _ a=>a.size_pos
theorem Sh.zs_len:∀ (s:Sh),s.zs.length=s.size
 | .int _ | .bool _ | .u8 _ | .str _ | .sl _ _ | .fn0 _ | .fn _ _ | .pt _=>rfl
 | .pair a b=>by simp [Sh.zs,Sh.size,a.zs_len,b.zs_len]
 | .st _ a=>a.zs_len
def Rd2 {α:Type} (R:List Value→α→Prop):List (List Value)→List α→Prop
 | [],[]=>True
 | c::cs,x::xs=>R c x∧Rd2 R cs xs
 | _,_=>False
def Ow2 {α:Type} (O:List Value→α→List Nat→Prop):List (List Value)→List α→List (List Nat)→Prop
 | [],[],[]=>True
 | c::cs,x::xs,F::Fs=>O c x F∧Ow2 O cs xs Fs
 | _,_,_=>False
section
variable {α:Type} {R R':List Value→α→Prop} {O O':List Value→α→List Nat→Prop} {n:Nat}
theorem Rd2.len:∀ {vs:List (List Value)} {xs:List α},Rd2 R vs xs→vs.length=xs.length
 | [],[],_=>rfl
 | _::_,_::_,h=>by simp [Rd2.len h.2]
theorem Rd2.at_:∀ {vs:List (List Value)} {xs:List α} {i:Nat} (h:i < xs.length),Rd2 R vs xs→∃ c,vs[i]?=some c∧R c xs[i]
 | [],[],_,h,_=>absurd h (by simp)
 | c::_,_::_,0,_,h=>⟨c,rfl,h.1⟩
 | _ :: _, _ :: _, i + 1, hi, h => by
  obtain ⟨c,hc,hr⟩:=Rd2.at_ (i:=i) (by simpa using hi) h.2
  exact ⟨c,by simpa using hc,by simpa using hr⟩
theorem Rd2.imp:∀ {vs:List (List Value)} {xs:List α},(∀ c x,R c x→R' c x)→Rd2 R vs xs→Rd2 R' vs xs
 | [],[],_,_=>trivial
 | _::_,_::_,f,h=>⟨f _ _ h.1,h.2.imp f⟩
theorem Rd2.one (h1:∀ c x,R c x→∀ u∈c,u.oneCell'=true):∀ {vs:List (List Value)} {xs:List α},Rd2 R vs xs→∀ u∈vs.flatten,u.oneCell'=true
 | [],[],_,u,hu=>by simp at hu
 | _ :: _, _ :: _, h, u, hu => by
  rcases List.mem_append.1 hu with hu | hu
  ·exact h1 _ _ h.1 u hu
  ·exact Rd2.one h1 h.2 u hu
theorem Rd2.lens (h1:∀ c x,R c x→c.length=n):∀ {vs:List (List Value)} {xs:List α},Rd2 R vs xs→∀ v∈vs,v.length=n
 | [],[],_,v,hv=>by simp at hv
 | _ :: _, _ :: _, h, v, hv => by
  rcases List.mem_cons.1 hv with rfl | hv
  ·exact h1 _ _ h.1
  ·exact Rd2.lens h1 h.2 v hv
theorem flat_len_of {vs:List (List Value)} (h:∀ v∈vs,v.length=n):vs.flatten.length=vs.length*n:=by
 induction vs with
 | nil=>simp
 | cons v vs ih=>simp only [List.flatten_cons,List.length_append,List.length_cons,ih (fun v hv=>h v (by simp [hv])),h v (by simp),Nat.add_mul];omega
theorem flat_at_of:∀ {vs:List (List Value)} (h:∀ v∈vs,v.length=n) {i j:Nat} {c:List Value} {u:Value},vs[i]?=some c→c[j]?=some u→vs.flatten[i*n+j]?=some u
 | [],_,_,_,_,_,h,_=>by simp at h
 | c :: _, hn, 0, j, _, u, hc, hj => by
  simp only [List.length_cons,Nat.zero_lt_succ,List.getElem?_eq_getElem,List.getElem_cons_zero,Option.some.injEq] at hc
  subst hc
  have:j < c.length:=by rcases Nat.lt_or_ge j c.length with h' | h';exact h';rw [List.getElem?_eq_none h'] at hj;cases hj
  rw [List.flatten_cons,List.getElem?_append_left (by omega)]
  simpa using hj
 | c :: vs, hn, i + 1, j, _, u, hc, hj => by
  have h1:=flat_at_of (vs:=vs) (fun v hv=>hn v (by simp [hv])) (i:=i) (by simpa using hc) hj
  have hl:=hn c (by simp)
  rw [List.flatten_cons,List.getElem?_append_right (by rw [hl,Nat.add_mul];omega),← h1]
  congr 1
  rw [hl,Nat.add_mul]
  omega
theorem Rd2.append:∀ {vs:List (List Value)} {xs:List α} {us:List (List Value)} {ys:List α},Rd2 R vs xs→Rd2 R us ys→Rd2 R (vs++us) (xs++ys)
 | [],[],_,_,_,k=>k
 | _::_,_::_,_,_,h,k=>⟨h.1,h.2.append k⟩
theorem Rd2.take:∀ {vs:List (List Value)} {xs:List α} (k:Nat),Rd2 R vs xs→Rd2 R (vs.take k) (xs.take k)
 | [],[],k,_=>by simp [Rd2]
 | _::_,_::_,0,_=>by simp [Rd2]
 | _::_,_::_,k+1,h=>⟨h.1,Rd2.take k h.2⟩
theorem Rd2.drop:∀ {vs:List (List Value)} {xs:List α} (k:Nat),Rd2 R vs xs→Rd2 R (vs.drop k) (xs.drop k)
 | [],[],k,_=>by simp [Rd2]
 | _::_,_::_,0,h=>h
 | _::_,_::_,k+1,h=>Rd2.drop k h.2
theorem Rd2.set_:∀ {vs:List (List Value)} {xs:List α} {i:Nat} {c:List Value} {y:α},Rd2 R vs xs→R c y→Rd2 R (vs.set i c) (xs.set i y)
 | [],[],_,_,_,_,_=>by simp [Rd2]
 | _::_,_::_,0,_,_,h,k=>⟨k,h.2⟩
 | _::_,_::_,i+1,_,_,h,k=>⟨h.1,Rd2.set_ h.2 k⟩
theorem Rd2.replicate {c:List Value} {x:α} (h:R c x):∀ n,Rd2 R (List.replicate n c) (List.replicate n x)
 | 0=>trivial
 | n+1=>⟨h,Rd2.replicate h n⟩
theorem Ow2.len:∀ {vs:List (List Value)} {xs:List α} {Fs:List (List Nat)},Ow2 O vs xs Fs→vs.length=xs.length∧Fs.length=xs.length
 | [],[],[],_=>⟨rfl,rfl⟩
 | _::_,_::_,_::_,h=>by have:=Ow2.len h.2;simp [this.1,this.2]
theorem Ow2.keep:∀ {vs:List (List Value)} {xs:List α} {Fs:List (List Nat)},(∀ c x F,(∀ b∈F,b∈Fs.flatten)→O c x F→O' c x F)→Ow2 O vs xs Fs→Ow2 O' vs xs Fs
 | [],[],[],_,_=>trivial
 | _::_,_::_,_::_,f,h=>⟨f _ _ _ (fun b hb=>List.mem_append.2 (.inl hb)) h.1,h.2.keep fun c x F hF=>f c x F fun b hb=>List.mem_append.2 (.inr (hF b hb))⟩
theorem Ow2.all {p:Nat→Prop} (f:∀ c x F,O c x F→∀ b∈F,p b):∀ {vs:List (List Value)} {xs:List α} {Fs:List (List Nat)},Ow2 O vs xs Fs→∀ b∈Fs.flatten,p b
 | [],[],[],_,b,hb=>by simp at hb
 | _ :: _, _ :: _, _ :: _, h, b, hb => by
  rcases List.mem_append.1 hb with hb | hb
  ·exact f _ _ _ h.1 b hb
  ·exact Ow2.all f h.2 b hb
theorem Ow2.rd {R:List Value→α→Prop} {Z:Nat→Prop} (f:∀ c x F,O c x F→(∀ b∈F,Z b)→R c x):∀ {vs:List (List Value)} {xs:List α} {Fs:List (List Nat)},Ow2 O vs xs Fs→(∀ b∈Fs.flatten,Z b)→Rd2 R vs xs
 | [],[],[],_,_=>trivial
 | _::_,_::_,_::_,h,e=>⟨f _ _ _ h.1 fun b hb=>e b (List.mem_append.2 (.inl hb)),Ow2.rd f h.2 fun b hb=>e b (List.mem_append.2 (.inr hb))⟩
theorem Ow2.append:∀ {vs:List (List Value)} {xs:List α} {Fs:List (List Nat)} {us:List (List Value)} {ys:List α} {Gs:List (List Nat)},Ow2 O vs xs Fs→Ow2 O us ys Gs→Ow2 O (vs++us) (xs++ys) (Fs++Gs)
 | [],[],[],_,_,_,_,k=>k
 | _::_,_::_,_::_,_,_,_,h,k=>⟨h.1,h.2.append k⟩
theorem Ow2.replicate {c:List Value} {x:α} (h:O c x []):∀ n,Ow2 O (List.replicate n c) (List.replicate n x) (List.replicate n [])
 | 0=>trivial
 | n+1=>⟨h,Ow2.replicate h n⟩
theorem Ow2.at_:∀ {vs:List (List Value)} {xs:List α} {Fs:List (List Nat)} {i:Nat} (h:i < xs.length),Ow2 O vs xs Fs→∃ c G,vs[i]?=some c∧Fs[i]?=some G∧O c xs[i] G
 | [],[],[],_,h,_=>absurd h (by simp)
 | c::_,_::_,G::_,0,_,h=>⟨c,G,rfl,rfl,h.1⟩
 | _ :: _, _ :: _, _ :: _, i + 1, hi, h => by
  obtain ⟨c,G,hc,hG,hr⟩:=Ow2.at_ (i:=i) (by simpa using hi) h.2
  exact ⟨c,G,by simpa using hc,by simpa using hG,by simpa using hr⟩
theorem Ow2.take:∀ {vs:List (List Value)} {xs:List α} {Fs:List (List Nat)} (k:Nat),Ow2 O vs xs Fs→Ow2 O (vs.take k) (xs.take k) (Fs.take k)
 | [],[],[],k,_=>by simp [Ow2]
 | _::_,_::_,_::_,0,_=>by simp [Ow2]
 | _::_,_::_,_::_,k+1,h=>⟨h.1,Ow2.take k h.2⟩
theorem Ow2.drop:∀ {vs:List (List Value)} {xs:List α} {Fs:List (List Nat)} (k:Nat),Ow2 O vs xs Fs→Ow2 O (vs.drop k) (xs.drop k) (Fs.drop k)
 | [],[],[],k,_=>by simp [Ow2]
 | _::_,_::_,_::_,0,h=>h
 | _::_,_::_,_::_,k+1,h=>Ow2.drop k h.2
theorem Ow2.set_:∀ {vs:List (List Value)} {xs:List α} {Fs:List (List Nat)} {i:Nat} {c:List Value} {y:α} {G:List Nat},Ow2 O vs xs Fs→O c y G→Ow2 O (vs.set i c) (xs.set i y) (Fs.set i G)
 | [],[],[],_,_,_,_,_,_=>by simp [Ow2]
 | _::_,_::_,_::_,0,_,_,_,h,k=>⟨k,h.2⟩
 | _::_,_::_,_::_,i+1,_,_,_,h,k=>⟨h.1,Ow2.set_ h.2 k⟩
end
def Sh.rd (w:World) (Z:Nat→Prop):(s:Sh)→List Value→s.D→Prop
 | .int _,cs,n=>cs=[.int .i64 n]
 | .bool _,cs,b=>cs=[.bool b]
 | .u8 _,cs,n=>cs=[.int .u8 n]∧0≤n∧n < 256
 | .str _,cs,b=>cs=[.string b]
 | .pair a b,cs,x=>∃ c d,cs=c++d∧Sh.rd w Z a c x.1∧Sh.rd w Z b d x.2
 | .st _ a,cs,x=>Sh.rd w Z a cs x
 | .sl _ a, cs, xs => ∃ A c vs, cs = [.slice A (List.length (α := a.D) xs) c] ∧ List.length (α := a.D) xs ≤ c ∧ c ≤ maxLen ∧ Rd2 (Sh.rd w Z a) vs xs ∧
   (0 < List.length (α:=a.D) xs→∃ b off,A=some ⟨b,off,none⟩∧Z b∧∀ j u,vs.flatten[j]?=some u→w.cell? ⟨b,off+j,none⟩=some u)
 | .fn0 f,cs,_=>cs=[kV f]
 | .fn f a,cs,x=>∃ ps:List Value,cs=[.func (.func f) #[] ps.toArray]∧Sh.rd w Z a ps x
 | .pt a,cs,x=>∃ b off ds,cs=[.pointer (some ⟨b,off,none⟩)]∧Z b∧Sh.rd w Z a ds x∧∀ j u,ds[j]?=some u→w.cell? ⟨b,off+j,none⟩=some u
def ownsRw (w:World) (base:Nat) (e:TypeId) (size:Nat) (v:Value) (n:Nat) (xs:List Value):Prop :=
 xs.length=n*size ∧
 ((v=.slice none 0 0∧n=0) ∨
 ∃ g off cap cur,v=.slice (some ⟨g,off,none⟩) n cap∧base≤g∧w.heap[g]?=some (.cells cur e (0,0))∧n≤cap∧cap≤maxLen∧off+cap*size≤cur.size∧(cur.toList.drop off).take (n*size)=xs)
theorem ownsRw.of {w:World} {base:Nat} {e:TypeId} {size:Nat} {v:Value} {n:Nat} {xs:List Value} (h:w.ownsRow base e size v n xs):ownsRw w base e size v n xs:=by
 refine ⟨h.1,?_⟩
 rcases h.2 with h | ⟨g,cap,cur,h1,h2,h3,h4,h5,h6,h7⟩
 ·exact .inl h
 ·exact .inr ⟨g,0,cap,cur,h1,h2,h3,h4,h5,by rw [Nat.zero_add];exact Nat.le_of_eq h6.symm,by rw [List.drop_zero];exact h7⟩
theorem ownsRw_nil {w:World} {base:Nat} {e:TypeId} {size:Nat}:ownsRw w base e size (.slice none 0 0) 0 []:=⟨by simp,.inl ⟨rfl,rfl⟩⟩
def Sh.ow (w:World):(s:Sh)→List Value→s.D→List Nat→Prop
 | .int _,cs,n,F=>cs=[.int .i64 n]∧F=[]
 | .bool _,cs,b,F=>cs=[.bool b]∧F=[]
 | .u8 _,cs,n,F=>cs=[.int .u8 n]∧(0≤n∧n < 256)∧F=[]
 | .str _,cs,b,F=>cs=[.string b]∧F=[]
 | .pair a b,cs,x,F=>∃ c d G H,cs=c++d∧F=G++H∧Sh.ow w a c x.1 G∧Sh.ow w b d x.2 H
 | .st _ a,cs,x,F=>Sh.ow w a cs x F
 | .sl _ a,cs,xs,F=>∃ v vs Fs,cs=[v]∧ownsRw w 0 a.ty a.size v (List.length (α:=a.D) xs) vs.flatten∧Ow2 (Sh.ow w a) vs xs Fs∧F=Value.blk v++Fs.flatten
 | .fn0 _,_,_,_ | .fn _ _,_,_,_ | .pt _,_,_,_=>False
section
variable {w w':World} {Z Z':Nat→Prop}
theorem Sh.rd_len:∀ (s:Sh) {cs:List Value} {x:s.D},s.rd w Z cs x→cs.length=s.size
 | .int _,_,_,h=>by rw [show _=_ from h];rfl
 | .bool _,_,_,h=>by rw [show _=_ from h];rfl
 | .u8 _,_,_,h=>by rw [h.1];rfl
 | .str _,_,_,h=>by rw [show _=_ from h];rfl
 | .pair a b,_,_,h=>by obtain ⟨c,d,rfl,h1,h2⟩:=h;rw [List.length_append,a.rd_len h1,b.rd_len h2];rfl
 | .st _ a,_,_,h=>a.rd_len h
 | .sl _ a,_,_,h=>by obtain ⟨A,c,vs,rfl,_⟩:=h;rfl
 | .fn0 _,_,_,h=>by rw [show _=_ from h];rfl
 | .fn _ _,_,_,h=>by obtain ⟨ps,rfl,_⟩:=h;rfl
 | .pt _,_,_,h=>by obtain ⟨b,off,ds,rfl,_⟩:=h;rfl
theorem Sh.rd_one:∀ (s:Sh) {cs:List Value} {x:s.D},s.rd w Z cs x→∀ u∈cs,u.oneCell'=true
 | .int _,_,_,h=>by rw [show _=_ from h];simp [Value.oneCell']
 | .bool _,_,_,h=>by rw [show _=_ from h];simp [Value.oneCell']
 | .u8 _,_,_,h=>by rw [h.1];simp [Value.oneCell']
 | .str _,_,_,h=>by rw [show _=_ from h];simp [Value.oneCell']
 | .pair a b, _, _, h => by
  obtain ⟨c,d,rfl,h1,h2⟩:=h
  intro u hu
  rcases List.mem_append.1 hu with hu | hu
  ·exact a.rd_one h1 u hu
  ·exact b.rd_one h2 u hu
 | .st _ a,_,_,h=>a.rd_one h
 | .sl _ a,_,_,h=>by obtain ⟨A,c,vs,rfl,_⟩:=h;simp [Value.oneCell']
 | .fn0 _,_,_,h=>by rw [show _=_ from h];simp [kV_one]
 | .fn _ _,_,_,h=>by obtain ⟨ps,rfl,_⟩:=h;simp [Value.oneCell']
 | .pt _,_,_,h=>by obtain ⟨b,off,ds,rfl,_⟩:=h;simp [Value.oneCell']
theorem Sh.rd_keep:∀ (s:Sh) {cs:List Value} {x:s.D},s.rd w Z cs x→(∀ b,Z b→Z' b)→(∀ p:Addr,Z p.block→w'.cell? p=w.cell? p)→s.rd w' Z' cs x
 | .int _,_,_,h,_,_=>h
 | .bool _,_,_,h,_,_=>h
 | .u8 _,_,_,h,_,_=>h
 | .str _,_,_,h,_,_=>h
 | .pair a b,_,_,h,z,e=>by obtain ⟨c,d,rfl,h1,h2⟩:=h;exact ⟨c,d,rfl,a.rd_keep h1 z e,b.rd_keep h2 z e⟩
 | .st _ a,_,_,h,z,e=>a.rd_keep h z e
 | .sl _ a, _, _, h, z, e => by
  obtain ⟨A,c,vs,rfl,h1,h2,h3,h4⟩:=h
  refine ⟨A,c,vs,rfl,h1,h2,h3.imp fun c x h=>a.rd_keep h z e,fun hn=>?_⟩
  obtain ⟨b,off,hA,hb,hc⟩:=h4 hn
  exact ⟨b,off,hA,z b hb,fun j u hu=>(e _ hb).trans (hc j u hu)⟩
 | .fn0 _,_,_,h,_,_=>h
 | .fn _ a,_,_,h,z,e=>by obtain ⟨ps,h1,h2⟩:=h;exact ⟨ps,h1,a.rd_keep h2 z e⟩
 | .pt a, _, _, h, z, e => by
  obtain ⟨b,off,ds,h1,h2,h3,h4⟩:=h
  exact ⟨b,off,ds,h1,z b h2,a.rd_keep h3 z e,fun j u hu=>(e _ h2).trans (h4 j u hu)⟩
theorem Sh.ow_keep:∀ (s:Sh) {cs:List Value} {x:s.D} {F:List Nat},s.ow w cs x F→(∀ b∈F,w'.heap[b]?=w.heap[b]?)→s.ow w' cs x F
 | .int _,_,_,_,h,_=>h
 | .bool _,_,_,_,h,_=>h
 | .u8 _,_,_,_,h,_=>h
 | .str _,_,_,_,h,_=>h
 | .pair a b, _, _, _, h, e => by
  obtain ⟨c,d,G,H,rfl,rfl,h1,h2⟩:=h
  exact ⟨c,d,G,H,rfl,rfl,a.ow_keep h1 fun b hb=>e b (List.mem_append.2 (.inl hb)),b.ow_keep h2 fun b hb=>e b (List.mem_append.2 (.inr hb))⟩
 | .st _ a,_,_,_,h,e=>a.ow_keep h e
 | .sl _ a, _, _, _, h, e => by
  obtain ⟨v,vs,Fs,rfl,h1,h2,rfl⟩:=h
  refine ⟨v,vs,Fs,rfl,⟨h1.1,?_⟩,h2.keep fun c x F hF ho=>a.ow_keep ho fun b hb=>e b (List.mem_append.2 (.inr (hF b hb))),rfl⟩
  rcases h1.2 with h | ⟨g,off,cap,cur,hv,hb,hg,h⟩
  ·exact .inl h
  ·exact .inr ⟨g,off,cap,cur,hv,hb,by rw [e g (List.mem_append.2 (.inl (by rw [hv];simp [Value.blk,Value.ownBlock])))];exact hg,h⟩
 | .fn0 _,_,_,_,h,_ | .fn _ _,_,_,_,h,_ | .pt _,_,_,_,h,_=>h.elim
theorem blk_lt {v:Value} {n:Nat} {e:TypeId} {k:Nat} {xs:List Value} {B:Nat} (h:ownsRw w B e k v n xs):∀ b∈Value.blk v,b < w.heap.size:=by
 intro b hb
 rcases h.2 with ⟨rfl,_⟩ | ⟨g,off,cap,cur,rfl,_,hg,_⟩
 ·simp [Value.blk,Value.ownBlock] at hb
 ·simp only [Value.blk, Value.ownBlock, Option.toList_some, List.mem_singleton] at hb
  subst hb
  exact heap_lt hg
theorem Sh.ow_lt:∀ (s:Sh) {cs:List Value} {x:s.D} {F:List Nat},s.ow w cs x F→∀ b∈F,b < w.heap.size
 | .int _,_,_,_,h=>by rw [h.2];simp
 | .bool _,_,_,_,h=>by rw [h.2];simp
 | .u8 _,_,_,_,h=>by rw [h.2.2];simp
 | .str _,_,_,_,h=>by rw [h.2];simp
 | .pair a b, _, _, _, h => by
  obtain ⟨c,d,G,H,rfl,rfl,h1,h2⟩:=h
  intro x hx
  rcases List.mem_append.1 hx with hx | hx
  ·exact a.ow_lt h1 x hx
  ·exact b.ow_lt h2 x hx
 | .st _ a,_,_,_,h=>a.ow_lt h
 | .sl _ a, _, _, _, h => by
  obtain ⟨v,vs,Fs,rfl,h1,h2,rfl⟩:=h
  intro x hx
  rcases List.mem_append.1 hx with hx | hx
  ·exact blk_lt h1 x hx
  ·exact h2.all (fun c x F ho=>a.ow_lt ho) x hx
 | .fn0 _,_,_,_,h | .fn _ _,_,_,_,h | .pt _,_,_,_,h=>h.elim
theorem rd_of_row {s:Sh} {t:TypeId} {v:Value} {vs:List (List Value)} {xs:List s.D} (h1:ownsRw w 0 s.ty s.size v xs.length vs.flatten) (h3:Rd2 (s.rd w Z) vs xs) (e:∀ b∈Value.blk v,Z b):(Sh.sl t s).rd w Z [v] xs:=by
 rcases h1.2 with ⟨rfl,hn⟩ | ⟨g,off,cap,cur,rfl,_,hg,hnc,hcm,hcs,ht⟩
 ·exact ⟨none,0,vs,by rw [hn],by omega,by simp [maxLen],h3,fun h=>by omega⟩
 ·refine ⟨_, cap, vs, rfl, hnc, hcm, h3, fun _ => ⟨g, off, rfl, e g (by simp [Value.blk, Value.ownBlock]), fun j u hu => ?_⟩⟩
  rw [← ht] at hu
  rw [cell_of_row w g (off+j) cur _ (0,0) hg]
  rw [List.getElem?_take] at hu
  split at hu
  ·rw [List.getElem?_drop] at hu;simpa using hu
  ·cases hu
theorem Sh.ow_rd:∀ (s:Sh) {cs:List Value} {x:s.D} {F:List Nat},s.ow w cs x F→(∀ b∈F,Z b)→s.rd w Z cs x
 | .int _,_,_,_,h,_=>h.1
 | .bool _,_,_,_,h,_=>h.1
 | .u8 _,_,_,_,h,_=>⟨h.1,h.2.1⟩
 | .str _,_,_,_,h,_=>h.1
 | .pair a b, _, _, _, h, e => by
  obtain ⟨c,d,G,H,rfl,rfl,h1,h2⟩:=h
  exact ⟨c,d,rfl,a.ow_rd h1 fun b hb=>e b (List.mem_append.2 (.inl hb)),b.ow_rd h2 fun b hb=>e b (List.mem_append.2 (.inr hb))⟩
 | .st _ a,_,_,_,h,e=>a.ow_rd h e
 | .sl t a, _, _, _, h, e => by
  obtain ⟨v,vs,Fs,rfl,h1,h2,rfl⟩:=h
  exact rd_of_row (t:=t) h1 (h2.rd (Z:=Z) (fun c x F ho hz=>a.ow_rd ho hz) fun b hb=>e b (List.mem_append.2 (.inr hb))) fun b hb=>e b (List.mem_append.2 (.inl hb))
 | .fn0 _,_,_,_,h,_ | .fn _ _,_,_,_,h,_ | .pt _,_,_,_,h,_=>h.elim
theorem Sh.ow_len (s:Sh) {cs:List Value} {x:s.D} {F:List Nat} (h:s.ow w cs x F):cs.length=s.size:=s.rd_len (s.ow_rd (Z:=fun _=>True) h fun _ _=>trivial)
theorem Sh.ow_one (s:Sh) {cs:List Value} {x:s.D} {F:List Nat} (h:s.ow w cs x F):∀ u∈cs,u.oneCell'=true:=s.rd_one (s.ow_rd (Z:=fun _=>True) h fun _ _=>trivial)
theorem Sh.plain_ow:∀ (s:Sh),s.plain=true→∀ {cs:List Value} {x:s.D},s.rd w Z cs x→s.ow w' cs x []
 | .int _,_,_,_,h=>⟨h,rfl⟩
 | .bool _,_,_,_,h=>⟨h,rfl⟩
 | .u8 _,_,_,_,h=>⟨h.1,h.2,rfl⟩
 | .str _,_,_,_,h=>⟨h,rfl⟩
 | .pair a b, hp, _, _, h => by
  simp only [Sh.plain,Bool.and_eq_true] at hp
  obtain ⟨c,d,rfl,h1,h2⟩:=h
  exact ⟨c,d,[],[],rfl,rfl,a.plain_ow hp.1 h1,b.plain_ow hp.2 h2⟩
 | .st _ a,hp,_,_,h=>a.plain_ow hp h
 | .sl _ a,hp,_,_,h=>by simp [Sh.plain] at hp
 | .fn0 _,hp,_,_,h | .fn _ _,hp,_,_,h | .pt _,hp,_,_,h=>by simp [Sh.plain] at hp
theorem Sh.plain_F:∀ (s:Sh),s.plain=true→∀ {cs:List Value} {x:s.D} {F:List Nat},s.ow w cs x F→F=[]
 | .int _,_,_,_,_,h=>h.2
 | .bool _,_,_,_,_,h=>h.2
 | .u8 _,_,_,_,_,h=>h.2.2
 | .str _,_,_,_,_,h=>h.2
 | .pair a b, hp, _, _, _, h => by
  simp only [Sh.plain,Bool.and_eq_true] at hp
  obtain ⟨c,d,G,H,rfl,rfl,h1,h2⟩:=h
  rw [a.plain_F hp.1 h1,b.plain_F hp.2 h2];rfl
 | .st _ a,hp,_,_,_,h=>a.plain_F hp h
 | .sl _ a,hp,_,_,_,h=>by simp [Sh.plain] at hp
 | .fn0 _,hp,_,_,_,h | .fn _ _,hp,_,_,_,h | .pt _,hp,_,_,_,h=>by simp [Sh.plain] at hp
theorem Sh.z_ow:∀ (s:Sh),s.data=true→s.ow w s.zs s.z []
 | .int _,_=>⟨rfl,rfl⟩
 | .bool _,_=>⟨rfl,rfl⟩
 | .u8 _,_=>⟨rfl,(⟨by omega,by omega⟩:(0:Int)≤0∧(0:Int) < 256),rfl⟩
 | .str _,_=>⟨rfl,rfl⟩
 | .pair a b, h => by
  simp only [Sh.data,Bool.and_eq_true] at h
  exact ⟨a.zs,b.zs,[],[],rfl,rfl,a.z_ow h.1,b.z_ow h.2⟩
 | .st _ a,h=>a.z_ow h
 | .sl _ a,_=>⟨.slice none 0 0,[],[],rfl,ownsRw_nil,trivial,rfl⟩
 | .fn0 _,h | .fn _ _,h | .pt _,h=>by simp [Sh.data] at h
end
end Go.Proofs.Ytmcpigcpachdkaa
