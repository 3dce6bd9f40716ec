/- Walking a function: what is known between regions, turned: rows frozen, made of nothing, renamed. No program is named; no condition. -/
import Derived.Test.YtmcpigcpachdkaaPO
namespace Go.Proofs.Ytmcpigcpachdkaa
open Go.RowKit
set_option linter.unusedVariables false
set_option linter.unusedSimpArgs false
def At (w0:World) (Z0:Nat→Prop) (L:List Nat) (N:Nat) (σ:St) (a:Act) (w:World):Prop:=Stands w0 Z0 L N σ.ids σ a w
def CV.fr (r:Nat) (s:Sh) (xs:List s.D):CV→CV
 | .sl r'=>bif r'.beq r then .ro s xs else .sl r'
 | .cl f c=>.cl f (c.fr r s xs)
 | .ccons a b=>.ccons (a.fr r s xs) (b.fr r s xs)
 | c=>c
def PV.fr (r:Nat) (s:Sh) (xs:List s.D):PV→PV
 | .c x=>.c (x.fr r s xs)
 | .ag l=>.ag (l.map (CV.fr r s xs))
def AV.fr (r:Nat) (s:Sh) (xs:List s.D):AV→AV
 | .p x=>.p (x.fr r s xs)
 | .tu l=>.tu (l.map (PV.fr r s xs))
def Ob.fr (r:Nat) (s:Sh) (xs:List s.D):Ob→Ob
 | .bx t l=>.bx t (l.map (CV.fr r s xs))
 | .op s' ys i l=>.op s' ys i (l.map (CV.fr r s xs))
 | x=>x
def St.fr (σ:St) (r:Nat):Option St:=match σ.obj r with
 | some (.row _ s xs)=>some ⟨σ.tm.map fun p=>(p.1,p.2.fr r s xs),(r,none)::σ.ob.map fun p=>(p.1,p.2.map (Ob.fr r s xs))⟩
 | _=>none
theorem look_mapv {α β:Type} (f:α→β) (n:Nat):∀ (l:List (Nat×α)),look (l.map fun p=>(p.1,f p.2)) n=(look l n).map f
 | []=>rfl
 | (k, x) :: l => by
  simp only [List.map_cons,look]
  cases k.beq n
  ·simp only [cond_false];exact look_mapv f n l
  ·rfl
section
variable {P:Program} {w0:World} {Z0:Nat→Prop} {L:List Nat} {N:Nat} {K:List Nat} {σ σ':St} {a:Act} {w:World} {Z:Nat→Prop} {E E':Env}
mutual
theorem CV.fr_den {r:Nat} {s:Sh} {xs:List s.D} (hro:(Sh.sl 0 s).rd w Z [E.hdr r] xs):∀ {c:CV} {u:Value},c.den E Z w u→(c.fr r s xs).den E Z w u
 | .sl r', u, h => by
  unfold CV.fr
  by_cases e:r'=r
  ·subst e; rw [Nat.beq_refl, cond_true]
   have h:u=E.hdr r':=h
   subst h;exact hro
  ·rw [beq_ne e,cond_false];exact h
 | .cl f c,u,h=>by obtain ⟨vs,h1,h2⟩:=h;exact ⟨vs,h1,CV.fr_denL hro h2⟩
 | .ccons _ _,_,h=>h.elim
 | .un,_,h | .v _,_,h | .ptr _ _,_,h | .pe _ _ _ _,_,h | .ro _ _,_,h | .pr _ _ _,_,h | .cnil,_,h | .nb _,_,h=>h
theorem CV.fr_denL {r:Nat} {s:Sh} {xs:List s.D} (hro:(Sh.sl 0 s).rd w Z [E.hdr r] xs):∀ {c:CV} {vs:List Value},c.denL E Z w vs→(c.fr r s xs).denL E Z w vs
 | .cnil,_,h=>h
 | .ccons _ _,_,h=>by obtain ⟨x,xs,rfl,h1,h2⟩:=h;exact ⟨x,xs,rfl,CV.fr_den hro h1,CV.fr_denL hro h2⟩
 | .un,_,h | .v _,_,h | .ptr _ _,_,h | .sl _,_,h | .pe _ _ _ _,_,h | .ro _ _,_,h | .pr _ _ _,_,h | .cl _ _,_,h | .nb _,_,h=>h.elim
end
theorem CV.fr_ids {r:Nat} {s:Sh} {xs:List s.D}:∀ {c:CV} {i:Nat},i∈(c.fr r s xs).ids→i∈c.ids
 | .sl r', i, h => by
  unfold CV.fr at h
  cases hb:r'.beq r with
  | true=>rw [hb] at h;simp [CV.ids] at h
  | false=>rw [hb] at h;exact h
 | .cl f c,i,h=>CV.fr_ids (c:=c) h
 | .ccons a b, i, h => by
  rcases List.mem_append.1 (show i∈(a.fr r s xs).ids++(b.fr r s xs).ids from h) with h | h
  ·exact List.mem_append.2 (.inl (CV.fr_ids h))
  ·exact List.mem_append.2 (.inr (CV.fr_ids h))
 | .un,_,h | .v _,_,h | .ptr _ _,_,h | .pe _ _ _ _,_,h | .ro _ _,_,h | .pr _ _ _,_,h | .cnil,_,h | .nb _,_,h=>h
theorem dens.fr {r:Nat} {s:Sh} {xs:List s.D} (hro:(Sh.sl 0 s).rd w Z [E.hdr r] xs):∀ {l:List CV} {vs:List Value},dens E Z w l vs→dens E Z w (l.map (CV.fr r s xs)) vs
 | [],[],_=>trivial
 | _::_,_::_,h=>⟨CV.fr_den hro h.1,dens.fr hro h.2⟩
theorem PV.fr_den {r:Nat} {s:Sh} {xs:List s.D} (hro:(Sh.sl 0 s).rd w Z [E.hdr r] xs):∀ {c:PV} {u:Value},c.den E Z w u→(c.fr r s xs).den E Z w u
 | .c _,_,h=>CV.fr_den hro h
 | .ag _,_,h=>by obtain ⟨vs,h1,h2⟩:=h;exact ⟨vs,h1,h2.fr hro⟩
theorem pdens.fr {r:Nat} {s:Sh} {xs:List s.D} (hro:(Sh.sl 0 s).rd w Z [E.hdr r] xs):∀ {l:List PV} {vs:List Value},pdens E Z w l vs→pdens E Z w (l.map (PV.fr r s xs)) vs
 | [],[],_=>trivial
 | _::_,_::_,h=>⟨PV.fr_den hro h.1,pdens.fr hro h.2⟩
theorem AV.fr_den {r:Nat} {s:Sh} {xs:List s.D} (hro:(Sh.sl 0 s).rd w Z [E.hdr r] xs):∀ {c:AV} {u:Value},c.den E Z w u→(c.fr r s xs).den E Z w u
 | .p _,_,h=>PV.fr_den hro h
 | .tu _,_,h=>by obtain ⟨vs,h1,h2⟩:=h;exact ⟨vs,h1,h2.fr hro⟩
theorem ids_fr {r:Nat} {s:Sh} {xs:List s.D} {l:List CV} {i:Nat} (h:i∈(l.map (CV.fr r s xs)).flatMap CV.ids):i∈l.flatMap CV.ids:=by
 obtain ⟨c,hc,hi⟩:=List.mem_flatMap.1 h
 obtain ⟨d,hd,rfl⟩:=List.mem_map.1 hc
 exact List.mem_flatMap.2 ⟨d,hd,CV.fr_ids hi⟩
theorem PV.fr_ids {r:Nat} {s:Sh} {xs:List s.D}:∀ {c:PV} {i:Nat},i∈(c.fr r s xs).ids→i∈c.ids
 | .c _,_,h=>CV.fr_ids h
 | .ag _,_,h=>ids_fr h
theorem AV.fr_ids {r:Nat} {s:Sh} {xs:List s.D}:∀ {c:AV} {i:Nat},i∈(c.fr r s xs).ids→i∈c.ids
 | .p _,_,h=>PV.fr_ids h
 | .tu l, i, h => by
  obtain ⟨c,hc,hi⟩:=List.mem_flatMap.1 (show i∈(l.map (PV.fr r s xs)).flatMap PV.ids from h)
  obtain ⟨d,hd,rfl⟩:=List.mem_map.1 hc
  exact List.mem_flatMap.2 ⟨d,hd,PV.fr_ids hi⟩
theorem Ob.fr_ids {r:Nat} {s:Sh} {xs:List s.D}:∀ {x:Ob} {i:Nat},i∈(x.fr r s xs).ids→i∈x.ids
 | .bx _ _,_,h=>ids_fr h
 | .op _ _ _ _,_,h=>ids_fr h
 | .row _ _ _,_,h=>h
 | .pin _ _,_,h=>h
 | .mp _ _,_,h=>h
theorem Stands.fr (h:Stands w0 Z0 L N K σ a w) {r:Nat} (hr:σ.fr r=some σ'):Stands w0 Z0 L N K σ' a w:=by
 obtain ⟨E,Z,h⟩:=h
 unfold St.fr at hr
 split at hr
 ·rename_i dp s xs hob
  simp only [Option.some.injEq] at hr
  subst hr
  obtain ⟨vs,Fs,h1,h2,h3⟩:=h.obj r _ hob
  let Z2:Nat→Prop:=fun b=>Z b∨b∈E.fp r
  have hz:∀ b,Z b→Z2 b:=fun b hb=>.inl hb
  have hro:(Sh.sl 0 s).rd w Z2 [E.hdr r] xs:=rd_of_row (t:=0) h1 (h2.rd hz fun b hb=>.inr (by rw [h3];exact List.mem_append.2 (.inr hb))) fun b hb=>.inr (by rw [h3];exact List.mem_append.2 (.inl hb))
  have ht:∀ t,(⟨σ.tm.map fun p=>(p.1,p.2.fr r s xs),(r,none)::σ.ob.map fun p=>(p.1,p.2.map (Ob.fr r s xs))⟩:St).tmp t=(σ.tmp t).fr r s xs:=fun t=>by
   show (look (σ.tm.map fun p=>(p.1,p.2.fr r s xs)) t).getD _=((look σ.tm t).getD _).fr r s xs
   rw [look_mapv]
   cases look σ.tm t<;>rfl
  have ho:∀ o x,(⟨σ.tm.map fun p=>(p.1,p.2.fr r s xs),(r,none)::σ.ob.map fun p=>(p.1,p.2.map (Ob.fr r s xs))⟩:St).obj o=some x→o≠r∧∃ y,σ.obj o=some y∧x=y.fr r s xs:=fun o x hx=>by
   have hx:(look ((r,none)::σ.ob.map fun p=>(p.1,p.2.map (Ob.fr r s xs))) o).getD none=some x:=hx
   simp only [look] at hx
   by_cases e:r=o
   ·subst e;rw [Nat.beq_refl,cond_true] at hx;cases hx
   ·rw [beq_ne e, cond_false, look_mapv] at hx
    refine ⟨Ne.symm e,?_⟩
    show ∃ y,(look σ.ob o).getD none=some y∧_
    cases hl:look σ.ob o with
    | none=>rw [hl] at hx;cases hx
    | some y =>
     rw [hl] at hx
     cases y with
     | none=>cases hx
     | some y=>simp only [Option.map_some,Option.getD_some,Option.some.injEq] at hx;exact ⟨y,rfl,hx.symm⟩
  refine ⟨E,Z2,h.defers,h.size,fun t=>?_,fun t i hi=>?_,fun o x hx=>?_,fun o x hx=>?_,fun o x hx=>?_,fun o x o' x' hx hx'=>?_,fun o x hx b hb=>?_,fun b hb=>?_,fun b hb=>?_,h.frame,h.hone⟩
  ·rw [ht]
   exact AV.fr_den hro (AV.keep (K:=K) (fun _ _=>rfl) hz (fun _ _=>rfl) (h.tmp t) (h.tids t))
  ·rw [ht] at hi;exact h.tids t i (AV.fr_ids hi)
  ·obtain ⟨hne, y, hy, rfl⟩ := ho o x hx
   have hk:=Ob.keep (K:=K) (Z':=Z2) (fun _ _=>rfl) hz (fun _ _=>rfl) (h.obj o y hy) (h.oids o y hy).2 fun _ _=>rfl
   cases y with
   | row _ _ _=>exact hk
   | pin _ _=>exact hk
   | mp _ _=>exact hk
   | op s' ys i cs=>obtain ⟨vs,us,Fs,e1,e2,e3,e4,e5⟩:=hk;exact ⟨vs,us,Fs,e1,e2,e3.fr hro,e4,e5⟩
   | bx t cs=>obtain ⟨b,vs,e1,e2,e3,e4⟩:=hk;exact ⟨b,vs,e1,e2,e3,e4.fr hro⟩
  ·obtain ⟨hne, y, hy, rfl⟩ := ho o x hx
   exact ⟨(h.oids o y hy).1,fun i hi=>(h.oids o y hy).2 i (Ob.fr_ids hi)⟩
  ·obtain ⟨hne, y, hy, rfl⟩ := ho o x hx
   exact h.nodup o y hy
  ·obtain ⟨_, y, hy, rfl⟩ := ho o x hx
   obtain ⟨_,y',hy',rfl⟩:=ho o' x' hx'
   exact h.apart o y o' y' hy hy'
  ·obtain ⟨hne, y, hy, rfl⟩ := ho o x hx
   have:=h.free o y hy b hb
   refine ⟨this.1,fun hz=>?_,this.2.2⟩
   rcases hz with hz | hz
   ·exact this.2.1 hz
   ·exact h.apart o y r _ hy hob hne b hb hz
  ·rcases hb with hb | hb
   ·exact h.znew b hb
   ·exact .inr (h.free r _ hob b hb).2.2
  ·rcases hb with hb | hb
   ·exact h.zlt b hb
   ·exact (h.free r _ hob b hb).1
 ·cases hr
def St.frs:List Nat→St→Option St
 | [],σ=>some σ
 | r :: l, σ => match σ.fr r with
  | some σ'=>St.frs l σ'
  | none=>none
theorem Stands.frs:∀ {l:List Nat} {σ:St},Stands w0 Z0 L N K σ a w→St.frs l σ=some σ'→Stands w0 Z0 L N K σ' a w
 | [],σ,h,hr=>by cases hr;exact h
 | r :: l, σ, h, hr => by
  unfold St.frs at hr
  cases h1:σ.fr r with
  | none=>rw [h1] at hr;cases hr
  | some s1=>rw [h1] at hr;exact Stands.frs (h.fr h1) hr
structure Mat where
 bx:Option Nat
 at_:Nat
 id:Nat
 dp:Bool
 s:Sh
def Mat.go (m:Mat) (σ:St):Option St:=match m.bx with
 | none => match σ.tmp m.at_ with
  | .p (.c (.v (.slice none 0 0)))=>some ⟨(m.at_,.p (.c (.sl m.id)))::σ.tm,(m.id,some (.row m.dp m.s []))::σ.ob⟩
  | _=>none
 | some o => match σ.obj o with
  | some (.bx t l) => match l[m.at_]? with
   | some (.v (.slice none 0 0))=>some ⟨σ.tm,(o,some (.bx t (l.set m.at_ (.sl m.id))))::(m.id,some (.row m.dp m.s []))::σ.ob⟩
   | _=>none
  | _=>none
theorem dens_set {c:CV}:∀ {l:List CV} {vs:List Value} {k:Nat} {d:CV},dens E Z w l vs→l[k]?=some d→(∀ u,d.den E Z w u→c.den E Z w u)→dens E Z w (l.set k c) vs
 | _::_,_::_,0,d,h,e,f=>by simp at e;subst e;exact ⟨f _ h.1,h.2⟩
 | _::_,_::_,k+1,d,h,e,f=>⟨h.1,dens_set (k:=k) h.2 (by simpa using e) f⟩
theorem set_ids {c:CV} {i:Nat}:∀ {l:List CV} {k:Nat},i∈(l.set k c).flatMap CV.ids→i∈l.flatMap CV.ids∨i∈c.ids
 | [],_,h=>.inl h
 | d :: l, 0, h => by
  rw [List.set_cons_zero,List.flatMap_cons] at h
  rcases List.mem_append.1 h with h | h
  ·exact .inr h
  ·left;rw [List.flatMap_cons];exact List.mem_append.2 (.inr h)
 | d :: l, k + 1, h => by
  rw [List.set_cons_succ,List.flatMap_cons] at h
  rw [List.flatMap_cons]
  rcases List.mem_append.1 h with h | h
  ·exact .inl (List.mem_append.2 (.inl h))
  ·rcases set_ids h with h | h
   ·exact .inl (List.mem_append.2 (.inr h))
   ·exact .inr h
theorem Stands.nil (h:Stands w0 Z0 L N K σ a w) {id:Nat} (hid:id ∉ K) (dp:Bool) (s:Sh):∃ E Z,RelE w0 Z0 L N (id::K) (σ.add [(id,some (.row dp s []))]) a w E Z∧E.hdr id=.slice none 0 0:=by
 obtain ⟨E,Z,h⟩:=h
 refine ⟨_,Z,h.adopt hid (ob:=.row dp s []) (hd:=.slice none 0 0) (F:=[]) ⟨[],[],⟨by simp,.inl ⟨rfl,rfl⟩⟩,?_,rfl⟩ List.nodup_nil (by simp) rfl (by simp [Ob.ids]),by simp [Env.set]⟩
 cases dp
 ·exact ⟨trivial,rfl⟩
 ·exact trivial
theorem Stands.mat (h:Stands w0 Z0 L N K σ a w) {m:Mat} (hid:m.id ∉ K) (hm:m.go σ=some σ'):Stands w0 Z0 L N (m.id::K) σ' a w:=by
 obtain ⟨E,Z,h1,hh⟩:=h.nil hid m.dp m.s
 have hKo:∀ o x,σ.obj o=some x→o≠m.id:=fun o x ho e=>by
  obtain ⟨E,Z,h⟩:=h
  exact hid (e ▸ (h.oids o x ho).1)
 unfold Mat.go at hm
 split at hm
 ·rename_i hbx
  split at hm
  ·rename_i ht
   simp only [Option.some.injEq] at hm
   subst hm
   have hlk:∀ t,(⟨(m.at_,.p (.c (.sl m.id)))::σ.tm,(m.id,some (.row m.dp m.s []))::σ.ob⟩:St).tmp t=if m.at_=t then .p (.c (.sl m.id)) else (σ.add [(m.id,some (.row m.dp m.s []))]).tmp t:=fun t=>by
    show (look ((m.at_,_)::σ.tm) t).getD _=_
    simp only [look]
    by_cases e:m.at_=t
    ·rw [if_pos e,e,Nat.beq_refl];rfl
    ·rw [if_neg e,beq_ne e];rfl
   refine ⟨E,Z,h1.defers,h1.size,fun t=>?_,fun t i hi=>?_,h1.obj,h1.oids,h1.nodup,h1.apart,h1.free,h1.znew,h1.zlt,h1.frame,h1.hone⟩
   ·rw [hlk]
    by_cases e:m.at_=t
    ·rw [if_pos e]
     have:=h1.tmp t
     have e2:(σ.add [(m.id,some (.row m.dp m.s []))]).tmp t=σ.tmp m.at_:=by rw [e];rfl
     rw [e2,ht] at this
     show _=E.hdr m.id
     rw [hh];exact this
    ·rw [if_neg e];exact h1.tmp t
   ·rw [hlk] at hi
    by_cases e:m.at_=t
    ·rw [if_pos e] at hi;simp [AV.ids,PV.ids,CV.ids] at hi;simp [hi]
    ·rw [if_neg e] at hi;exact h1.tids t i hi
  ·cases hm
 ·rename_i o hbx
  split at hm
  ·rename_i t l hob
   split at hm
   ·rename_i hl
    simp only [Option.some.injEq] at hm
    subst hm
    have hne:=hKo o _ hob
    have hob1:(σ.add [(m.id,some (.row m.dp m.s []))]).obj o=some (.bx t l):=by
     show (look ((m.id,_)::σ.ob) o).getD none=_
     simp only [look]
     rw [beq_ne (Ne.symm hne),cond_false]
     exact hob
    have hlk:∀ o' x,(⟨σ.tm,(o,some (.bx t (l.set m.at_ (.sl m.id))))::(m.id,some (.row m.dp m.s []))::σ.ob⟩:St).obj o'=some x→(o'=o∧x=.bx t (l.set m.at_ (.sl m.id)))∨(o'≠o∧(σ.add [(m.id,some (.row m.dp m.s []))]).obj o'=some x):=fun o' x hx=>by
     have hx:(look ((o,some (Ob.bx t (l.set m.at_ (.sl m.id))))::(m.id,some (.row m.dp m.s []))::σ.ob) o').getD none=some x:=hx
     rw [look] at hx
     by_cases e:o=o'
     ·subst e;rw [Nat.beq_refl,cond_true] at hx;simp only [Option.getD_some,Option.some.injEq] at hx;exact .inl ⟨rfl,hx.symm⟩
     ·rw [beq_ne e,cond_false] at hx;exact .inr ⟨Ne.symm e,hx⟩
    have hold:∀ o' x,(⟨σ.tm,(o,some (.bx t (l.set m.at_ (.sl m.id))))::(m.id,some (.row m.dp m.s []))::σ.ob⟩:St).obj o'=some x→∃ y,(σ.add [(m.id,some (.row m.dp m.s []))]).obj o'=some y:=fun o' x hx=>by
     rcases hlk o' x hx with ⟨rfl,_⟩ | ⟨_,h'⟩
     ·exact ⟨_,hob1⟩
     ·exact ⟨_,h'⟩
    refine ⟨E,Z,h1.defers,h1.size,h1.tmp,h1.tids,fun o' x hx=>?_,fun o' x hx=>?_,fun o' x hx=>?_,fun o1 x1 o2 x2 hx1 hx2=>?_,fun o' x hx=>?_,h1.znew,h1.zlt,h1.frame,h1.hone⟩
    ·rcases hlk o' x hx with ⟨rfl, rfl⟩ | ⟨_, h'⟩
     ·obtain ⟨b, vs, e1, e2, e3, e4⟩ := h1.obj _ _ hob1
      exact ⟨b,vs,e1,e2,e3,dens_set e4 hl fun u hu=>by show u=E.hdr m.id;rw [hh];exact hu⟩
     ·exact h1.obj o' x h'
    ·rcases hlk o' x hx with ⟨rfl, rfl⟩ | ⟨_, h'⟩
     ·refine ⟨(h1.oids _ _ hob1).1, fun i hi => ?_⟩
      rcases set_ids hi with hi | hi
      ·exact (h1.oids _ _ hob1).2 i hi
      ·simp [CV.ids] at hi;simp [hi]
     ·exact h1.oids o' x h'
    ·obtain ⟨y,hy⟩:=hold o' x hx;exact h1.nodup o' y hy
    ·obtain ⟨y1,hy1⟩:=hold o1 x1 hx1;obtain ⟨y2,hy2⟩:=hold o2 x2 hx2;exact h1.apart o1 y1 o2 y2 hy1 hy2
    ·obtain ⟨y,hy⟩:=hold o' x hx;exact h1.free o' y hy
   ·cases hm
  ·cases hm
def St.mats:List Mat→List Nat→St→Option St
 | [],_,σ=>some σ
 | m :: l, K, σ => bif memB m.id K then none else match m.go σ with
  | some σ'=>St.mats l (m.id::K) σ'
  | none=>none
theorem memB_not {i:Nat} {l:List Nat} (h:memB i l=false):i ∉ l:=fun hi=>by
 have:memB i l=true:=List.any_eq_true.2 ⟨i,hi,Nat.beq_refl i⟩
 rw [this] at h;cases h
theorem Stands.mats:∀ {l:List Mat} {K:List Nat} {σ:St},Stands w0 Z0 L N K σ a w→St.mats l K σ=some σ'→∃ K',Stands w0 Z0 L N K' σ' a w
 | [],K,σ,h,hr=>by cases hr;exact ⟨K,h⟩
 | m :: l, K, σ, h, hr => by
  unfold St.mats at hr
  cases hk:memB m.id K with
  | true=>rw [hk] at hr;cases hr
  | false =>
   rw [hk,cond_false] at hr
   cases h1:m.go σ with
   | none=>rw [h1] at hr;cases hr
   | some s1=>rw [h1] at hr;exact Stands.mats (h.mat (memB_not hk) h1) hr
theorem Stands.norm (h:Stands w0 Z0 L N K σ a w) (ts os:List Nat):At w0 Z0 L N (σ.only ts os) a w:=by
 obtain ⟨E,Z,h⟩:=h
 have ho:∀ o x,(σ.only ts os).obj o=some x→σ.obj o=some x:=fun o x hx=>by
  rw [only_obj] at hx;split at hx
  ·exact hx
  ·cases hx
 refine ⟨E,Z,h.defers,h.size,fun t=>?_,fun t i hi=>tmp_ids_mem hi,fun o x hx=>h.obj o x (ho o x hx),fun o x hx=>obj_ids_mem hx,fun o x hx=>h.nodup o x (ho o x hx),
  fun o x o' x' hx hx'=>h.apart o x o' x' (ho o x hx) (ho o' x' hx'),fun o x hx=>h.free o x (ho o x hx),h.znew,h.zlt,h.frame,fun i hi=>h.hone i ?_⟩
 ·rw [only_tmp]
  split
  ·exact h.tmp t
  ·trivial
 ·rcases List.mem_append.1 hi with hi | hi
  ·obtain ⟨p, hp, hi⟩ := List.mem_flatMap.1 hi
   obtain ⟨t,ht,rfl⟩:=List.mem_map.1 hp
   exact h.tids t i hi
  ·obtain ⟨p, hp, hi⟩ := List.mem_flatMap.1 hi
   obtain ⟨o,ho',rfl⟩:=List.mem_map.1 hp
   simp only at hi
   cases hx:σ.obj o with
   | none=>rw [hx] at hi;simp at hi
   | some x =>
    rw [hx] at hi
    rcases List.mem_cons.1 hi with rfl | hi
    ·exact (h.oids _ x hx).1
    ·exact (h.oids o x hx).2 i hi
def CV.ren (f:Nat→Nat):CV→CV
 | .ptr o c=>.ptr (f o) c
 | .sl r=>.sl (f r)
 | .pe r i c n=>.pe (f r) i c n
 | .cl g c=>.cl g (c.ren f)
 | .ccons a b=>.ccons (a.ren f) (b.ren f)
 | c=>c
def PV.ren (f:Nat→Nat):PV→PV
 | .c x=>.c (x.ren f)
 | .ag l=>.ag (l.map (CV.ren f))
def AV.ren (f:Nat→Nat):AV→AV
 | .p x=>.p (x.ren f)
 | .tu l=>.tu (l.map (PV.ren f))
def Ob.ren (f:Nat→Nat):Ob→Ob
 | .bx t l=>.bx t (l.map (CV.ren f))
 | .op s ys i l=>.op s ys i (l.map (CV.ren f))
 | .pin r u=>.pin (f r) u
 | x=>x
def renN (ρ:List (Nat×Nat)) (i:Nat):Nat:=(look ρ i).getD i
def renI (ρ:List (Nat×Nat)) (i:Nat):Nat:=(look (ρ.map fun p=>(p.2,p.1)) i).getD i
def St.ren (ρ:List (Nat×Nat)) (σ:St):St:=⟨σ.tm.map fun p=>(p.1,p.2.ren (renN ρ)),σ.ob.map fun p=>(renN ρ p.1,p.2.map (Ob.ren (renN ρ)))⟩
def St.all (σ:St):List Nat:=σ.ids++σ.ob.map (·.1)
mutual
theorem CV.ren_den {f:Nat→Nat}:∀ {c:CV} {u:Value},c.den E Z w u→(∀ i∈c.ids,E'.hdr (f i)=E.hdr i)→(c.ren f).den E' Z w u
 | .ptr o _,_,h,k=>by obtain ⟨b,h1,h2⟩:=h;exact ⟨b,(k o (by simp [CV.ids])).trans h1,h2⟩
 | .sl r,_,h,k=>(show _=_ from h).trans (k r (by simp [CV.ids])).symm
 | .pe r _ _ _,_,h,k=>by obtain ⟨g,off,n,cap,h1,h2⟩:=h;exact ⟨g,off,n,cap,(k r (by simp [CV.ids])).trans h1,h2⟩
 | .cl _ c,_,h,k=>by obtain ⟨vs,h1,h2⟩:=h;exact ⟨vs,h1,CV.ren_denL h2 k⟩
 | .ccons _ _,_,h,_=>h.elim
 | .un,_,h,_ | .v _,_,h,_ | .ro _ _,_,h,_ | .pr _ _ _,_,h,_ | .cnil,_,h,_ | .nb _,_,h,_=>h
theorem CV.ren_denL {f:Nat→Nat}:∀ {c:CV} {vs:List Value},c.denL E Z w vs→(∀ i∈c.ids,E'.hdr (f i)=E.hdr i)→(c.ren f).denL E' Z w vs
 | .cnil,_,h,_=>h
 | .ccons a b, _, h, k => by
  obtain ⟨x,xs,rfl,h1,h2⟩:=h
  exact ⟨x,xs,rfl,CV.ren_den h1 fun i hi=>k i (by simp [CV.ids,hi]),CV.ren_denL h2 fun i hi=>k i (by simp [CV.ids,hi])⟩
 | .un,_,h,_ | .v _,_,h,_ | .ptr _ _,_,h,_ | .sl _,_,h,_ | .pe _ _ _ _,_,h,_ | .ro _ _,_,h,_ | .pr _ _ _,_,h,_ | .cl _ _,_,h,_ | .nb _,_,h,_=>h.elim
end
theorem dens.ren {f:Nat→Nat}:∀ {l:List CV} {vs:List Value},dens E Z w l vs→(∀ i∈l.flatMap CV.ids,E'.hdr (f i)=E.hdr i)→dens E' Z w (l.map (CV.ren f)) vs
 | [],[],_,_=>trivial
 | _::_,_::_,h,k=>⟨CV.ren_den h.1 fun i hi=>k i (by simp [hi]),dens.ren h.2 fun i hi=>k i (by rw [List.flatMap_cons];exact List.mem_append.2 (.inr hi))⟩
theorem PV.ren_den {f:Nat→Nat}:∀ {c:PV} {u:Value},c.den E Z w u→(∀ i∈c.ids,E'.hdr (f i)=E.hdr i)→(c.ren f).den E' Z w u
 | .c _,_,h,k=>CV.ren_den h k
 | .ag _,_,h,k=>by obtain ⟨vs,h1,h2⟩:=h;exact ⟨vs,h1,h2.ren k⟩
theorem pdens.ren {f:Nat→Nat}:∀ {l:List PV} {vs:List Value},pdens E Z w l vs→(∀ i∈l.flatMap PV.ids,E'.hdr (f i)=E.hdr i)→pdens E' Z w (l.map (PV.ren f)) vs
 | [],[],_,_=>trivial
 | _::_,_::_,h,k=>⟨PV.ren_den h.1 fun i hi=>k i (by simp [hi]),pdens.ren h.2 fun i hi=>k i (by rw [List.flatMap_cons];exact List.mem_append.2 (.inr hi))⟩
theorem AV.ren_den {f:Nat→Nat}:∀ {c:AV} {u:Value},c.den E Z w u→(∀ i∈c.ids,E'.hdr (f i)=E.hdr i)→(c.ren f).den E' Z w u
 | .p _,_,h,k=>PV.ren_den h k
 | .tu _,_,h,k=>by obtain ⟨vs,h1,h2⟩:=h;exact ⟨vs,h1,h2.ren k⟩
theorem At.ren (h:At w0 Z0 L N σ a w) {ρ:List (Nat×Nat)} (hρ:(σ.all.all fun i=>(renI ρ (renN ρ i)).beq i)=true):At w0 Z0 L N (σ.ren ρ) a w:=by
 obtain ⟨E,Z,h⟩:=h
 have hinv:∀ i∈σ.all,renI ρ (renN ρ i)=i:=fun i hi=>Nat.eq_of_beq_eq_true (List.all_eq_true.1 hρ i hi)
 have hin:∀ i∈σ.ids,i∈σ.all:=fun i hi=>List.mem_append.2 (.inl hi)
 have hhdr:∀ i∈σ.ids,(Env.mk (fun i=>E.hdr (renI ρ i)) (fun i=>E.fp (renI ρ i))).hdr (renN ρ i)=E.hdr i:=fun i hi=>by show E.hdr _=_;rw [hinv i (hin i hi)]
 have ht:∀ t,(σ.ren ρ).tmp t=(σ.tmp t).ren (renN ρ):=fun t=>by
  show (look (σ.tm.map fun p=>(p.1,p.2.ren (renN ρ))) t).getD _=((look σ.tm t).getD _).ren _
  rw [look_mapv]
  cases look σ.tm t<;>rfl
 have ho:∀ o x,(σ.ren ρ).obj o=some x→∃ o' y,renN ρ o'=o∧o'∈σ.all∧σ.obj o'=some y∧x=y.ren (renN ρ):=by
  intro o x hx
  have hx:(look (σ.ob.map fun p=>(renN ρ p.1,p.2.map (Ob.ren (renN ρ)))) o).getD none=some x:=hx
  have gen:∀ (l:List (Nat×Option Ob)),(∀ p∈l,renI ρ (renN ρ p.1)=p.1)→(look (l.map fun p=>(renN ρ p.1,p.2.map (Ob.ren (renN ρ)))) o).getD none=some x→∃ o' y,renN ρ o'=o∧(∃ p∈l,p.1=o')∧(look l o').getD none=some y∧x=y.ren (renN ρ):=by
   intro l
   induction l with
   | nil=>intro _ h;cases h
   | cons p l ih =>
    intro hp h
    obtain ⟨k,v⟩:=p
    simp only [List.map_cons,look] at h
    by_cases e:renN ρ k=o
    ·rw [e, Nat.beq_refl, cond_true] at h
     cases v with
     | none=>cases h
     | some y =>
      simp only [Option.map_some,Option.getD_some,Option.some.injEq] at h
      exact ⟨k,y,e,⟨(k,some y),by simp,rfl⟩,by simp [look],h.symm⟩
    ·rw [beq_ne e, cond_false] at h
     obtain ⟨o',y,e1,⟨p,hp1,hp2⟩,e3,e4⟩:=ih (fun p hp'=>hp p (by simp [hp'])) h
     refine ⟨o',y,e1,⟨p,by simp [hp1],hp2⟩,?_,e4⟩
     rw [look,beq_ne (fun e'=>e (by rw [e'];exact e1)),cond_false]
     exact e3
  obtain ⟨o',y,e1,⟨p,hp1,hp2⟩,e3,e4⟩:=gen σ.ob (fun p hp=>hinv p.1 (List.mem_append.2 (.inr (List.mem_map.2 ⟨p,hp,rfl⟩)))) hx
  exact ⟨o',y,e1,List.mem_append.2 (.inr (List.mem_map.2 ⟨p,hp1,hp2⟩)),e3,e4⟩
 have hfp:∀ o',o'∈σ.all→(Env.mk (fun i=>E.hdr (renI ρ i)) (fun i=>E.fp (renI ρ i))).fp (renN ρ o')=E.fp o':=fun o' ho'=>by show E.fp _=_;rw [hinv o' ho']
 have hcell:∀ {c:CV} {i:Nat},i∈(c.ren (renN ρ)).ids→∃ j∈c.ids,i=renN ρ j:=by
  intro c
  induction c with
  | ptr o k=>intro i hi;simp [CV.ren,CV.ids] at hi ⊢;exact hi
  | sl r=>intro i hi;simp [CV.ren,CV.ids] at hi ⊢;exact hi
  | pe r j k n=>intro i hi;simp [CV.ren,CV.ids] at hi ⊢;exact hi
  | cl g c ih=>intro i hi;exact ih hi
  | ccons p q ih1 ih2 =>
   intro i hi
   rcases List.mem_append.1 (show i∈(p.ren _).ids++(q.ren _).ids from hi) with hi | hi
   ·obtain ⟨j,hj,e⟩:=ih1 hi;exact ⟨j,List.mem_append.2 (.inl hj),e⟩
   ·obtain ⟨j,hj,e⟩:=ih2 hi;exact ⟨j,List.mem_append.2 (.inr hj),e⟩
  | _=>intro i hi;simp [CV.ren,CV.ids] at hi
 have hcells:∀ {l:List CV} {i:Nat},i∈(l.map (CV.ren (renN ρ))).flatMap CV.ids→∃ j∈l.flatMap CV.ids,i=renN ρ j:=by
  intro l i hi
  obtain ⟨c,hc,hi⟩:=List.mem_flatMap.1 hi
  obtain ⟨d,hd,rfl⟩:=List.mem_map.1 hc
  obtain ⟨j,hj,e⟩:=hcell hi
  exact ⟨j,List.mem_flatMap.2 ⟨d,hd,hj⟩,e⟩
 have hpv:∀ {p:PV} {i:Nat},i∈(p.ren (renN ρ)).ids→∃ j∈p.ids,i=renN ρ j:=by
  intro p i hi
  cases p with
  | c x=>exact hcell hi
  | ag l=>exact hcells hi
 have hav:∀ {p:AV} {i:Nat},i∈(p.ren (renN ρ)).ids→∃ j∈p.ids,i=renN ρ j:=by
  intro p i hi
  cases p with
  | p x=>exact hpv hi
  | tu l =>
   obtain ⟨c,hc,hi⟩:=List.mem_flatMap.1 (show i∈(l.map (PV.ren (renN ρ))).flatMap PV.ids from hi)
   obtain ⟨d,hd,rfl⟩:=List.mem_map.1 hc
   obtain ⟨j,hj,e⟩:=hpv hi
   exact ⟨j,List.mem_flatMap.2 ⟨d,hd,hj⟩,e⟩
 have hobi:∀ {x:Ob} {i:Nat},i∈(x.ren (renN ρ)).ids→∃ j∈x.ids,i=renN ρ j:=by
  intro x i hi
  cases x with
  | bx t l=>exact hcells hi
  | op _ _ _ l=>exact hcells hi
  | row _ _ _=>simp [Ob.ren,Ob.ids] at hi
  | pin r u=>simp [Ob.ren,Ob.ids] at hi ⊢;exact hi
  | mp _ _=>simp [Ob.ren,Ob.ids] at hi
 refine ⟨⟨fun i=>E.hdr (renI ρ i),fun i=>E.fp (renI ρ i)⟩,Z,h.defers,h.size,fun t=>?_,fun t i hi=>tmp_ids_mem hi,fun o x hx=>?_,fun o x hx=>obj_ids_mem hx,fun o x hx=>?_,fun o x o' x' hx hx' hne=>?_,fun o x hx=>?_,h.znew,h.zlt,h.frame,fun i hi=>?_⟩
 ·rw [ht];exact AV.ren_den (h.tmp t) fun i hi=>hhdr i (h.tids t i hi)
 ·obtain ⟨o1, y, rfl, h1, h2, rfl⟩ := ho o x hx
  rw [hfp o1 h1,hhdr o1 (h.oids o1 y h2).1]
  have hd:=h.obj o1 y h2
  cases y with
  | row _ _ _=>exact hd
  | mp _ _=>exact hd
  | op s ys i cs=>obtain ⟨vs,us,Fs,e1,e2,e3,e4,e5⟩:=hd;exact ⟨vs,us,Fs,e1,e2,e3.ren fun i hi=>hhdr i ((h.oids o1 _ h2).2 i hi),e4,e5⟩
  | pin r u=>exact ⟨hd.1,(hhdr r ((h.oids o1 _ h2).2 r (by simp [Ob.ids]))).trans hd.2.1,hd.2.2⟩
  | bx t cs=>obtain ⟨b,vs,e1,e2,e3,e4⟩:=hd;exact ⟨b,vs,e1,e2,e3,e4.ren fun i hi=>hhdr i ((h.oids o1 _ h2).2 i hi)⟩
 ·obtain ⟨o1, y, rfl, h1, h2, rfl⟩ := ho o x hx
  rw [hfp o1 h1];exact h.nodup o1 y h2
 ·obtain ⟨o1, y, rfl, h1, h2, rfl⟩ := ho o x hx
  obtain ⟨o2,y',rfl,h1',h2',rfl⟩:=ho o' x' hx'
  rw [hfp o1 h1,hfp o2 h1']
  exact h.apart o1 y o2 y' h2 h2' fun e=>hne (by rw [e])
 ·obtain ⟨o1, y, rfl, h1, h2, rfl⟩ := ho o x hx
  rw [hfp o1 h1];exact h.free o1 y h2
 ·show (E.hdr (renI ρ i)).oneCell' = true
  have:∃ j∈σ.ids,i=renN ρ j:=by
   rcases List.mem_append.1 hi with hi | hi
   ·obtain ⟨p, hp, hi⟩ := List.mem_flatMap.1 hi
    obtain ⟨q,hq,rfl⟩:=List.mem_map.1 hp
    obtain ⟨j,hj,e⟩:=hav hi
    exact ⟨j,List.mem_append.2 (.inl (List.mem_flatMap.2 ⟨q,hq,hj⟩)),e⟩
   ·obtain ⟨p, hp, hi⟩ := List.mem_flatMap.1 hi
    obtain ⟨q,hq,rfl⟩:=List.mem_map.1 hp
    obtain ⟨k,v⟩:=q
    cases v with
    | none=>simp at hi
    | some x =>
     simp only [Option.map_some] at hi
     rcases List.mem_cons.1 hi with rfl | hi
     ·exact ⟨k,List.mem_append.2 (.inr (List.mem_flatMap.2 ⟨_,hq,by simp⟩)),rfl⟩
     ·obtain ⟨j, hj, e⟩ := hobi hi
      exact ⟨j,List.mem_append.2 (.inr (List.mem_flatMap.2 ⟨_,hq,by simp [hj]⟩)),e⟩
  obtain ⟨j,hj,rfl⟩:=this
  rw [hinv j (hin j hj)]
  exact h.hone j hj
end
end Go.Proofs.Ytmcpigcpachdkaa
