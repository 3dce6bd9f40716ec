/- Walking a function: the steps, as they are used. No program is named; no condition. -/
import Derived.Test.YtmcpigcpachdkaaPQ
namespace Go.Proofs.Ytmcpigcpachdkaa
open Go.RowKit
set_option linter.unusedVariables false
set_option linter.unusedSimpArgs false
structure Out where
 fz:List Nat:=[]
 mt:List Mat:=[]
 ts:List Nat
 os:List Nat
 rn:List (Nat×Nat):=[]
def Out.go (u:Out) (K:List Nat) (σ:St):Option St:=match St.frs u.fz σ with
 | some s1 => match St.mats u.mt K s1 with
  | some s2=>bif (s2.only u.ts u.os).all.all fun i=>(renI u.rn (renN u.rn i)).beq i then some (bif u.rn.isEmpty then s2.only u.ts u.os else (s2.only u.ts u.os).ren u.rn) else none
  | none=>none
 | none=>none
section
variable {P:Program} {w0:World} {Z0:Nat→Prop} {L:List Nat} {N:Nat} {K:List Nat} {σ σ':St} {a:Act} {w:World} {Q:Exit→Act→World→Prop}
theorem Stands.out (h:Stands w0 Z0 L N K σ a w) {u:Out} (hu:u.go K σ=some σ'):At w0 Z0 L N σ' a w:=by
 unfold Out.go at hu
 split at hu
 ·rename_i s1 h1
  split at hu
  ·rename_i s2 h2
   obtain ⟨K2,h3⟩:=(h.frs h1).mats h2
   cases hb:(s2.only u.ts u.os).all.all fun i=>(renI u.rn (renN u.rn i)).beq i with
   | false=>rw [hb] at hu;cases hu
   | true =>
    rw [hb,cond_true] at hu
    simp only [Option.some.injEq] at hu
    subst hu
    cases u.rn.isEmpty with
    | true=>exact h3.norm u.ts u.os
    | false=>exact At.ren (h3.norm u.ts u.os) hb
  ·cases hu
 ·cases hu
theorem at_out (u:Out) (h:At w0 Z0 L N σ a w) (hu:u.go σ.ids σ=some σ'):At w0 Z0 L N σ' a w:=Stands.out h hu
def okB (N:Nat) (ops:List Oper) (mds:List Md) (K:List Nat):Bool:=dstsB N ops && nodupB (namesOf mds) && (namesOf mds).all fun i=>!memB i K
def walkR (P:Program) (Γ:Gam) (T:List (Nat×Sum)) (N:Nat) (ops:List Oper) (mds:List Md) (u:Out) (σ:St):Option (St×List Prop) :=
 bif okB N ops mds σ.ids then match runL P Γ T ops.toArray ops mds σ with
  | some r => match u.go (namesOf mds ++ σ.ids) r.1 with
   | some s=>some (s,r.2)
   | none=>none
  | none=>none
 else none
def walkA (P:Program) (Γ:Gam) (T:List (Nat×Sum)) (N:Nat) (ops:List Oper) (mds:List Md) (u:Out) (σ:St):Option (St×List Prop) :=
 bif anyB P Γ T ops mds σ && mds.length.beq ops.length then walkR P Γ T N ops mds u σ else none
theorem okB_spec {ops:List Oper} {mds:List Md} (h:okB N ops mds K=true):(∀ (j d:Nat),(ops.toArray[j]?).bind (·.dst)=some d→d < N)∧(namesOf mds).Nodup∧∀ i∈namesOf mds,i ∉ K:=by
 unfold okB at h
 simp only [Bool.and_eq_true] at h
 obtain ⟨⟨h1,h2⟩,h3⟩:=h
 refine ⟨dstsB_spec h1,nodupB_spec h2,fun i hi=>memB_not ?_⟩
 have:=List.all_eq_true.1 h3 i hi
 cases hm:memB i K with
 | true=>rw [hm] at this;cases this
 | false=>rfl
theorem walkR_spec {Γ:Gam} {T:List (Nat×Sum)} {ops:List Oper} {mds:List Md} {u:Out} {ps:List Prop} (h:walkR P Γ T N ops mds u σ=some (σ',ps)) :
  okB N ops mds σ.ids=true∧∃ s,runL P Γ T ops.toArray ops mds σ=some (s,ps)∧u.go (namesOf mds++σ.ids) s=some σ':=by
 unfold walkR at h
 cases hb:okB N ops mds σ.ids with
 | false=>rw [hb] at h;cases h
 | true =>
  rw [hb,cond_true] at h
  split at h
  ·rename_i r hr
   split at h
   ·rename_i s hs
    simp only [Option.some.injEq,Prod.mk.injEq] at h
    obtain ⟨rfl,rfl⟩:=h
    exact ⟨rfl,r.1,hr,hs⟩
   ·cases h
  ·cases h
theorem at_reg {Γ:Gam} {T:List (Nat×Sum)} (mds:List Md) (u:Out) (σ':St) (ps:List Prop) (hΓ:GamOK P Γ) (hT:TabOK P w0 L T) {id:Nat} {ops:List Oper} (h:At w0 Z0 L N σ a w)
  (hrun:walkR P Γ T N ops mds u σ=some (σ',ps)) (hps:AllP ps) (hQ:∀ a' w',At w0 Z0 L N σ' a' w'→Q .normal a' w'):(Code.region id ops.toArray false).wp P Q a w:=by
 obtain ⟨hb,s,hr,hu⟩:=walkR_spec hrun
 obtain ⟨h1,h2,h3⟩:=okB_spec hb
 refine wp_region ?_
 have:=wpOps_runL (Q:=Q) hΓ hT h1 ops 0 mds σ.ids σ a w ps (by simp) h h2 h3 hr hps (fun a' w' h'=>hQ a' w' (Stands.out h' hu))
 simpa using this
theorem at_any {Γ:Gam} {T:List (Nat×Sum)} (mds:List Md) (u:Out) (σ':St) (ps:List Prop) (hΓ:GamOK P Γ) (hT:TabOK P w0 L T) (hm:P.follows .mixedOrders=true) {id:Nat} {ops:List Oper} (h:At w0 Z0 L N σ a w)
  (hrun:walkA P Γ T N ops mds u σ=some (σ',ps)) (hps:AllP ps) (hQ:∀ a' w',At w0 Z0 L N σ' a' w'→Q .normal a' w'):(Code.region id ops.toArray true).wp P Q a w:=by
 unfold walkA at hrun
 cases hab:anyB P Γ T ops mds σ && mds.length.beq ops.length with
 | false=>rw [hab] at hrun;cases hrun
 | true =>
 rw [hab,cond_true] at hrun
 simp only [Bool.and_eq_true] at hab
 obtain ⟨hb,s,hr,hu⟩:=walkR_spec hrun
 obtain ⟨h1,h2,h3⟩:=okB_spec hb
 have hdrew:Stands w0 Z0 L N σ.ids σ a { w with drawn:=w.drawn+1 }:=by
  obtain ⟨E,Z,h⟩:=h
  exact ⟨E,Z,h.step (M:=fun _=>False) rfl rfl rfl (Nat.le_refl _) (fun _ _ _=>rfl) (fun i hi=>hi) (fun i hi=>.inl hi) (fun i hi=>rfl) (fun _ _ _ _=>rfl) (fun _ h=>h) (fun _ h=>.inl h)
   (fun o x ho=>.inl ⟨fun h=>h,ho⟩) (fun o x o' x' ho _ _ hc=>absurd ⟨fun h=>h,ho⟩ hc) h.defers h.size (fun t=>.inl ⟨rfl,rfl⟩)⟩
 exact wp_region_any hm (wpAny_runL hΓ hT h1 (Nat.eq_of_beq_eq_true hab.2) h2 h3 hr hps hab.1 (fun a' w' h'=>hQ a' w' (Stands.out h' hu)) hdrew)
theorem at_test {c:Nat} {x y:Code} (b:Bool) (h:At w0 Z0 L N σ a w) (hc:σ.tmp c=.p (.c (.v (.bool b)))) (ht:b=true→x.wp P Q a w) (hf:b=false→y.wp P Q a w):(Code.cond (.tmp c) x y).wp P Q a w:=wp_test h hc ht hf
theorem at_loop {ι:Type} {c:Code} (I:ι→St) (ok:ι→Prop) (μ:ι→Nat) (i0:ι) (h:At w0 Z0 L N σ a w) (hσ:σ=I i0) (h0:ok i0)
  (round:∀ i a w,ok i→At w0 Z0 L N (I i) a w→c.wp P (Exit.then (fun a' w'=>∃ j,At w0 Z0 L N (I j) a' w'∧ok j∧μ j < μ i) Q) a w):(Code.loop c).wp P Q a w:=by
 subst hσ
 refine wp_loop (I:=fun a w=>∃ i,ok i∧At w0 Z0 L N (I i) a w) (μ:=fun a w=>least fun n=>∃ i,(ok i∧At w0 Z0 L N (I i) a w)∧μ i=n) ⟨i0,h0,h⟩ ?_
 rintro a w ⟨i1,hi1⟩
 obtain ⟨i,hi,hμ⟩:=least_spec (S:=fun n=>∃ i,(ok i∧At w0 Z0 L N (I i) a w)∧μ i=n) ⟨μ i1,i1,hi1,rfl⟩
 refine wp_mono (round i a w hi.1 hi.2) fun e a' w' hq=>?_
 cases e with
 | normal =>
  obtain ⟨j,h1,h2,h3⟩:=hq
  refine ⟨⟨j,h2,h1⟩,?_⟩
  have:=least_le (S:=fun n=>∃ i,(ok i∧At w0 Z0 L N (I i) a' w')∧μ i=n) ⟨j,⟨h2,h1⟩,rfl⟩
  rw [← hμ];omega
 | _=>exact hq
def walkS (P:Program) (Γ:Gam) (T:List (Nat×Sum)) (N:Nat) (ops:List Oper) (mds:List Md) (u:Out) (σ:St):St:=match walkR P Γ T N ops mds u σ with
 | some r=>r.1
 | none=>σ
def walkB (P:Program) (Γ:Gam) (T:List (Nat×Sum)) (N:Nat) (ops:List Oper) (mds:List Md) (u:Out) (σ:St):St:=match walkA P Γ T N ops mds u σ with
 | some r=>r.1
 | none=>σ
theorem at_regq {Γ:Gam} {T:List (Nat×Sum)} (mds:List Md) (u:Out) (ps:List Prop) (hΓ:GamOK P Γ) (hT:TabOK P w0 L T) {id:Nat} {ops:List Oper} (h:At w0 Z0 L N σ a w)
  (hrun:(walkR P Γ T N ops mds u σ).map (·.2)=some ps) (hps:AllP ps) (hQ:∀ a' w',At w0 Z0 L N (walkS P Γ T N ops mds u σ) a' w'→Q .normal a' w'):(Code.region id ops.toArray false).wp P Q a w:=by
 cases hw:walkR P Γ T N ops mds u σ with
 | none=>rw [hw] at hrun;cases hrun
 | some r =>
  obtain ⟨σ',ps'⟩:=r
  rw [hw] at hrun
  simp only [Option.map_some,Option.some.injEq] at hrun
  subst hrun
  refine at_reg mds u σ' ps' hΓ hT h hw hps fun a' w' h'=>hQ a' w' ?_
  have:walkS P Γ T N ops mds u σ=σ':=by unfold walkS;rw [hw]
  rw [this];exact h'
theorem at_anyq {Γ:Gam} {T:List (Nat×Sum)} (mds:List Md) (u:Out) (ps:List Prop) (hΓ:GamOK P Γ) (hT:TabOK P w0 L T) (hm:P.follows .mixedOrders=true) {id:Nat} {ops:List Oper} (h:At w0 Z0 L N σ a w)
  (hrun:(walkA P Γ T N ops mds u σ).map (·.2)=some ps) (hps:AllP ps) (hQ:∀ a' w',At w0 Z0 L N (walkB P Γ T N ops mds u σ) a' w'→Q .normal a' w'):(Code.region id ops.toArray true).wp P Q a w:=by
 cases hw:walkA P Γ T N ops mds u σ with
 | none=>rw [hw] at hrun;cases hrun
 | some r =>
  obtain ⟨σ',ps'⟩:=r
  rw [hw] at hrun
  simp only [Option.map_some,Option.some.injEq] at hrun
  subst hrun
  refine at_any mds u σ' ps' hΓ hT hm h hw hps fun a' w' h'=>hQ a' w' ?_
  have:walkB P Γ T N ops mds u σ=σ':=by unfold walkB;rw [hw]
  rw [this];exact h'
abbrev aI (n:Int):AV:=.p (.c (.v (.int .i64 n)))
abbrev aB (b:Bool):AV:=.p (.c (.v (.bool b)))
abbrev aS (r:Nat):AV:=.p (.c (.sl r))
abbrev aP (o k:Nat):AV:=.p (.c (.ptr o k))
abbrev aG (l:List CV):AV:=.p (.ag l)
abbrev aF (s:Sh) (xs:List s.D):AV:=.p (.c (.ro s xs))
abbrev aR (s:Sh) (x:s.D) (c:Nat):AV:=.p (.c (.pr s x c))
abbrev cI (n:Int):CV:=.v (.int .i64 n)
abbrev cN:CV:=.v (.slice none 0 0)
abbrev oX (t:Nat) (l:List CV):Option Ob:=some (.bx t l)
abbrev oR (s:Sh) (xs:List s.D):Option Ob:=some (.row true s xs)
abbrev oP (r:Nat) (u:Value):Option Ob:=some (.pin r u)
theorem at_eq (h:At w0 Z0 L N σ a w) (e:σ=σ'):At w0 Z0 L N σ' a w:=e ▸ h
theorem at_enterV {V:World→Prop} {f:FuncId} {fn:Func} {c:Code} {S:Sum} (N:Nat) (σ:Dom S.dom→St) (hf:P.funcs[f]?=some fn) (hb:fn.body=some c) (hn:(Nat.ble S.dom.length N && N.beq fn.ntmps && S.kinds.isEmpty && S.prim.isNone)=true) (hσ:∀ x,inSt S.dom x=σ x)
  (h:∀ (w0:World) (Z0:Nat→Prop) (x:Dom S.dom) (a:Act) (w:World),V w0→S.pre x→lensD S.dom x→At w0 Z0 [] N (σ x) a w→c.wp P (bodyPost P fn (S.Ret w0 Z0 (S.g x))) a w):FnOKV P V f S:=by
 simp only [Bool.and_eq_true] at hn
 have hN:=Nat.eq_of_beq_eq_true hn.1.1.2
 subst hN
 refine fn_enterV hf hb hn.1.1.1 hn.1.2 hn.2 fun w0 Z0 x a w hV hp hl hs=>h w0 Z0 x a w hV hp hl ?_
 rw [← hσ]
 obtain ⟨E,Z,hs⟩:=hs
 exact ⟨E,Z,hs.defers,hs.size,hs.tmp,fun t i hi=>absurd (hs.tids t i hi) (by simp),hs.obj,fun o x ho=>absurd (hs.oids o x ho).1 (by simp),hs.nodup,hs.apart,hs.free,hs.znew,hs.zlt,hs.frame,fun i hi=>by
  have:(inSt S.dom x).ids=[]:=by
   have hnum:∀ (l:List PV) (n:Nat),l.flatMap PV.ids=[]→(numA n l).flatMap (fun p=>p.2.ids)=[]:=by
    intro l
    induction l with
    | nil=>intros;rfl
    | cons p l ih =>
     intro n h
     rw [List.flatMap_cons] at h
     have h:=List.append_eq_nil_iff.1 h
     simp only [numA,List.flatMap_cons]
     rw [ih _ h.2,List.append_nil]
     exact h.1
   have hfz:∀ (l:List Sh) (y:Dom l),(frzP l y).flatMap PV.ids=[]:=by
    intro l
    induction l with
    | nil=>intros;rfl
    | cons s l ih =>
     intro y
     have hids:=s.cvs_ids false y.1
     show (s.pv (s.cvs false y.1)::frzP l y.2).flatMap PV.ids=[]
     rw [List.flatMap_cons,ih,List.append_nil]
     unfold Sh.pv
     cases hag:s.agg with
     | true=>exact hids
     | false =>
      generalize s.cvs false y.1=cs at *
      cases cs with
      | nil=>rfl
      | cons c cs=>rw [List.flatMap_cons] at hids;exact (List.append_eq_nil_iff.1 hids).1
   unfold inSt St.ids
   rw [hnum _ _ (hfz _ _)]
   rfl
  rw [this] at hi;simp at hi⟩
def endR (P:Program) (S:Sum) (rs:List ResultVar) (σ:St):Option (Dom S.cod×List Prop):=((retM P S rs).run σ).map fun y=>(y.1,(retM P S rs).obl σ)
theorem at_enter {f:FuncId} {fn:Func} {c:Code} {S:Sum} (N:Nat) (σ:Dom S.dom→St) (hf:P.funcs[f]?=some fn) (hb:fn.body=some c) (hn:(Nat.ble S.dom.length N && N.beq fn.ntmps && S.kinds.isEmpty && S.prim.isNone)=true) (hσ:∀ x,inSt S.dom x=σ x)
  (h:∀ (w0:World) (Z0:Nat→Prop) (x:Dom S.dom) (a:Act) (w:World),S.pre x→lensD S.dom x→At w0 Z0 [] N (σ x) a w→c.wp P (bodyPost P fn (S.Ret w0 Z0 (S.g x))) a w):FnOK P f S :=
 (at_enterV (V:=fun _=>True) N σ hf hb hn hσ fun w0 Z0 x a w _=>h w0 Z0 x a w).ok
theorem at_return {fn:Func} {S:Sum} {x:Dom S.dom} (y:Dom S.cod) (ps:List Prop) (h:At w0 Z0 [] N σ a w) (hr:endR P S fn.results.toList σ=some (y,ps)) (ho:AllP ps) (hy:y=S.g x) :
  bodyPost P fn (S.Ret w0 Z0 (S.g x)) .ret a w:=by
 unfold endR at hr
 cases hm:(retM P S fn.results.toList).run σ with
 | none=>rw [hm] at hr;cases hr
 | some z =>
  rw [hm] at hr
  simp only [Option.map_some,Option.some.injEq,Prod.mk.injEq] at hr
  obtain ⟨rfl,rfl⟩:=hr
  exact wp_return h (y:=z) (by rw [hm];rfl) ho hy
end
theorem st_congr1 {α0:Type} (F:α0→St) {a0 b0:α0} (h0:a0=b0):F a0=F b0:=by subst h0;rfl
theorem st_congr2 {α0 α1:Type} (F:α0→α1→St) {a0 b0:α0} (h0:a0=b0) {a1 b1:α1} (h1:a1=b1):F a0 a1=F b0 b1:=by subst h0;subst h1;rfl
theorem st_congr3 {α0 α1 α2:Type} (F:α0→α1→α2→St) {a0 b0:α0} (h0:a0=b0) {a1 b1:α1} (h1:a1=b1) {a2 b2:α2} (h2:a2=b2):F a0 a1 a2=F b0 b1 b2:=by subst h0;subst h1;subst h2;rfl
theorem st_congr4 {α0 α1 α2 α3:Type} (F:α0→α1→α2→α3→St) {a0 b0:α0} (h0:a0=b0) {a1 b1:α1} (h1:a1=b1) {a2 b2:α2} (h2:a2=b2) {a3 b3:α3} (h3:a3=b3):F a0 a1 a2 a3=F b0 b1 b2 b3:=by subst h0;subst h1;subst h2;subst h3;rfl
theorem st_congr5 {α0 α1 α2 α3 α4:Type} (F:α0→α1→α2→α3→α4→St) {a0 b0:α0} (h0:a0=b0) {a1 b1:α1} (h1:a1=b1) {a2 b2:α2} (h2:a2=b2) {a3 b3:α3} (h3:a3=b3) {a4 b4:α4} (h4:a4=b4):F a0 a1 a2 a3 a4=F b0 b1 b2 b3 b4:=by subst h0;subst h1;subst h2;subst h3;subst h4;rfl
theorem GamOK.nil {P:Program}:GamOK P []:=fun t s b h=>by cases h
theorem GamOK.cons {P:Program} {t:Nat} {s:Sh} {b:Nat} {Γ:Gam} (h:Elem P t s.ty s.zs b) (k:GamOK P Γ):GamOK P ((t,s,b)::Γ):=fun t' s' b' hg=>by
 simp only [look] at hg
 by_cases e:t=t'
 ·subst e;rw [Nat.beq_refl,cond_true] at hg;cases hg;exact h
 ·rw [beq_ne e,cond_false] at hg;exact k t' s' b' hg
section
variable {next:Act→World→Prop} {Q:Exit→Act→World→Prop} {a:Act} {w:World} {i j:Nat}
theorem then_normal (h:next a w):Exit.then next Q .normal a w:=h
theorem then_exit (h:Q (.exit i) a w):Exit.then next Q (.exit i) a w:=h
theorem then_ret (h:Q .ret a w):Exit.then next Q .ret a w:=h
theorem in_normal (h:Q .normal a w):Exit.inBlock i Q .normal a w:=h
theorem in_hit (h:Q .normal a w):Exit.inBlock i Q (.exit i) a w:=by
 show if i=i then _ else _
 rw [if_pos rfl];exact h
theorem in_ret (h:Q .ret a w):Exit.inBlock i Q .ret a w:=h
end
theorem hint_int {a b:Int} (h:a=b):(AV.p (.c (.v (.int .i64 a))))=AV.p (.c (.v (.int .i64 b))):=by rw [h]
theorem hint_bool {a b:Bool} (h:a=b):(AV.p (.c (.v (.bool a))))=AV.p (.c (.v (.bool b))):=by rw [h]
theorem wrap_id {n:Int} (h:-9223372036854775808≤n∧n≤9223372036854775807):IntKind.i64.wrap n=n:=by rw [IntKind.wrap_i64];omega
theorem TabOK.nil {P:Program} {w0:World} {L:List Nat}:TabOK P w0 L []:=fun f S h=>by cases h
theorem TabOK.consw {P:Program} {w0:World} {L:List Nat} {f:Nat} {S:Sum} {T:List (Nat×Sum)} (h:FnOKw P w0 L S.fid S) (k:TabOK P w0 L T):TabOK P w0 L ((f,S)::T):=fun g S' hg=>by
 simp only [look] at hg
 by_cases e:f=g
 ·subst e;rw [Nat.beq_refl,cond_true] at hg;cases hg;exact h
 ·rw [beq_ne e,cond_false] at hg;exact k g S' hg
theorem TabOK.cons {P:Program} {w0:World} {L:List Nat} {f:Nat} {S:Sum} {T:List (Nat×Sum)} (h:FnOK P S.fid S) (k:TabOK P w0 L T):TabOK P w0 L ((f,S)::T):=.consw h.at_ k
end Go.Proofs.Ytmcpigcpachdkaa
