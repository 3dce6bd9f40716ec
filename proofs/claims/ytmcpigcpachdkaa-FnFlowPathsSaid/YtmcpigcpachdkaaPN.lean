/- Walking a function's code over what is known: regions, tests, loops, entry and end. No program is named; no condition. -/
import Derived.Test.YtmcpigcpachdkaaPM
namespace Go.Proofs.Ytmcpigcpachdkaa
open Go.RowKit
set_option linter.unusedVariables false
set_option linter.unusedSimpArgs false
def St.only (σ:St) (ts os:List Nat):St:=⟨ts.map fun t=>(t,σ.tmp t),os.map fun o=>(o,σ.obj o)⟩
def St.ids (σ:St):List Nat:=σ.tm.flatMap (fun p=>p.2.ids)++σ.ob.flatMap (fun p=>match p.2 with | some x=>p.1::x.ids | none=>[])
def memB (i:Nat) (l:List Nat):Bool:=l.any fun j=>i.beq j
def subB (l l':List Nat):Bool:=l.all fun i=>memB i l'
theorem memB_spec {i:Nat} {l:List Nat} (h:memB i l=true):i∈l:=by
 obtain ⟨j,hj,e⟩:=List.any_eq_true.1 h
 have:=Nat.eq_of_beq_eq_true e
 exact this ▸ hj
theorem subB_spec {l l':List Nat} (h:subB l l'=true):∀ i∈l,i∈l':=fun i hi=>memB_spec (List.all_eq_true.1 h i hi)
theorem look_map {α:Type} (f:Nat→α) (n:Nat):∀ (l:List Nat),look (l.map fun t=>(t,f t)) n=if n∈l then some (f n) else none
 | []=>rfl
 | k :: l => by
  simp only [List.map_cons,look]
  by_cases e:k=n
  ·subst e;rw [Nat.beq_refl,cond_true];simp
  ·rw [beq_ne e, cond_false, look_map f n l]
   have:(n∈k::l)↔n∈l:=by simp [Ne.symm e]
   simp only [this]
theorem only_tmp (σ:St) (ts os:List Nat) (t:Nat):(σ.only ts os).tmp t=if t∈ts then σ.tmp t else .p (.c .un):=by
 show (look (ts.map fun t=>(t,σ.tmp t)) t).getD _=_
 rw [look_map σ.tmp]
 split<;>rfl
theorem only_obj (σ:St) (ts os:List Nat) (o:Nat):(σ.only ts os).obj o=if o∈os then σ.obj o else none:=by
 show (look (os.map fun o=>(o,σ.obj o)) o).getD none=_
 rw [look_map σ.obj]
 split<;>rfl
section
variable {P:Program} {w0:World} {Z0:Nat→Prop} {L:List Nat} {N:Nat} {K:List Nat} {σ:St} {a:Act} {w:World}
def Stands (w0:World) (Z0:Nat→Prop) (L:List Nat) (N:Nat) (K:List Nat) (σ:St) (a:Act) (w:World):Prop:=∃ E Z,RelE w0 Z0 L N K σ a w E Z
theorem tmp_ids_mem {σ:St} {t i:Nat} (h:i∈(σ.tmp t).ids):i∈σ.ids:=by
 unfold St.tmp at h
 cases hl:look σ.tm t with
 | none=>rw [hl] at h;simp [AV.ids,PV.ids,CV.ids] at h
 | some av =>
  rw [hl] at h
  have:∃ p∈σ.tm,p.2=av:=by
   generalize σ.tm=l at hl
   induction l with
   | nil=>cases hl
   | cons p l ih =>
    obtain ⟨k,x⟩:=p
    simp only [look] at hl
    cases hb:k.beq t with
    | true=>rw [hb,cond_true] at hl;simp only [Option.some.injEq] at hl;exact ⟨(k,x),by simp,hl⟩
    | false=>rw [hb,cond_false] at hl;obtain ⟨p,hp,e⟩:=ih hl;exact ⟨p,by simp [hp],e⟩
  obtain ⟨p,hp,rfl⟩:=this
  exact List.mem_append.2 (.inl (List.mem_flatMap.2 ⟨p,hp,h⟩))
theorem obj_ids_mem {σ:St} {o:Nat} {x:Ob} (h:σ.obj o=some x):o∈σ.ids∧∀ i∈x.ids,i∈σ.ids:=by
 unfold St.obj at h
 cases hl:look σ.ob o with
 | none=>rw [hl] at h;cases h
 | some y =>
  rw [hl] at h
  simp only [Option.getD_some] at h
  subst h
  have:(o,some x)∈σ.ob:=by
   generalize σ.ob=l at hl
   induction l with
   | nil=>cases hl
   | cons p l ih =>
    obtain ⟨k,y⟩:=p
    simp only [look] at hl
    cases hb:k.beq o with
    | true=>rw [hb,cond_true] at hl;cases hl;have:=Nat.eq_of_beq_eq_true hb;subst this;simp
    | false=>rw [hb,cond_false] at hl;exact List.mem_cons.2 (.inr (ih hl))
  refine ⟨List.mem_append.2 (.inr (List.mem_flatMap.2 ⟨_,this,by simp⟩)),fun i hi=>List.mem_append.2 (.inr (List.mem_flatMap.2 ⟨_,this,by simp [hi]⟩))⟩
theorem Stands.only (h:Stands w0 Z0 L N K σ a w) (ts os K':List Nat) (hK:subB (σ.only ts os).ids K'=true) (hK':subB K' K=true):Stands w0 Z0 L N K' (σ.only ts os) a w:=by
 obtain ⟨E,Z,h⟩:=h
 have hs:=subB_spec hK
 have ho:∀ o x,(σ.only ts os).obj o=some x→σ.obj o=some x:=fun o x hx=>by
  rw [only_obj] at hx;split at hx
  ·exact hx
  ·cases hx
 refine ⟨E,Z,h.defers,h.size,fun t=>?_,fun t i hi=>hs i (tmp_ids_mem hi),fun o x hx=>h.obj o x (ho o x hx),fun o x hx=>⟨hs o (obj_ids_mem hx).1,fun i hi=>hs i ((obj_ids_mem hx).2 i hi)⟩,fun o x hx=>h.nodup o x (ho o x hx),
  fun o x o' x' hx hx'=>h.apart o x o' x' (ho o x hx) (ho o' x' hx'),fun o x hx=>h.free o x (ho o x hx),h.znew,h.zlt,h.frame,fun i hi=>h.hone i (subB_spec hK' i hi)⟩
 rw [only_tmp]
 split
 ·exact h.tmp t
 ·trivial
theorem wp_test {Q:Exit→Act→World→Prop} {c:Nat} {x y:Code} {b:Bool} (h:Stands w0 Z0 L N K σ a w) (hc:σ.tmp c=.p (.c (.v (.bool b)))) (ht:b=true→x.wp P Q a w) (hf:b=false→y.wp P Q a w):(Code.cond (.tmp c) x y).wp P Q a w:=by
 obtain ⟨E,Z,h⟩:=h
 refine wp_cond_split (t:=b) ?_ ht hf
 have:=h.tmp c
 rw [hc] at this
 exact this
theorem exists_least {S:Nat→Prop}:(∃ n,S n)→∃ m,S m∧∀ n,S n→m≤n:=by
 rintro ⟨n,hn⟩
 induction n using Nat.strongRecOn with
 | _ n ih =>
  by_cases h:∃ k,k < n∧S k
  ·obtain ⟨k,hk,hs⟩:=h;exact ih k hk hs
  ·exact ⟨n,hn,fun k hk=>by
    rcases Nat.lt_or_ge k n with h' | h'
    ·exact absurd ⟨k,h',hk⟩ h
    ·exact h'⟩
open Classical in
noncomputable def least (S:Nat→Prop):Nat:=if h:∃ n,S n then Classical.choose (exists_least h) else 0
theorem least_spec {S:Nat→Prop} (h:∃ n,S n):S (least S):=by
 unfold least;rw [dif_pos h];exact (Classical.choose_spec (exists_least h)).1
theorem least_le {S:Nat→Prop} {n:Nat} (h:S n):least S≤n:=by
 unfold least;rw [dif_pos ⟨n,h⟩];exact (Classical.choose_spec (exists_least ⟨n,h⟩)).2 n h
end
end Go.Proofs.Ytmcpigcpachdkaa
