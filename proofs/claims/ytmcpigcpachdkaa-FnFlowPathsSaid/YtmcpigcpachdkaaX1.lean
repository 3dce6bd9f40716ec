/- The walks of the functions that the law reaches: each summary holds. No condition. -/
import Derived.Test.YtmcpigcpachdkaaPU
import Derived.Test.YtmcpigcpachdkaaLA
import Derived.Test.YtmcpigcpachdkaaProg
namespace Go.Proofs.Ytmcpigcpachdkaa
open Go.RowKit
set_option linter.unusedVariables false
set_option linter.unusedSimpArgs false
abbrev s29:Sh:=.sl 29 (.int 3)
abbrev s58:Sh:=.st 58 (.pair (.int 3) (.pair (.int 3) (.int 3)))
abbrev T58:Type:=(Int×(Int×Int))
abbrev s24:Sh:=.sl 24 s58
abbrev s26:Sh:=.st 26 (.pair (.int 3) s24)
abbrev T26:Type:=(Int×(List T58))
abbrev s22:Sh:=.sl 22 (.u8 5)
abbrev s63:Sh:=.st 63 (.pair s22 (.pair (.int 3) (.int 3)))
abbrev T63:Type:=((List Int)×(Int×Int))
abbrev s31:Sh:=.st 31 s29
abbrev s37:Sh:=.st 37 s29
abbrev s33:Sh:=.sl 33 s37
def gam:Gam:=[(29,(.int 3),8),(24,s58,24),(33,s37,24)]
theorem gamOK:GamOK Try.prog gam:=(.cons (Elem.of (.int .i64 0) Try.underlying29 (by kernel_rfl) rfl (by decide) (by decide)) (.cons (Elem.of (.agg #[(.int .i64 0),(.int .i64 0),(.int .i64 0)]) Try.underlying24 (by kernel_rfl) rfl (by decide) (by decide)) (.cons (Elem.of (.agg #[(.slice none 0 0)]) Try.underlying33 (by kernel_rfl) rfl (by decide) (by decide)) .nil)))
theorem mixed:Try.prog.follows .mixedOrders=true:=by kernel_rfl
theorem lsA {α:Type}:(∀ xs ys:List α,(xs++ys).length=xs.length+ys.length)∧(∀ (x:α) (xs:List α),(x::xs).length=xs.length+1)∧(([]:List α).length=0)∧(∀ (xs:List α) (i:Nat) (a:α),(xs.set i a).length=xs.length)∧(∀ (xs:List α) (n:Nat),(xs.take n).length=min n xs.length)∧(∀ (xs:List α) (n:Nat),(xs.drop n).length=xs.length - n)∧(∀ (n:Nat) (a:α),(List.replicate n a).length=n):=⟨fun _ _=>List.length_append,fun _ _=>rfl,rfl,fun _ _ _=>List.length_set,fun _ _=>List.length_take,fun _ _=>List.length_drop,fun _ _=>List.length_replicate⟩
def inR (n lo hi:Int):Bool:=decide (lo≤n∧n≤hi)
theorem inR_t {n a b:Int} (h:inR n a b=true):a≤n∧n≤b:=of_decide_eq_true h
theorem inR_f {n a b:Int} (h:inR n a b=false):n < a∨b < n:=by have:=of_decide_eq_false h;omega
theorem inR_true {n a b:Int} (h:a≤n∧n≤b):inR n a b=true:=decide_eq_true h
def lenOK {α:Type} (xs:List α):Prop:=xs.length≤1073741824
def idL {α:Type} (xs:List α):List α:=xs
def u8L (xs:List Int):Prop:=∀ e:Int,List.Mem e xs→(0:Int)≤e∧e < (256:Int)
theorem getD_u8 {xs:List Int} (h:u8L xs) (i:Nat):(0:Int)≤xs.getD i 0∧xs.getD i 0 < (256:Int):=by
 by_cases l:i < xs.length
 ·rw [List.getD_eq_getElem?_getD,List.getElem?_eq_getElem l];exact h _ (List.getElem_mem l)
 ·rw [List.getD_eq_getElem?_getD,List.getElem?_eq_none (by omega)];constructor<;>decide
section
variable {α β:Type}
def noneTo (p:α→Bool) (xs:List α) (z:α) (i:Nat):Prop:=∀ j,j < i→p (xs.getD j z)=false
def idxF (p:α→Bool):List α→Int
 | []=>-1
 | x::l=>if p x=true then 0 else if idxF p l < 0 then -1 else idxF p l+1
theorem noneTo_zero {p:α→Bool} {xs:List α} {z:α}:noneTo p xs z 0:=fun j h=>by omega
theorem noneTo_succ {p:α→Bool} {xs:List α} {z:α} {i:Nat} (h:noneTo p xs z i) (k:p (xs.getD i z)=false):noneTo p xs z (i+1):=fun j hj=>by
 by_cases e:j=i
 ·subst e;exact k
 ·exact h j (by omega)
theorem idxF_at {p:α→Bool} {z:α}:∀ {xs:List α} {i:Nat},i < xs.length→noneTo p xs z i→p (xs.getD i z)=true→idxF p xs=i
 | [],_,h,_,_=>by simp at h
 | x :: l, 0, _, _, k => by
  have k:p x=true:=k
  simp [idxF,k]
 | x :: l, i + 1, h, hn, k => by
  have h0:p x=false:=hn 0 (by omega)
  have:=idxF_at (xs:=l) (i:=i) (by simpa using h) (fun j hj=>by have:=hn (j+1) (by omega);simpa using this) (by simpa using k)
  simp only [idxF,h0,this]
  rw [if_neg (by decide),if_neg (by omega)]
  omega
theorem idxF_none {p:α→Bool} {z:α}:∀ {xs:List α} {i:Nat},xs.length≤i→noneTo p xs z i→idxF p xs=-1
 | [],_,_,_=>rfl
 | x::l,0,h,_=>by simp at h
 | x :: l, i + 1, h, hn => by
  have h0:p x=false:=hn 0 (by omega)
  have:=idxF_none (xs:=l) (i:=i) (by simpa using h) (fun j hj=>by have:=hn (j+1) (by omega);simpa using this)
  simp [idxF,h0,this]
theorem idxF_pos {p:α→Bool}:∀ {xs:List α},0≤idxF p xs↔xs.any p=true
 | []=>by simp [idxF]
 | x :: l => by
  have:=idxF_pos (xs:=l) (p:=p)
  simp only [idxF,List.any_cons,Bool.or_eq_true,← this]
  by_cases hx:p x=true
  ·simp [hx]
  ·rw [if_neg hx]
   split
   ·rename_i h; constructor
    ·intro h';omega
    ·rintro (h' | h')
     ·exact absurd h' hx
     ·omega
   ·rename_i h; constructor
    ·intro h';right;omega
    ·intro _;omega
theorem idxF_any {p:α→Bool} {xs:List α}:decide (idxF p xs≥0)=xs.any p:=by
 rw [Bool.eq_iff_iff,decide_eq_true_iff];exact idxF_pos
def allTo2 (e:α→β→Bool) (xs:List α) (ys:List β) (z:α) (y:β) (i:Nat):Prop:=∀ j,j < i→e (xs.getD j z) (ys.getD j y)=true
def eqF (e:α→β→Bool):List α→List β→Bool
 | [],[]=>true
 | x::l,y::l'=>e x y && eqF e l l'
 | _,_=>false
theorem allTo2_zero {e:α→β→Bool} {xs:List α} {ys:List β} {z:α} {y:β}:allTo2 e xs ys z y 0:=fun j h=>by omega
theorem allTo2_succ {e:α→β→Bool} {xs:List α} {ys:List β} {z:α} {y:β} {i:Nat} (h:allTo2 e xs ys z y i) (k:e (xs.getD i z) (ys.getD i y)=true):allTo2 e xs ys z y (i+1):=fun j hj=>by
 by_cases e:j=i
 ·subst e;exact k
 ·exact h j (by omega)
theorem eqF_len {e:α→β→Bool}:∀ {xs:List α} {ys:List β},xs.length≠ys.length→eqF e xs ys=false
 | [],[],h=>absurd rfl h
 | [],_::_,_=>rfl
 | _::_,[],_=>rfl
 | _::l,_::l',h=>by simp only [eqF];rw [eqF_len (xs:=l) (ys:=l') (by simpa using h),Bool.and_false]
theorem eqF_at {e:α→β→Bool} {z:α} {y:β}:∀ {xs:List α} {ys:List β} {i:Nat},i < xs.length→i < ys.length→e (xs.getD i z) (ys.getD i y)=false→eqF e xs ys=false
 | x :: l, y' :: l', 0, _, _, h => by
  have h:e x y'=false:=h
  simp [eqF,h]
 | x::l,y'::l',i+1,h1,h2,h=>by simp only [eqF];rw [eqF_at (xs:=l) (ys:=l') (i:=i) (by simpa using h1) (by simpa using h2) (by simpa using h),Bool.and_false]
 | [],_,_,h1,_,_=>by simp at h1
 | _::_,[],_,_,h2,_=>by simp at h2
theorem eqF_all {e:α→β→Bool} {z:α} {y:β}:∀ {xs:List α} {ys:List β} {i:Nat},xs.length=ys.length→xs.length≤i→allTo2 e xs ys z y i→eqF e xs ys=true
 | [],[],_,_,_,_=>rfl
 | [],_::_,_,h,_,_=>by simp at h
 | _::_,[],_,h,_,_=>by simp at h
 | x::l,y'::l',0,_,h,_=>by simp at h
 | x :: l, y' :: l', i + 1, h, hi, ha => by
  have h0:e x y'=true:=ha 0 (by omega)
  simp only [eqF]
  rw [h0,eqF_all (xs:=l) (ys:=l') (i:=i) (by simpa using h) (by simpa using hi) (fun j hj=>by have:=ha (j+1) (by omega);simpa using this)]
  rfl
def allTo1 (p:α→Bool) (xs:List α) (z:α) (i:Nat):Prop:=∀ j,j < i→p (xs.getD j z)=true
theorem allTo1_zero {p:α→Bool} {xs:List α} {z:α}:allTo1 p xs z 0:=fun j h=>by omega
theorem allTo1_succ {p:α→Bool} {xs:List α} {z:α} {i:Nat} (h:allTo1 p xs z i) (k:p (xs.getD i z)=true):allTo1 p xs z (i+1):=fun j hj=>by
 by_cases e:j=i
 ·subst e;exact k
 ·exact h j (by omega)
theorem all_at {p:α→Bool} {xs:List α} {z:α} {i:Nat} (h:i < xs.length) (k:p (xs.getD i z)=false):xs.all p=false:=by
 rw [Bool.eq_false_iff];intro ha
 have:=List.all_eq_true.1 ha _ (getD_mem (z:=z) h)
 rw [k] at this;cases this
theorem all_of {p:α→Bool} {xs:List α} {z:α} {i:Nat} (h:xs.length≤i) (k:allTo1 p xs z i):xs.all p=true:=by
 rw [List.all_eq_true];intro x hx
 obtain ⟨j,hj,rfl⟩:=List.getElem_of_mem hx
 have:=k j (by omega)
 rwa [getD_of_lt hj] at this
def foldTo (f:β→α→β) (b:β) (xs:List α) (i:Nat):β:=(xs.take i).foldl f b
theorem foldTo_zero {f:β→α→β} {b:β} {xs:List α}:foldTo f b xs 0=b:=rfl
theorem foldTo_succ {f:β→α→β} {b:β} {xs:List α} {i:Nat} (z:α) (h:i < xs.length):foldTo f b xs (i+1)=f (foldTo f b xs i) (xs.getD i z):=by
 unfold foldTo;rw [take_snoc (z:=z) h,List.foldl_append];rfl
theorem foldTo_all {f:β→α→β} {b:β} {xs:List α} {i:Nat} (h:xs.length≤i):foldTo f b xs i=xs.foldl f b:=by unfold foldTo;rw [take_all h]
end
theorem notF' {b:Bool} (h:b=false):(!b)=true:=by rw [h];rfl
theorem notT' {b:Bool} (h:b=true):(!b)=false:=by rw [h];rfl
section
variable {α β:Type}
theorem any_at {p:α→Bool} {xs:List α} {z:α} {i:Nat} (h:i < xs.length) (k:p (xs.getD i z)=true):xs.any p=true:=List.any_eq_true.2 ⟨_,getD_mem h,k⟩
theorem any_of {p:α→Bool} {xs:List α} {z:α} {i:Nat} (h:xs.length≤i) (k:noneTo p xs z i):xs.any p=false:=by
 rw [Bool.eq_false_iff];intro ha
 obtain ⟨x,hx,hp⟩:=List.any_eq_true.1 ha
 obtain ⟨j,hj,rfl⟩:=List.getElem_of_mem hx
 have:=k j (by omega)
 rw [getD_of_lt hj,hp] at this;cases this
def allN (P:Nat→Bool):Nat→Bool
 | 0=>true
 | n+1=>allN P n && P n
theorem allN_succ {P:Nat→Bool} {i:Nat} (h:allN P i=true) (k:P i=true):allN P (i+1)=true:=by simp [allN,h,k]
theorem allN_iff {P:Nat→Bool}:∀ {n:Nat},allN P n=true↔∀ j,j < n→P j=true
 | 0=>by simp [allN]
 | n + 1 => by
  simp only [allN,Bool.and_eq_true,allN_iff (n:=n)]
  constructor
  ·rintro ⟨h1, h2⟩ j hj
   by_cases e:j=n
   ·rw [e];exact h2
   ·exact h1 j (by omega)
  ·intro h;exact ⟨fun j hj=>h j (by omega),h n (by omega)⟩
theorem allN_eq {P:Nat→Bool} {i n:Nat} (h:n≤i) (h':i≤n) (k:allN P i=true):allN P n=true:=by rw [show n=i by omega];exact k
theorem allN_at {P:Nat→Bool} {i n:Nat} (h:i < n) (k:P i=false):allN P n=false:=by
 rw [Bool.eq_false_iff];intro ha
 rw [allN_iff.1 ha i h] at k;cases k
theorem map_snoc {f:α→β} {xs:List α} {i:Nat} {z:α} (h:i < xs.length):(xs.take (i+1)).map f=(xs.take i).map f++[f (xs.getD i z)]:=by rw [take_snoc (z:=z) h,List.map_append];rfl
theorem filter_snoc_t {p:α→Bool} {xs:List α} {i:Nat} {z:α} (h:i < xs.length) (k:p (xs.getD i z)=true):(xs.take (i+1)).filter p=(xs.take i).filter p++[xs.getD i z]:=by rw [take_snoc (z:=z) h,List.filter_append,List.filter_cons_of_pos k];rfl
theorem filter_snoc_f {p:α→Bool} {xs:List α} {i:Nat} {z:α} (h:i < xs.length) (k:p (xs.getD i z)=false):(xs.take (i+1)).filter p=(xs.take i).filter p:=by rw [take_snoc (z:=z) h,List.filter_append,List.filter_cons_of_neg (by rw [k];decide)];simp
theorem len_filter_take {p:α→Bool} {xs:List α} (i:Nat):((xs.take i).filter p).length≤xs.length:=Nat.le_trans (List.length_filter_le _ _) (by simp;omega)
theorem len_take_le {xs:List α} (i:Nat):(xs.take i).length≤xs.length:=by simp;omega
end
def S_slices_Clone_S_int_int_:Sum:={ fid:=20,dom:=[s29],cod:=[s29],dp:=true,fz:=false,pre:=fun x=>(lenOK (α:=Int)) x.1,g:=fun x=>(((idL (α:=Int)) x.1),()) }
def S_slices_Clone_S_int_int__tab:List (Nat×Sum):=[]
theorem S_slices_Clone_S_int_int__ok:FnOK Try.prog 20 S_slices_Clone_S_int_int_:=by
 refine at_enter 8 (fun x=>⟨[(0,aF (.int 3) x.1)],[]⟩) Try.func20 rfl (by kernel_rfl) (fun x=>rfl) ?_
 rintro w0 Z0 ⟨x0,u⟩ a w
 revert x0
 intro (x0:(List Int)) hpre hlens h
 replace hpre:(lenOK (α:=Int)) x0:=hpre
 have hl1:List.length x0≤9223372036854775807:=hlens.1.1
 have hT:TabOK Try.prog w0 [] S_slices_Clone_S_int_int__tab:=.nil
 have hp:List.length x0≤1073741824:=hpre
 refine wp_seq ?_
 refine at_regq [] { ts:=[0,2],os:=[] } [] gamOK hT h (by kernel_rfl) trivial fun a w h=>then_normal (wp_seq (wp_seq ?_))
 refine at_regq [] { ts:=[0,2,4],os:=[] } [] gamOK hT h (by kernel_rfl) trivial fun a w h=>then_normal ?_
 refine at_nil (List.length x0) h (by kernel_rfl) (fun h1=>?_) ?_
 ·refine wp_seq ?_
  refine at_regq [] { ts:=[0,2],os:=[] } [] gamOK hT h (by kernel_rfl) trivial fun a w h=>then_normal (wp_ret (then_ret ?_))
  exact at_return (([]:List Int),()) [] h (by kernel_rfl) trivial (congrArg (fun z=>(z,())) (show (([]:List Int))=(idL (α:=Int)) x0 from by (show []=x0;exact (List.eq_nil_of_length_eq_zero h1).symm)))
 ·refine wp_skip (then_normal (wp_seq ?_))
  refine at_regq [{ ids:=[1] },{},{ ids:=[2] }] { ts:=[2],os:=[2] } [(List.length ([]:List Int)+List.length x0)*8≤140737488355328] gamOK hT h (by kernel_rfl) ⟨(by first | omega | (simp only [lsA];omega) | (simp<;>omega)),trivial⟩ fun a w h=>then_normal (wp_ret ?_)
  exact at_return ((([]:List Int)++x0),()) [] h (by kernel_rfl) trivial (congrArg (fun z=>(z,())) (show ((([]:List Int)++x0))=(idL (α:=Int)) x0 from by (show []++x0=x0;rfl)))

def S_slices_Clone_S_impl_Edge_impl_Edge_:Sum:={ fid:=46,dom:=[s24],cod:=[s24],dp:=true,fz:=false,pre:=fun x=>(lenOK (α:=(Int×(Int×Int)))) x.1,g:=fun x=>(((idL (α:=(Int×(Int×Int)))) x.1),()) }
def S_slices_Clone_S_impl_Edge_impl_Edge__tab:List (Nat×Sum):=[]
theorem S_slices_Clone_S_impl_Edge_impl_Edge__ok:FnOK Try.prog 46 S_slices_Clone_S_impl_Edge_impl_Edge_:=by
 refine at_enter 8 (fun x=>⟨[(0,aF s58 x.1)],[]⟩) Try.func46 rfl (by kernel_rfl) (fun x=>rfl) ?_
 rintro w0 Z0 ⟨x0,u⟩ a w
 revert x0
 intro (x0:(List T58)) hpre hlens h
 replace hpre:(lenOK (α:=(Int×(Int×Int)))) x0:=hpre
 have hl1:List.length x0≤9223372036854775807:=hlens.1.1
 have hT:TabOK Try.prog w0 [] S_slices_Clone_S_impl_Edge_impl_Edge__tab:=.nil
 have hp:List.length x0≤1073741824:=hpre
 refine wp_seq ?_
 refine at_regq [] { ts:=[0,2],os:=[] } [] gamOK hT h (by kernel_rfl) trivial fun a w h=>then_normal (wp_seq (wp_seq ?_))
 refine at_regq [] { ts:=[0,2,4],os:=[] } [] gamOK hT h (by kernel_rfl) trivial fun a w h=>then_normal ?_
 refine at_nil (List.length x0) h (by kernel_rfl) (fun h1=>?_) ?_
 ·refine wp_seq ?_
  refine at_regq [] { ts:=[0,2],os:=[] } [] gamOK hT h (by kernel_rfl) trivial fun a w h=>then_normal (wp_ret (then_ret ?_))
  exact at_return (([]:List T58),()) [] h (by kernel_rfl) trivial (congrArg (fun z=>(z,())) (show (([]:List T58))=(idL (α:=(Int×(Int×Int)))) x0 from by (show []=x0;exact (List.eq_nil_of_length_eq_zero h1).symm)))
 ·refine wp_skip (then_normal (wp_seq ?_))
  refine at_regq [{ ids:=[1] },{},{ ids:=[2] }] { ts:=[2],os:=[2] } [(List.length ([]:List T58)+List.length x0)*24≤140737488355328] gamOK hT h (by kernel_rfl) ⟨(by first | omega | (simp only [lsA];omega) | (simp<;>omega)),trivial⟩ fun a w h=>then_normal (wp_ret ?_)
  exact at_return ((([]:List T58)++x0),()) [] h (by kernel_rfl) trivial (congrArg (fun z=>(z,())) (show ((([]:List T58)++x0))=(idL (α:=(Int×(Int×Int)))) x0 from by (show []++x0=x0;rfl)))

def S_impl_InRange:Sum:={ fid:=35,dom:=[(.int 3),(.int 3),(.int 3)],cod:=[(.bool 4)],dp:=true,fz:=false,pre:=fun x=>True,g:=fun x=>((inR x.1 x.2.1 x.2.2.1),()) }
def S_impl_InRange_tab:List (Nat×Sum):=[]
theorem S_impl_InRange_ok:FnOK Try.prog 35 S_impl_InRange:=by
 refine at_enter 15 (fun x=>⟨[(0,aI x.1),(1,aI x.2.1),(2,aI x.2.2.1)],[]⟩) Try.func35 rfl (by kernel_rfl) (fun x=>rfl) ?_
 rintro w0 Z0 ⟨x0,x1,x2,u⟩ a w
 revert x0 x1 x2
 intro (x0:Int) (x1:Int) (x2:Int) hpre hlens h
 have hT:TabOK Try.prog w0 [] S_impl_InRange_tab:=.nil
 refine wp_seq ?_
 refine at_regq [] { ts:=[0,1,2,6],os:=[] } [] gamOK hT h (by kernel_rfl) trivial fun a w h=>then_normal (wp_seq ?_)
 by_cases h1:x1≤x0
 ·refine at_regq [{}, {}, { hint := some (aB true) }] { ts := [6], os := [] } [(AV.p (.c (.v (.bool (decide (x1 ≤ x0))))) = AV.p (.c (.v (.bool true))))] gamOK hT h (by kernel_rfl) ⟨hint_bool (decide_eq_true h1), trivial⟩ fun a w h => then_normal (wp_ret ?_)
  exact at_return (decide (x0≤x2),()) [] h (by kernel_rfl) trivial (congrArg (fun z=>(z,())) (show (decide (x0≤x2))=inR x0 x1 x2 from by (unfold inR;simp [*];done)))
 ·refine at_regq [{}, {}, { hint := some (aB false) }] { ts := [6], os := [] } [(AV.p (.c (.v (.bool (decide (x1 ≤ x0))))) = AV.p (.c (.v (.bool false))))] gamOK hT h (by kernel_rfl) ⟨hint_bool (decide_eq_false h1), trivial⟩ fun a w h => then_normal (wp_ret ?_)
  exact at_return (false,()) [] h (by kernel_rfl) trivial (congrArg (fun z=>(z,())) (show (false)=inR x0 x1 x2 from by (unfold inR;simp [*];done)))

def S_spec_l1In:Sum:={ fid:=25,dom:=[(.int 3),(.int 3),(.int 3)],cod:=[(.bool 4)],dp:=true,fz:=false,pre:=fun x=>True,g:=fun x=>((inR x.1 x.2.1 x.2.2.1),()) }
def S_spec_l1In_tab:List (Nat×Sum):=[]
theorem S_spec_l1In_ok:FnOK Try.prog 25 S_spec_l1In:=by
 refine at_enter 15 (fun x=>⟨[(0,aI x.1),(1,aI x.2.1),(2,aI x.2.2.1)],[]⟩) Try.func25 rfl (by kernel_rfl) (fun x=>rfl) ?_
 rintro w0 Z0 ⟨x0,x1,x2,u⟩ a w
 revert x0 x1 x2
 intro (x0:Int) (x1:Int) (x2:Int) hpre hlens h
 have hT:TabOK Try.prog w0 [] S_spec_l1In_tab:=.nil
 refine wp_seq ?_
 refine at_regq [] { ts:=[0,1,2,6],os:=[] } [] gamOK hT h (by kernel_rfl) trivial fun a w h=>then_normal (wp_seq ?_)
 by_cases h1:x0≥x1
 ·refine at_regq [{}, {}, { hint := some (aB true) }] { ts := [6], os := [] } [(AV.p (.c (.v (.bool (decide (x0 ≥ x1))))) = AV.p (.c (.v (.bool true))))] gamOK hT h (by kernel_rfl) ⟨hint_bool (decide_eq_true h1), trivial⟩ fun a w h => then_normal (wp_ret ?_)
  exact at_return (decide (x0≤x2),()) [] h (by kernel_rfl) trivial (congrArg (fun z=>(z,())) (show (decide (x0≤x2))=inR x0 x1 x2 from by (unfold inR;first | (simp only [ge_iff_le] at *;simp [*];done) | (rw [decide_eq_false];omega))))
 ·refine at_regq [{}, {}, { hint := some (aB false) }] { ts := [6], os := [] } [(AV.p (.c (.v (.bool (decide (x0 ≥ x1))))) = AV.p (.c (.v (.bool false))))] gamOK hT h (by kernel_rfl) ⟨hint_bool (decide_eq_false h1), trivial⟩ fun a w h => then_normal (wp_ret ?_)
  exact at_return (false,()) [] h (by kernel_rfl) trivial (congrArg (fun z=>(z,())) (show (false)=inR x0 x1 x2 from by (unfold inR;first | (simp only [ge_iff_le] at *;simp [*];done) | (rw [decide_eq_false];omega))))

def D_cmp_isNaN_int_:=(fun (_:Int)=>false)
def S_cmp_isNaN_int_:Sum:={ fid:=52,dom:=[(.int 3)],cod:=[(.bool 4)],dp:=true,fz:=false,pre:=fun x=>True,g:=fun x=>((D_cmp_isNaN_int_ x.1),()) }
def S_cmp_isNaN_int__tab:List (Nat×Sum):=[]
theorem S_cmp_isNaN_int__ok:FnOK Try.prog 52 S_cmp_isNaN_int_:=by
 refine at_enter 6 (fun x=>⟨[(0,aI x.1)],[]⟩) Try.func52 rfl (by kernel_rfl) (fun x=>rfl) ?_
 rintro w0 Z0 ⟨x0,u⟩ a w
 revert x0
 intro (x0:Int) hpre hlens h
 have hT:TabOK Try.prog w0 [] S_cmp_isNaN_int__tab:=.nil
 refine wp_seq ?_
 refine at_regq [] { ts:=[0,2],os:=[] } [] gamOK hT h (by kernel_rfl) trivial fun a w h=>then_normal (wp_seq ?_)
 refine at_regq [] { ts:=[2],os:=[] } [] gamOK hT h (by kernel_rfl) trivial fun a w h=>then_normal (wp_ret ?_)
 exact at_return (!decide (x0=x0),()) [] h (by kernel_rfl) trivial (congrArg (fun z=>(z,())) (show (!decide (x0=x0))=D_cmp_isNaN_int_ x0 from by unfold D_cmp_isNaN_int_;simp))

def cmpI (a b:Int):Int:=if a < b then -1 else if b < a then 1 else 0
theorem cmpI_lt {a b:Int}:cmpI a b < 0↔a < b:=by
 unfold cmpI;split
 ·rename_i h;exact ⟨fun _=>h,fun _=>by decide⟩
 ·rename_i h; split
  ·exact ⟨fun h1=>absurd h1 (by decide),fun h1=>absurd h1 h⟩
  ·exact ⟨fun h1=>absurd h1 (by decide),fun h1=>absurd h1 h⟩
theorem cmpI_eq {a b:Int}:cmpI a b=0↔a=b:=by
 unfold cmpI;split
 ·exact ⟨fun h1=>absurd h1 (by decide),fun h1=>by omega⟩
 ·split
  ·exact ⟨fun h1=>absurd h1 (by decide),fun h1=>by omega⟩
  ·exact ⟨fun _=>by omega,fun _=>rfl⟩
def and255 (z:Int):Int:=IntKind.i64.wrap ((BitVec.ofInt (IntKind.i64).bits z &&& BitVec.ofInt (IntKind.i64).bits 255).toNat:Int)
theorem and255_bd (z:Int):0≤and255 z∧and255 z≤255:=by
 unfold and255
 have e:(BitVec.ofInt (IntKind.i64).bits z &&& BitVec.ofInt (IntKind.i64).bits 255).toNat≤255:=by
  rw [BitVec.toNat_and]
  have h2:(BitVec.ofInt (IntKind.i64).bits 255).toNat=255:=by decide
  rw [h2];exact Nat.and_le_right
 rw [IntKind.wrap_i64];omega
def lcgF (h:Int):Int:=IntKind.i64.wrap (IntKind.i64.wrap (h*6364136223846793005)+1442695040888963407)
def xorF (h:Int):Int:=IntKind.i64.wrap ((BitVec.ofInt (IntKind.i64).bits (Int.fdiv h (2 ^ (min (33:Int).toNat (IntKind.i64).bits))) ^^^ BitVec.ofInt (IntKind.i64).bits (Int.fdiv h (2 ^ (min (47:Int).toNat (IntKind.i64).bits)))).toNat:Int)
def hsF (h c:Int):Int:=IntKind.i64.wrap ((BitVec.ofInt (IntKind.i64).bits (IntKind.i64.wrap (IntKind.i64.wrap (IntKind.i64.wrap (h*137)+c)+11)) &&& BitVec.ofInt (IntKind.i64).bits 1073741823).toNat:Int)
def hsTo (code:List Int):Nat→Int
 | 0=>193017+((List.length code:Nat):Int)
 | i+1=>hsF (hsTo code i) (code.getD i 0)
def newC (code:List Int):T63:=(code,0,hsTo code (min (List.length code) 4000))
abbrev Q_spec_l1New:=(fun (x0:(List Int))=>Sh.fit s22 x0)
def B_spec_l1New:NS:={ t:=63,s:=s63,dom:=[s22],pre:=fun x=>Q_spec_l1New x.1,g:=fun x=>(newC x.1) }
def S_spec_l1New:Sum:=nSum 13 B_spec_l1New
def S_spec_l1New_tab:List (Nat×Sum):=[]
theorem S_spec_l1New_ok:FnOK Try.prog 13 S_spec_l1New:=by
 refine at_enterN (B:=B_spec_l1New) 32 (fun x=>⟨[(0,aF (.u8 5) x.1)],[]⟩) Try.func13 rfl (by kernel_rfl) (fun x=>rfl) ?_
 rintro w0 Z0 ⟨x0,u⟩ a w
 revert x0
 intro (x0:(List Int)) hpre hlens h
 replace h:At w0 Z0 [] 32 ⟨[(0,aF (.u8 5) x0)],[]⟩ a w:=h
 replace hpre:Q_spec_l1New x0:=hpre
 have hl1:List.length x0≤9223372036854775807:=hlens.1.1
 have hu0:u8L x0:=hlens.1.2
 have hT:TabOK Try.prog w0 [] S_spec_l1New_tab:=.nil
 have hf0:Sh.fit s22 x0:=hpre
 have hn0_1:List.length x0≤1073741824:=hf0.1
 refine wp_seq ?_
 refine at_regq [] { ts:=[0,2],os:=[] } [] gamOK hT h (by kernel_rfl) trivial fun a w h=>then_normal (wp_seq ?_)
 refine at_regq [{},{},{ nw:=true }] { ts:=[0,2,3],os:=[] } [I64 (193017+((List.length x0:Nat):Int))] gamOK hT h (by kernel_rfl) ⟨⟨by first | omega | (simp only [lsA];omega) | (simp<;>omega),by first | omega | (simp only [lsA];omega) | (simp<;>omega)⟩,trivial⟩ fun a w h=>then_normal (wp_seq (wp_seq ?_))
 refine at_regq [] { ts:=[0,2,3,4],os:=[] } [] gamOK hT h (by kernel_rfl) trivial fun a w h=>then_normal (wp_block ?_)
 replace h:=at_out (σ':=⟨[(0,aF (.u8 5) x0),(2,.p (.c (.v (.pointer none)))),(3,aI (193017+((List.length x0:Nat):Int))),(4,aI 0)],[]⟩) { ts:=[0,2,3,4],os:=[] } h (by kernel_rfl)
 refine at_loop (fun i:Nat=>(⟨[(0,aF (.u8 5) x0),(2,.p (.c (.v (.pointer none)))),(3,aI (hsTo x0 i)),(4,aI ((i:Nat):Int))],[]⟩:St)) (fun i=>i≤(min (List.length x0) 4000)) (fun i=>(min (List.length x0) 4000) - i) (0) h (st_congr2 (fun (d0:Int) (d1:Int)=>(⟨[(0,aF (.u8 5) x0),(2,.p (.c (.v (.pointer none)))),(3,aI d0),(4,aI d1)],[]⟩:St)) (show (193017+((List.length x0:Nat):Int):Int)=(hsTo x0 (0)) from by first | with_reducible rfl | (rfl) | rfl) (show (0:Int)=(((0):Nat):Int) from by first | with_reducible rfl | (rfl) | rfl)) (by omega) ?_
 intro i a w hok0 h
 have hu1:=getD_u8 hu0 i
 refine wp_seq (wp_seq ?_)
 by_cases h1:((i:Nat):Int) < ((List.length x0:Nat):Int)
 ·refine at_regq [{}, {}, {}, { hint := some (aB true) }] { ts := [0, 2, 3, 4, 13, 14, 15], os := [] } [(AV.p (.c (.v (.bool (decide (((i : Nat) : Int) < ((List.length x0 : Nat) : Int)))))) = AV.p (.c (.v (.bool true))))] gamOK hT h (by kernel_rfl) ⟨hint_bool (decide_eq_true h1), trivial⟩ fun a w h => then_normal ?_
  refine at_test (decide (((i:Nat):Int) < 4000)) h (by kernel_rfl) (fun h2=>?_) (fun h2=>?_)
  ·replace h2 : ((i : Nat) : Int) < 4000 := of_decide_eq_true h2
   refine wp_skip (then_normal (wp_seq (wp_block ?_)))
   refine at_regq [{},{},{},{},{},{},{ hint:=some (aI (x0.getD i 0)) },{},{},{ hint:=some (aI (hsF (hsTo x0 i) (x0.getD i 0))) }] { ts:=[0,2,3,4,13,14],os:=[] } [(0:Int)≤((i:Nat):Int)∧((i:Nat):Int) < ((List.length x0:Nat):Int),(AV.p (.c (.v (.int .i64 (IntKind.i64.wrap ((x0.getD i 0))))))=AV.p (.c (.v (.int .i64 ((x0.getD i 0)))))),(AV.p (.c (.v (.int .i64 (IntKind.i64.wrap ((BitVec.ofInt (IntKind.i64).bits (IntKind.i64.wrap ((IntKind.i64.wrap ((IntKind.i64.wrap ((hsTo x0 i)*137))+(x0.getD i 0)))+11)) &&& BitVec.ofInt (IntKind.i64).bits 1073741823).toNat:Int)))))=AV.p (.c (.v (.int .i64 ((hsF (hsTo x0 i) (x0.getD i 0)))))))] gamOK hT h (by kernel_rfl) ⟨(by refine ⟨?_,?_⟩<;>(first | omega | (simp only [lsA];omega) | (simp<;>omega))),hint_int (wrap_id ⟨by first | omega | (simp only [lsA];omega) | (simp<;>omega),by first | omega | (simp only [lsA];omega) | (simp<;>omega)⟩),hint_int (by rfl),trivial⟩ fun a w h=>in_normal (then_normal ?_)
   refine at_regq [{},{ nw:=true }] { ts:=[0,2,3,4,13,14],os:=[] } [I64 (((i:Nat):Int)+1)] gamOK hT h (by kernel_rfl) ⟨⟨by first | omega | (simp only [lsA];omega) | (simp<;>omega),by first | omega | (simp only [lsA];omega) | (simp<;>omega)⟩,trivial⟩ fun a w h=>?_
   replace h:=at_out (σ':=⟨[(0,aF (.u8 5) x0),(2,.p (.c (.v (.pointer none)))),(3,aI (hsF (hsTo x0 i) (x0.getD i 0))),(4,aI (((i:Nat):Int)+1))],[]⟩) { ts:=[0,2,3,4],os:=[] } h (by kernel_rfl)
   exact ⟨i+1,at_eq h (st_congr2 (fun (d0:Int) (d1:Int)=>(⟨[(0,aF (.u8 5) x0),(2,.p (.c (.v (.pointer none)))),(3,aI d0),(4,aI d1)],[]⟩:St)) (show ((hsF (hsTo x0 i) (x0.getD i 0)):Int)=(hsTo x0 (i+1)) from by first | with_reducible rfl | (rfl) | rfl) (show (((i:Nat):Int)+1:Int)=(((i+1):Nat):Int) from by first | with_reducible rfl | (omega) | rfl)),(by omega),(by omega)⟩
  ·replace h2 : ¬ (((i : Nat) : Int) < 4000) := of_decide_eq_false h2
   refine wp_exit (then_exit ?_)
   replace h:=at_out (σ':=⟨[(0,aF (.u8 5) x0),(2,.p (.c (.v (.pointer none)))),(3,aI (hsTo x0 i))],[]⟩) { ts:=[0,2,3],os:=[] } h (by kernel_rfl)
   replace h:=at_eq (σ':=⟨[(0,aF (.u8 5) x0),(2,.p (.c (.v (.pointer none)))),(3,aI (hsTo x0 (min (List.length x0) 4000)))],[]⟩) h (st_congr1 (fun (d0:Int)=>(⟨[(0,aF (.u8 5) x0),(2,.p (.c (.v (.pointer none)))),(3,aI d0)],[]⟩:St)) (show ((hsTo x0 i):Int)=(hsTo x0 (min (List.length x0) 4000)) from by first | with_reducible rfl | (rw [show i=(min (List.length x0) 4000) by omega]) | rfl))
   refine then_exit (in_hit (then_normal (wp_seq ?_)))
   refine at_regq [{},{},{},{ ids:=[1] }] { ts:=[2],os:=[1] } [] gamOK hT h (by kernel_rfl) trivial fun a w h=>then_normal (wp_ret ?_)
   exact at_returnN (B:=B_spec_l1New) (x:=(x0,())) ((x0,(0,(hsTo x0 (min (List.length x0) 4000))))) [] h (by kernel_rfl) trivial (show (x0,(0,(hsTo x0 (min (List.length x0) 4000))))=newC x0 from by rfl)
 ·refine at_regq [{}, {}, {}, { hint := some (aB false) }] { ts := [0, 2, 3, 4, 13, 14, 15], os := [] } [(AV.p (.c (.v (.bool (decide (((i : Nat) : Int) < ((List.length x0 : Nat) : Int)))))) = AV.p (.c (.v (.bool false))))] gamOK hT h (by kernel_rfl) ⟨hint_bool (decide_eq_false h1), trivial⟩ fun a w h => then_normal ?_
  refine at_test false h (by kernel_rfl) (fun hh=>nomatch hh) (fun hh=>?_)
  refine wp_exit (then_exit ?_)
  replace h:=at_out (σ':=⟨[(0,aF (.u8 5) x0),(2,.p (.c (.v (.pointer none)))),(3,aI (hsTo x0 i))],[]⟩) { ts:=[0,2,3],os:=[] } h (by kernel_rfl)
  replace h:=at_eq (σ':=⟨[(0,aF (.u8 5) x0),(2,.p (.c (.v (.pointer none)))),(3,aI (hsTo x0 (min (List.length x0) 4000)))],[]⟩) h (st_congr1 (fun (d0:Int)=>(⟨[(0,aF (.u8 5) x0),(2,.p (.c (.v (.pointer none)))),(3,aI d0)],[]⟩:St)) (show ((hsTo x0 i):Int)=(hsTo x0 (min (List.length x0) 4000)) from by first | with_reducible rfl | (rw [show i=(min (List.length x0) 4000) by omega]) | rfl))
  refine then_exit (in_hit (then_normal (wp_seq ?_)))
  refine at_regq [{},{},{},{ ids:=[1] }] { ts:=[2],os:=[1] } [] gamOK hT h (by kernel_rfl) trivial fun a w h=>then_normal (wp_ret ?_)
  exact at_returnN (B:=B_spec_l1New) (x:=(x0,())) ((x0,(0,(hsTo x0 (min (List.length x0) 4000))))) [] h (by kernel_rfl) trivial (show (x0,(0,(hsTo x0 (min (List.length x0) 4000))))=newC x0 from by rfl)

@[irreducible]
def byteC (x0:T63):T63×Int:=(if x0.2.1 < ((List.length x0.1:Nat):Int) then ((x0.1,(x0.2.1+1,(lcgF x0.2.2))),(and255 (and255 (xorF (lcgF x0.2.2))+x0.1.getD x0.2.1.toNat 0))) else ((x0.1,(x0.2.1,(lcgF x0.2.2))),(and255 (xorF (lcgF x0.2.2)))))
abbrev Q_spec_l1Byte:=(fun (x0:T63)=>0≤x0.2.1)
def B_spec_l1Byte:BS:={ t:=63,s:=s63,dom:=[],cod:=[(.int 3)],pre:=fun y x=>Q_spec_l1Byte y,upd:=fun y x=>(byteC y).1,g:=fun y x=>((byteC y).2,()) }
def S_spec_l1Byte:Sum:=bSum 32 B_spec_l1Byte
def S_spec_l1Byte_tab:List (Nat×Sum):=[]
theorem S_spec_l1Byte_ok:FnOK Try.prog 32 S_spec_l1Byte:=by
 refine at_enterB (B:=B_spec_l1Byte) 58 (fun v y x=>⟨[(0,aP 1 0)],[(1,oX 63 [.ro (.u8 5) y.1,cI y.2.1,cI y.2.2]),(2,oP 1 v)]⟩) Try.func32 rfl (by kernel_rfl) (fun v y x=>rfl) ?_
 rintro w0 Z0 b0 x0 ⟨u⟩ a w
 revert x0
 intro (x0:T63) hpre hlens0 hlens h
 replace h:At w0 Z0 [b0] 58 ⟨[(0,aP 1 0)],[(1,oX 63 [.ro (.u8 5) x0.1,cI x0.2.1,cI x0.2.2]),(2,oP 1 (Value.pointer (some ⟨b0,0,none⟩)))]⟩ a w:=h
 replace hpre:Q_spec_l1Byte x0:=hpre
 have hl1:List.length x0.1≤9223372036854775807:=hlens0.1.1
 have hu0:u8L x0.1:=hlens0.1.2
 have hT:TabOK Try.prog w0 [b0] S_spec_l1Byte_tab:=.nil
 have hp:(0:Int)≤x0.2.1:=hpre
 refine wp_seq ?_
 refine at_regq [] { ts:=[0,2],os:=[1,2] } [] gamOK hT h (by kernel_rfl) trivial fun a w h=>then_normal (wp_seq ?_)
 refine at_regq [{},{},{},{},{},{},{ hint:=some (aI (lcgF x0.2.2)) }] { ts:=[0,2],os:=[1,2] } [(AV.p (.c (.v (.int .i64 (IntKind.i64.wrap ((IntKind.i64.wrap (x0.2.2*6364136223846793005))+1442695040888963407)))))=AV.p (.c (.v (.int .i64 ((lcgF x0.2.2))))))] gamOK hT h (by kernel_rfl) ⟨hint_int (by rfl),trivial⟩ fun a w h=>then_normal (wp_seq ?_)
 refine at_anyq [{},{},{},{},{},{},{},{},{},{},{ hint:=some (aI (xorF (lcgF x0.2.2))) },{ hint:=some (aI (and255 (xorF (lcgF x0.2.2)))) },{}] { ts:=[0,2,3],os:=[1,2] } [(0:Int)≤33,(0:Int)≤47,(AV.p (.c (.v (.int .i64 (IntKind.i64.wrap ((BitVec.ofInt (IntKind.i64).bits (Int.fdiv (lcgF x0.2.2) (2 ^ (min (33:Int).toNat (IntKind.i64).bits))) ^^^ BitVec.ofInt (IntKind.i64).bits (Int.fdiv (lcgF x0.2.2) (2 ^ (min (47:Int).toNat (IntKind.i64).bits)))).toNat:Int)))))=AV.p (.c (.v (.int .i64 ((xorF (lcgF x0.2.2))))))),(AV.p (.c (.v (.int .i64 (IntKind.i64.wrap ((BitVec.ofInt (IntKind.i64).bits (xorF (lcgF x0.2.2)) &&& BitVec.ofInt (IntKind.i64).bits 255).toNat:Int)))))=AV.p (.c (.v (.int .i64 ((and255 (xorF (lcgF x0.2.2))))))))] gamOK hT mixed h (by kernel_rfl) ⟨(by first | omega | (simp only [lsA];omega) | (simp<;>omega)),(by first | omega | (simp only [lsA];omega) | (simp<;>omega)),hint_int (by rfl),hint_int (by rfl),trivial⟩ fun a w h=>then_normal (wp_seq (wp_seq ?_))
 refine at_anyq [{},{},{},{},{},{},{},{},{},{}] { ts:=[0,2,3,34],os:=[1,2] } [] gamOK hT mixed h (by kernel_rfl) trivial fun a w h=>then_normal ?_
 refine at_test (decide (x0.2.1 < ((List.length x0.1:Nat):Int))) h (by kernel_rfl) (fun h1=>?_) (fun h1=>?_)
 ·replace h1 : x0.2.1 < ((List.length x0.1 : Nat) : Int) := of_decide_eq_true h1
  have hu1:=getD_u8 hu0 x0.2.1.toNat
  have ha1:=and255_bd (xorF (lcgF x0.2.2))
  refine wp_seq ?_
  refine at_anyq [{},{},{},{},{},{},{},{},{},{},{},{ hint:=some (aI (x0.1.getD ((x0.2.1).toNat) 0)) },{ nw:=true },{ hint:=some (aI (and255 (and255 (xorF (lcgF x0.2.2))+x0.1.getD x0.2.1.toNat 0))) },{}] { ts:=[0,2,3],os:=[1,2] } [(0:Int)≤x0.2.1∧x0.2.1 < ((List.length x0.1:Nat):Int),(AV.p (.c (.v (.int .i64 (IntKind.i64.wrap ((x0.1.getD ((x0.2.1).toNat) 0))))))=AV.p (.c (.v (.int .i64 ((x0.1.getD ((x0.2.1).toNat) 0)))))),I64 ((and255 (xorF (lcgF x0.2.2)))+(x0.1.getD ((x0.2.1).toNat) 0)),(AV.p (.c (.v (.int .i64 (IntKind.i64.wrap ((BitVec.ofInt (IntKind.i64).bits ((and255 (xorF (lcgF x0.2.2)))+(x0.1.getD ((x0.2.1).toNat) 0)) &&& BitVec.ofInt (IntKind.i64).bits 255).toNat:Int)))))=AV.p (.c (.v (.int .i64 ((and255 (and255 (xorF (lcgF x0.2.2))+x0.1.getD x0.2.1.toNat 0)))))))] gamOK hT mixed h (by kernel_rfl) ⟨(by refine ⟨?_,?_⟩<;>(first | omega | (simp only [lsA];omega) | (simp<;>omega))),hint_int (wrap_id ⟨by first | omega | (simp only [lsA];omega) | (simp<;>omega),by first | omega | (simp only [lsA];omega) | (simp<;>omega)⟩),⟨by first | omega | (simp only [lsA];omega) | (simp<;>omega),by first | omega | (simp only [lsA];omega) | (simp<;>omega)⟩,hint_int (by rfl),trivial⟩ fun a w h=>then_normal ?_
  refine at_regq [{},{},{},{},{},{ nw:=true }] { ts:=[2,3],os:=[1,2] } [I64 (x0.2.1+1)] gamOK hT h (by kernel_rfl) ⟨⟨by first | omega | (simp only [lsA];omega) | (simp<;>omega),by first | omega | (simp only [lsA];omega) | (simp<;>omega)⟩,trivial⟩ fun a w h=>then_normal (wp_seq ?_)
  refine at_regq [] { ts:=[2],os:=[1,2] } [] gamOK hT h (by kernel_rfl) trivial fun a w h=>then_normal (wp_ret ?_)
  have hr2:(((x0.1,(x0.2.1+1,(lcgF x0.2.2))),(and255 (and255 (xorF (lcgF x0.2.2))+x0.1.getD x0.2.1.toNat 0))):T63×Int)=byteC x0:=by (unfold byteC;rw [if_pos h1])
  exact at_returnB (B:=B_spec_l1Byte) (c0:=x0) (x:=(())) ((x0.1,(x0.2.1+1,(lcgF x0.2.2)))) ((and255 (and255 (xorF (lcgF x0.2.2))+x0.1.getD x0.2.1.toNat 0)),()) [(Value.pointer (some ⟨b0,0,none⟩))=(Value.pointer (some ⟨b0,0,none⟩))] h (by kernel_rfl) ⟨rfl,trivial⟩ (congrArg (a₁:=((x0.1,(x0.2.1+1,(lcgF x0.2.2))),(and255 (and255 (xorF (lcgF x0.2.2))+x0.1.getD x0.2.1.toNat 0)))) (a₂:=byteC x0) (fun (z:T63×Int)=>z.1) hr2) (congrArg (a₁:=((x0.1,(x0.2.1+1,(lcgF x0.2.2))),(and255 (and255 (xorF (lcgF x0.2.2))+x0.1.getD x0.2.1.toNat 0)))) (a₂:=byteC x0) (fun (z:T63×Int)=>(z.2,())) hr2)
 ·replace h1 : ¬ (x0.2.1 < ((List.length x0.1 : Nat) : Int)) := of_decide_eq_false h1
  refine wp_skip (then_normal (wp_seq ?_))
  refine at_regq [] { ts:=[2],os:=[1,2] } [] gamOK hT h (by kernel_rfl) trivial fun a w h=>then_normal (wp_ret ?_)
  have hr3:(((x0.1,(x0.2.1,(lcgF x0.2.2))),(and255 (xorF (lcgF x0.2.2)))):T63×Int)=byteC x0:=by (unfold byteC;rw [if_neg h1])
  exact at_returnB (B:=B_spec_l1Byte) (c0:=x0) (x:=(())) ((x0.1,(x0.2.1,(lcgF x0.2.2)))) ((and255 (xorF (lcgF x0.2.2))),()) [(Value.pointer (some ⟨b0,0,none⟩))=(Value.pointer (some ⟨b0,0,none⟩))] h (by kernel_rfl) ⟨rfl,trivial⟩ (congrArg (a₁:=((x0.1,(x0.2.1,(lcgF x0.2.2))),(and255 (xorF (lcgF x0.2.2))))) (a₂:=byteC x0) (fun (z:T63×Int)=>z.1) hr3) (congrArg (a₁:=((x0.1,(x0.2.1,(lcgF x0.2.2))),(and255 (xorF (lcgF x0.2.2))))) (a₂:=byteC x0) (fun (z:T63×Int)=>(z.2,())) hr3)
theorem byte_bd (x:T63):0≤(byteC x).2∧(byteC x).2≤255:=by
 unfold byteC;split<;>exact and255_bd _
theorem byte_ok {x:T63} (h:0≤x.2.1):0≤(byteC x).1.2.1:=by
 unfold byteC;split
 ·show (0:Int)≤x.2.1+1;omega
 ·exact h

@[irreducible]
def belowC (x0:T63) (x1:Int):T63×Int:=(if x1≤0 then (x0,0) else (if x1≤256 then ((byteC x0).1,(Int.tmod (byteC x0).2 x1)) else ((byteC (byteC (byteC x0).1).1).1,(Int.tmod ((((byteC x0).2*65536)+((byteC (byteC x0).1).2*256))+(byteC (byteC (byteC x0).1).1).2) x1))))
abbrev Q_spec_l1Below:=(fun (x0:T63) (x1:Int)=>0≤x0.2.1)
def B_spec_l1Below:BS:={ t:=63,s:=s63,dom:=[(.int 3)],cod:=[(.int 3)],pre:=fun y x=>Q_spec_l1Below y x.1,upd:=fun y x=>(belowC y x.1).1,g:=fun y x=>((belowC y x.1).2,()) }
def S_spec_l1Below:Sum:=bSum 16 B_spec_l1Below
def S_spec_l1Below_tab:List (Nat×Sum):=[(32,S_spec_l1Byte)]
theorem S_spec_l1Below_ok:FnOK Try.prog 16 S_spec_l1Below:=by
 refine at_enterB (B:=B_spec_l1Below) 31 (fun v y x=>⟨[(0,aP 1 0),(1,aI x.1)],[(1,oX 63 [.ro (.u8 5) y.1,cI y.2.1,cI y.2.2]),(2,oP 1 v)]⟩) Try.func16 rfl (by kernel_rfl) (fun v y x=>rfl) ?_
 rintro w0 Z0 b0 x0 ⟨x1,u⟩ a w
 revert x0 x1
 intro (x0:T63) (x1:Int) hpre hlens0 hlens h
 replace h:At w0 Z0 [b0] 31 ⟨[(0,aP 1 0),(1,aI x1)],[(1,oX 63 [.ro (.u8 5) x0.1,cI x0.2.1,cI x0.2.2]),(2,oP 1 (Value.pointer (some ⟨b0,0,none⟩)))]⟩ a w:=h
 replace hpre:Q_spec_l1Below x0 x1:=hpre
 have hl1:List.length x0.1≤9223372036854775807:=hlens0.1.1
 have hu0:u8L x0.1:=hlens0.1.2
 have hT:TabOK Try.prog w0 [b0] S_spec_l1Below_tab:=(.cons S_spec_l1Byte_ok .nil)
 have hb1:=byte_ok hpre
 have hb2:=byte_ok hb1
 have hb3:=byte_ok hb2
 have hd1:=byte_bd x0
 have hd2:=byte_bd (byteC x0).1
 have hd3:=byte_bd (byteC (byteC x0).1).1
 refine wp_seq ?_
 refine at_regq [] { ts:=[0,1,4],os:=[1,2] } [] gamOK hT h (by kernel_rfl) trivial fun a w h=>then_normal (wp_seq (wp_seq ?_))
 refine at_regq [] { ts:=[0,1,4,9],os:=[1,2] } [] gamOK hT h (by kernel_rfl) trivial fun a w h=>then_normal ?_
 refine at_test (decide (x1≤0)) h (by kernel_rfl) (fun h1=>?_) (fun h1=>?_)
 ·replace h1 : x1 ≤ 0 := of_decide_eq_true h1
  refine wp_seq ?_
  refine at_regq [] { ts:=[0,1,4],os:=[1,2] } [] gamOK hT h (by kernel_rfl) trivial fun a w h=>then_normal (wp_ret (then_ret ?_))
  have hr2:((x0,0):T63×Int)=belowC x0 x1:=by (unfold belowC;rw [if_pos h1])
  exact at_returnB (B:=B_spec_l1Below) (c0:=x0) (x:=(x1,())) (x0) (0,()) [(Value.pointer (some ⟨b0,0,none⟩))=(Value.pointer (some ⟨b0,0,none⟩))] h (by kernel_rfl) ⟨rfl,trivial⟩ (congrArg (a₁:=(x0,0)) (a₂:=belowC x0 x1) (fun (z:T63×Int)=>z.1) hr2) (congrArg (a₁:=(x0,0)) (a₂:=belowC x0 x1) (fun (z:T63×Int)=>(z.2,())) hr2)
 ·replace h1 : ¬ (x1 ≤ 0) := of_decide_eq_false h1
  refine wp_skip (then_normal (wp_seq (wp_seq ?_)))
  refine at_regq [] { ts:=[0,1,4,11],os:=[1,2] } [] gamOK hT h (by kernel_rfl) trivial fun a w h=>then_normal ?_
  refine at_test (decide (x1≤256)) h (by kernel_rfl) (fun h3=>?_) (fun h3=>?_)
  ·replace h3 : x1 ≤ 256 := of_decide_eq_true h3
   refine wp_seq ?_
   refine at_regq [] { ts:=[0,1,4],os:=[1,2] } [B_spec_l1Byte.pre x0 (()),(x1:Int)≠0] gamOK hT h (by kernel_rfl) ⟨(by first | exact hpre | exact hb1 | exact hb2 | exact hb3),(by first | omega | (simp only [lsA];omega) | (simp<;>omega)),trivial⟩ fun a w h=>then_normal (wp_ret (then_ret ?_))
   have hr4:(((byteC x0).1,(Int.tmod (byteC x0).2 x1)):T63×Int)=belowC x0 x1:=by (unfold belowC;rw [if_neg h1,if_pos h3])
   exact at_returnB (B:=B_spec_l1Below) (c0:=x0) (x:=(x1,())) ((byteC x0).1) ((Int.tmod (byteC x0).2 x1),()) [(Value.pointer (some ⟨b0,0,none⟩))=(Value.pointer (some ⟨b0,0,none⟩))] h (by kernel_rfl) ⟨rfl,trivial⟩ (congrArg (a₁:=((byteC x0).1,(Int.tmod (byteC x0).2 x1))) (a₂:=belowC x0 x1) (fun (z:T63×Int)=>z.1) hr4) (congrArg (a₁:=((byteC x0).1,(Int.tmod (byteC x0).2 x1))) (a₂:=belowC x0 x1) (fun (z:T63×Int)=>(z.2,())) hr4)
  ·replace h3 : ¬ (x1 ≤ 256) := of_decide_eq_false h3
   refine wp_skip (then_normal (wp_seq ?_))
   refine at_regq [] { ts:=[0,1,4,5],os:=[1,2] } [B_spec_l1Byte.pre x0 (())] gamOK hT h (by kernel_rfl) ⟨(by first | exact hpre | exact hb1 | exact hb2 | exact hb3),trivial⟩ fun a w h=>then_normal (wp_seq ?_)
   refine at_regq [] { ts:=[0,1,4,5,6],os:=[1,2] } [B_spec_l1Byte.pre (byteC x0).1 (())] gamOK hT h (by kernel_rfl) ⟨(by first | exact hpre | exact hb1 | exact hb2 | exact hb3),trivial⟩ fun a w h=>then_normal (wp_seq ?_)
   refine at_regq [] { ts:=[1,4,5,6,7],os:=[1,2] } [B_spec_l1Byte.pre (byteC (byteC x0).1).1 (())] gamOK hT h (by kernel_rfl) ⟨(by first | exact hpre | exact hb1 | exact hb2 | exact hb3),trivial⟩ fun a w h=>then_normal (wp_seq ?_)
   refine at_regq [{},{ nw:=true },{},{ nw:=true },{ nw:=true },{},{ nw:=true }] { ts:=[4],os:=[1,2] } [I64 ((byteC x0).2*65536),I64 ((byteC (byteC x0).1).2*256),I64 (((byteC x0).2*65536)+((byteC (byteC x0).1).2*256)),I64 ((((byteC x0).2*65536)+((byteC (byteC x0).1).2*256))+(byteC (byteC (byteC x0).1).1).2),(x1:Int)≠0] gamOK hT h (by kernel_rfl) ⟨⟨by first | omega | (simp only [lsA];omega) | (simp<;>omega),by first | omega | (simp only [lsA];omega) | (simp<;>omega)⟩,⟨by first | omega | (simp only [lsA];omega) | (simp<;>omega),by first | omega | (simp only [lsA];omega) | (simp<;>omega)⟩,⟨by first | omega | (simp only [lsA];omega) | (simp<;>omega),by first | omega | (simp only [lsA];omega) | (simp<;>omega)⟩,⟨by first | omega | (simp only [lsA];omega) | (simp<;>omega),by first | omega | (simp only [lsA];omega) | (simp<;>omega)⟩,(by first | omega | (simp only [lsA];omega) | (simp<;>omega)),trivial⟩ fun a w h=>then_normal (wp_ret ?_)
   have hr5:(((byteC (byteC (byteC x0).1).1).1,(Int.tmod ((((byteC x0).2*65536)+((byteC (byteC x0).1).2*256))+(byteC (byteC (byteC x0).1).1).2) x1)):T63×Int)=belowC x0 x1:=by (unfold belowC;rw [if_neg h1,if_neg h3])
   exact at_returnB (B:=B_spec_l1Below) (c0:=x0) (x:=(x1,())) ((byteC (byteC (byteC x0).1).1).1) ((Int.tmod ((((byteC x0).2*65536)+((byteC (byteC x0).1).2*256))+(byteC (byteC (byteC x0).1).1).2) x1),()) [(Value.pointer (some ⟨b0,0,none⟩))=(Value.pointer (some ⟨b0,0,none⟩))] h (by kernel_rfl) ⟨rfl,trivial⟩ (congrArg (a₁:=((byteC (byteC (byteC x0).1).1).1,(Int.tmod ((((byteC x0).2*65536)+((byteC (byteC x0).1).2*256))+(byteC (byteC (byteC x0).1).1).2) x1))) (a₂:=belowC x0 x1) (fun (z:T63×Int)=>z.1) hr5) (congrArg (a₁:=((byteC (byteC (byteC x0).1).1).1,(Int.tmod ((((byteC x0).2*65536)+((byteC (byteC x0).1).2*256))+(byteC (byteC (byteC x0).1).1).2) x1))) (a₂:=belowC x0 x1) (fun (z:T63×Int)=>(z.2,())) hr5)
theorem below_ok {x:T63} {n:Int} (h:0≤x.2.1):0≤(belowC x n).1.2.1:=by
 unfold belowC
 split
 ·exact h
 ·split
  ·exact byte_ok h
  ·exact byte_ok (byte_ok (byte_ok h))
theorem below_bd (x:T63) {n:Int} (h:0 < n):0≤(belowC x n).2∧(belowC x n).2 < n:=by
 unfold belowC
 rw [if_neg (by omega)]
 have hd1:=byte_bd x;have hd2:=byte_bd (byteC x).1;have hd3:=byte_bd (byteC (byteC x).1).1
 split
 ·exact LA.tmod_lt hd1.1 h
 ·exact LA.tmod_lt (by first | omega | (dsimp only;omega)) h

def onceC (x0:T63) (x1:Int):T63×Bool:=((belowC x0 x1).1,decide ((belowC x0 x1).2=0))
abbrev Q_spec_l1Once:=(fun (x0:T63) (x1:Int)=>0≤x0.2.1)
def B_spec_l1Once:BS:={ t:=63,s:=s63,dom:=[(.int 3)],cod:=[(.bool 4)],pre:=fun y x=>Q_spec_l1Once y x.1,upd:=fun y x=>(onceC y x.1).1,g:=fun y x=>((onceC y x.1).2,()) }
def S_spec_l1Once:Sum:=bSum 15 B_spec_l1Once
def S_spec_l1Once_tab:List (Nat×Sum):=[(16,S_spec_l1Below)]
theorem S_spec_l1Once_ok:FnOK Try.prog 15 S_spec_l1Once:=by
 refine at_enterB (B:=B_spec_l1Once) 9 (fun v y x=>⟨[(0,aP 1 0),(1,aI x.1)],[(1,oX 63 [.ro (.u8 5) y.1,cI y.2.1,cI y.2.2]),(2,oP 1 v)]⟩) Try.func15 rfl (by kernel_rfl) (fun v y x=>rfl) ?_
 rintro w0 Z0 b0 x0 ⟨x1,u⟩ a w
 revert x0 x1
 intro (x0:T63) (x1:Int) hpre hlens0 hlens h
 replace h:At w0 Z0 [b0] 9 ⟨[(0,aP 1 0),(1,aI x1)],[(1,oX 63 [.ro (.u8 5) x0.1,cI x0.2.1,cI x0.2.2]),(2,oP 1 (Value.pointer (some ⟨b0,0,none⟩)))]⟩ a w:=h
 replace hpre:Q_spec_l1Once x0 x1:=hpre
 have hl1:List.length x0.1≤9223372036854775807:=hlens0.1.1
 have hu0:u8L x0.1:=hlens0.1.2
 have hT:TabOK Try.prog w0 [b0] S_spec_l1Once_tab:=(.cons S_spec_l1Below_ok .nil)
 refine wp_seq ?_
 refine at_regq [] { ts:=[0,1,4],os:=[1,2] } [] gamOK hT h (by kernel_rfl) trivial fun a w h=>then_normal (wp_seq ?_)
 refine at_regq [] { ts:=[4],os:=[1,2] } [B_spec_l1Below.pre x0 (x1,())] gamOK hT h (by kernel_rfl) ⟨(by exact hpre),trivial⟩ fun a w h=>then_normal (wp_ret ?_)
 have hr1:(((belowC x0 x1).1,decide ((belowC x0 x1).2=0)):T63×Bool)=onceC x0 x1:=by rfl
 exact at_returnB (B:=B_spec_l1Once) (c0:=x0) (x:=(x1,())) ((belowC x0 x1).1) (decide ((belowC x0 x1).2=0),()) [(Value.pointer (some ⟨b0,0,none⟩))=(Value.pointer (some ⟨b0,0,none⟩))] h (by kernel_rfl) ⟨rfl,trivial⟩ (congrArg (a₁:=((belowC x0 x1).1,decide ((belowC x0 x1).2=0))) (a₂:=onceC x0 x1) (fun (z:T63×Bool)=>z.1) hr1) (congrArg (a₁:=((belowC x0 x1).1,decide ((belowC x0 x1).2=0))) (a₂:=onceC x0 x1) (fun (z:T63×Bool)=>(z.2,())) hr1)
theorem once_ok {x:T63} {n:Int} (h:0≤x.2.1):0≤(onceC x n).1.2.1:=below_ok h

def bigF (x0:(List Int)):Bool:=decide (((List.length x0:Nat):Int) > 1048576)
def S_laws_big:Sum:={ fid:=4,dom:=[s22],cod:=[(.bool 4)],dp:=true,fz:=false,pre:=fun x=>True,g:=fun x=>((bigF x.1),()) }
def S_laws_big_tab:List (Nat×Sum):=[]
theorem S_laws_big_ok:FnOK Try.prog 4 S_laws_big:=by
 refine at_enter 6 (fun x=>⟨[(0,aF (.u8 5) x.1)],[]⟩) Try.func4 rfl (by kernel_rfl) (fun x=>rfl) ?_
 rintro w0 Z0 ⟨x0,u⟩ a w
 revert x0
 intro (x0:(List Int)) hpre hlens h
 have hl1:List.length x0≤9223372036854775807:=hlens.1.1
 have hu0:u8L x0:=hlens.1.2
 have hT:TabOK Try.prog w0 [] S_laws_big_tab:=.nil
 refine wp_seq ?_
 refine at_regq [] { ts:=[0,2],os:=[] } [] gamOK hT h (by kernel_rfl) trivial fun a w h=>then_normal (wp_seq ?_)
 refine at_regq [] { ts:=[2],os:=[] } [] gamOK hT h (by kernel_rfl) trivial fun a w h=>then_normal (wp_ret ?_)
 exact at_return (decide (((List.length x0:Nat):Int) > 1048576),()) [] h (by kernel_rfl) trivial (congrArg (fun z=>(z,())) (show (decide (((List.length x0:Nat):Int) > 1048576))=bigF x0 from by rfl))
theorem big_f {x:List Int} (h:bigF x=false):List.length x≤1048576:=by
 have:=of_decide_eq_false h;omega

def edS (ac:Bool) (a b:Int) (q:T63×List T58):T63×List T58 :=
 if a=b∨(ac=true∧b < a)∨20≤q.2.length then q else if (onceC q.1 2).2=true then ((belowC (onceC q.1 2).1 3).1,q.2++[(a,b,1+(belowC (onceC q.1 2).1 3).2)]) else ((onceC q.1 2).1,q.2)
def edIt (ac:Bool) (a:Int) (q:T63×List T58):Nat→T63×List T58
 | 0=>q
 | b+1=>edS ac a (b:Int) (edIt ac a q b)
theorem ed_0 {ac:Bool} {a:Int} {q:T63×List T58} {b:Nat} (h:a=(b:Int)∨(ac=true∧(b:Int) < a)∨20≤(edIt ac a q b).2.length):edIt ac a q (b+1)=edIt ac a q b:=if_pos h
theorem ed_1 {ac:Bool} {a:Int} {q:T63×List T58} {b:Nat} (h1:¬ a=(b:Int)) (h2:ac=false∨¬ (b:Int) < a) (h3:¬ 20≤(edIt ac a q b).2.length) (h:(onceC (edIt ac a q b).1 2).2=true):edIt ac a q (b+1)=((belowC (onceC (edIt ac a q b).1 2).1 3).1,(edIt ac a q b).2++[(a,(b:Int),1+(belowC (onceC (edIt ac a q b).1 2).1 3).2)]):=by
 show edS ac a (b:Int) (edIt ac a q b)=_
 unfold edS
 rw [if_neg,if_pos h]
 rintro (h' | h' | h')
 ·exact h1 h'
 ·rcases h2 with h2 | h2
  ·rw [h2] at h';cases h'.1
  ·exact h2 h'.2
 ·exact h3 h'
theorem ed_2 {ac:Bool} {a:Int} {q:T63×List T58} {b:Nat} (h1:¬ a=(b:Int)) (h2:ac=false∨¬ (b:Int) < a) (h3:¬ 20≤(edIt ac a q b).2.length) (h:(onceC (edIt ac a q b).1 2).2=false):edIt ac a q (b+1)=((onceC (edIt ac a q b).1 2).1,(edIt ac a q b).2):=by
 show edS ac a (b:Int) (edIt ac a q b)=_
 unfold edS
 rw [if_neg,if_neg (by rw [h];decide)]
 rintro (h' | h' | h')
 ·exact h1 h'
 ·rcases h2 with h2 | h2
  ·rw [h2] at h';cases h'.1
  ·exact h2 h'.2
 ·exact h3 h'
theorem edIt_inv {ac:Bool} {a:Int} {q:T63×List T58} (hx:0≤q.1.2.1) (hl:q.2.length≤20):∀ b,0≤(edIt ac a q b).1.2.1∧(edIt ac a q b).2.length≤20
 | 0=>⟨hx,hl⟩
 | b + 1 => by
  obtain ⟨h1,h2⟩:=edIt_inv (ac:=ac) (a:=a) hx hl b
  show 0≤(edS ac a (b:Int) (edIt ac a q b)).1.2.1∧_
  have e:edIt ac a q (b+1)=edS ac a (b:Int) (edIt ac a q b):=rfl
  rw [e]
  unfold edS
  split
  ·exact ⟨h1,h2⟩
  ·split
   ·exact ⟨below_ok (once_ok h1),by simp;omega⟩
   ·exact ⟨once_ok h1,h2⟩
def grIt (ac:Bool) (n:Nat) (x:T63):Nat→T63×List T58
 | 0=>(x,[])
 | a+1=>edIt ac (a:Int) (grIt ac n x a) n
theorem grIt_inv {ac:Bool} {n:Nat} {x:T63} (hx:0≤x.2.1):∀ a,0≤(grIt ac n x a).1.2.1∧(grIt ac n x a).2.length≤20
 | 0=>⟨hx,by show 0≤20;omega⟩
 | a+1=>edIt_inv (grIt_inv hx a).1 (grIt_inv hx a).2 n
def graD (x0:T63) (x1:Bool):T63×T26:=((grIt x1 (2+(belowC x0 5).2).toNat (belowC x0 5).1 (2+(belowC x0 5).2).toNat).1,(2+(belowC x0 5).2,(grIt x1 (2+(belowC x0 5).2).toNat (belowC x0 5).1 (2+(belowC x0 5).2).toNat).2))
abbrev Q_spec_l21Graph:=(fun (x0:T63) (x1:Bool)=>0≤x0.2.1)
def B_spec_l21Graph:BS:={ t:=63,s:=s63,dom:=[(.bool 4)],cod:=[s26],pre:=fun y x=>Q_spec_l21Graph y x.1,upd:=fun y x=>(graD y x.1).1,g:=fun y x=>((graD y x.1).2,()) }
def S_spec_l21Graph:Sum:=bSum 14 B_spec_l21Graph
def S_spec_l21Graph_tab:List (Nat×Sum):=[(16,S_spec_l1Below),(15,S_spec_l1Once)]
theorem S_spec_l21Graph_ok:FnOK Try.prog 14 S_spec_l21Graph:=by
 refine at_enterB (B:=B_spec_l21Graph) 58 (fun v y x=>⟨[(0,aP 1 0),(1,aB x.1)],[(1,oX 63 [.ro (.u8 5) y.1,cI y.2.1,cI y.2.2]),(2,oP 1 v)]⟩) Try.func14 rfl (by kernel_rfl) (fun v y x=>rfl) ?_
 rintro w0 Z0 b0 x0 ⟨x1,u⟩ a w
 revert x0 x1
 intro (x0:T63) (x1:Bool) hpre hlens0 hlens h
 replace h:At w0 Z0 [b0] 58 ⟨[(0,aP 1 0),(1,aB x1)],[(1,oX 63 [.ro (.u8 5) x0.1,cI x0.2.1,cI x0.2.2]),(2,oP 1 (Value.pointer (some ⟨b0,0,none⟩)))]⟩ a w:=h
 replace hpre:Q_spec_l21Graph x0 x1:=hpre
 have hl1:List.length x0.1≤9223372036854775807:=hlens0.1.1
 have hu0:u8L x0.1:=hlens0.1.2
 have hT:TabOK Try.prog w0 [b0] S_spec_l21Graph_tab:=(.cons S_spec_l1Below_ok (.cons S_spec_l1Once_ok .nil))
 have hb:=below_bd x0 (n:=5) (by decide)
 have hc:=below_ok (n:=5) hpre
 refine wp_seq ?_
 refine at_regq [{ ids:=[3] }] { ts:=[0,1,4],os:=[1,2,3] } [] gamOK hT h (by kernel_rfl) trivial fun a w h=>then_normal (wp_seq ?_)
 refine at_regq [{},{},{ nw:=true },{},{ ids:=[4] }] { ts:=[0,1,4,5],os:=[1,2,3,4] } [B_spec_l1Below.pre x0 (5,()),I64 (2+(belowC x0 5).2)] gamOK hT h (by kernel_rfl) ⟨(by exact hpre),⟨by first | omega | (simp only [lsA];omega) | (simp<;>omega),by first | omega | (simp only [lsA];omega) | (simp<;>omega)⟩,trivial⟩ fun a w h=>then_normal (wp_seq (wp_seq ?_))
 refine at_regq [] { ts:=[0,1,4,5,6],os:=[1,2,3,4] } [] gamOK hT h (by kernel_rfl) trivial fun a w h=>then_normal (wp_block ?_)
 replace h:=at_out (σ':=⟨[(0,aP 1 0),(1,aB x1),(4,aP 3 0),(5,aP 4 0),(6,aI 0)],[(1,oX 63 [.ro (.u8 5) (belowC x0 5).1.1,cI (belowC x0 5).1.2.1,cI (belowC x0 5).1.2.2]),(2,oP 1 (Value.pointer (some ⟨b0,0,none⟩))),(3,oX 26 [cI 0,cN]),(4,oX 26 [cI (2+(belowC x0 5).2),.sl 5]),(5,oR s58 ([]:List T58))]⟩) { mt:=[⟨some 4,1,5,true,s58⟩],ts:=[0,1,4,5,6],os:=[1,2,3,4,5] } h (by kernel_rfl)
 refine at_loop (fun i:Nat=>(⟨[(0,aP 1 0),(1,aB x1),(4,aP 3 0),(5,aP 4 0),(6,aI ((i:Nat):Int))],[(1,oX 63 [.ro (.u8 5) (grIt x1 (2+(belowC x0 5).2).toNat (belowC x0 5).1 i).1.1,cI (grIt x1 (2+(belowC x0 5).2).toNat (belowC x0 5).1 i).1.2.1,cI (grIt x1 (2+(belowC x0 5).2).toNat (belowC x0 5).1 i).1.2.2]),(2,oP 1 (Value.pointer (some ⟨b0,0,none⟩))),(3,oX 26 [cI 0,cN]),(4,oX 26 [cI (2+(belowC x0 5).2),.sl 5]),(5,oR s58 (grIt x1 (2+(belowC x0 5).2).toNat (belowC x0 5).1 i).2)]⟩:St)) (fun i=>((i:Nat):Int)≤(2+(belowC x0 5).2)) (fun i=>(2+(belowC x0 5).2).toNat - i) (0) h (st_congr5 (fun (d0:List Int) (d1:Int) (d2:Int) (d3:List T58) (d4:Int)=>(⟨[(0,aP 1 0),(1,aB x1),(4,aP 3 0),(5,aP 4 0),(6,aI d4)],[(1,oX 63 [.ro (.u8 5) d0,cI d1,cI d2]),(2,oP 1 (Value.pointer (some ⟨b0,0,none⟩))),(3,oX 26 [cI 0,cN]),(4,oX 26 [cI (2+(belowC x0 5).2),.sl 5]),(5,oR s58 d3)]⟩:St)) (show ((belowC x0 5).1.1:List Int)=(grIt x1 (2+(belowC x0 5).2).toNat (belowC x0 5).1 (0)).1.1 from by first | with_reducible rfl | (first | rfl | omega) | rfl) (show ((belowC x0 5).1.2.1:Int)=(grIt x1 (2+(belowC x0 5).2).toNat (belowC x0 5).1 (0)).1.2.1 from by first | with_reducible rfl | (first | rfl | omega) | rfl) (show ((belowC x0 5).1.2.2:Int)=(grIt x1 (2+(belowC x0 5).2).toNat (belowC x0 5).1 (0)).1.2.2 from by first | with_reducible rfl | (first | rfl | omega) | rfl) (show (([]:List T58):List T58)=(grIt x1 (2+(belowC x0 5).2).toNat (belowC x0 5).1 (0)).2 from by first | with_reducible rfl | (first | rfl | omega) | rfl) (show (0:Int)=(((0):Nat):Int) from by first | with_reducible rfl | (first | rfl | omega) | rfl)) (by omega) ?_
 intro i a w hok0 h
 have hgi:=grIt_inv (ac:=x1) (n:=(2+(belowC x0 5).2).toNat) hc i
 have hgl:=hgi.2
 refine wp_seq (wp_seq ?_)
 refine at_regq [] { ts:=[0,1,4,5,6,15],os:=[1,2,3,4,5] } [] gamOK hT h (by kernel_rfl) trivial fun a w h=>then_normal ?_
 refine at_test (decide (((i:Nat):Int) < 2+(belowC x0 5).2)) h (by kernel_rfl) (fun h1=>?_) (fun h1=>?_)
 ·replace h1 : ((i : Nat) : Int) < 2 + (belowC x0 5).2 := of_decide_eq_true h1
  refine wp_skip (then_normal (wp_seq (wp_block (wp_seq ?_))))
  refine at_regq [] { ts:=[0,1,4,5,6,7],os:=[1,2,3,4,5] } [] gamOK hT h (by kernel_rfl) trivial fun a w h=>then_normal (wp_block ?_)
  replace h:=at_out (σ':=⟨[(0,aP 1 0),(1,aB x1),(4,aP 3 0),(5,aP 4 0),(6,aI ((i:Nat):Int)),(7,aI 0)],[(1,oX 63 [.ro (.u8 5) (grIt x1 (2+(belowC x0 5).2).toNat (belowC x0 5).1 i).1.1,cI (grIt x1 (2+(belowC x0 5).2).toNat (belowC x0 5).1 i).1.2.1,cI (grIt x1 (2+(belowC x0 5).2).toNat (belowC x0 5).1 i).1.2.2]),(2,oP 1 (Value.pointer (some ⟨b0,0,none⟩))),(3,oX 26 [cI 0,cN]),(4,oX 26 [cI (2+(belowC x0 5).2),.sl 5]),(5,oR s58 (grIt x1 (2+(belowC x0 5).2).toNat (belowC x0 5).1 i).2)]⟩) { ts:=[0,1,4,5,6,7],os:=[1,2,3,4,5] } h (by kernel_rfl)
  refine at_loop (fun k:Nat=>(⟨[(0,aP 1 0),(1,aB x1),(4,aP 3 0),(5,aP 4 0),(6,aI ((i:Nat):Int)),(7,aI ((k:Nat):Int))],[(1,oX 63 [.ro (.u8 5) (edIt x1 ((i:Nat):Int) (grIt x1 (2+(belowC x0 5).2).toNat (belowC x0 5).1 i) k).1.1,cI (edIt x1 ((i:Nat):Int) (grIt x1 (2+(belowC x0 5).2).toNat (belowC x0 5).1 i) k).1.2.1,cI (edIt x1 ((i:Nat):Int) (grIt x1 (2+(belowC x0 5).2).toNat (belowC x0 5).1 i) k).1.2.2]),(2,oP 1 (Value.pointer (some ⟨b0,0,none⟩))),(3,oX 26 [cI 0,cN]),(4,oX 26 [cI (2+(belowC x0 5).2),.sl 5]),(5,oR s58 (edIt x1 ((i:Nat):Int) (grIt x1 (2+(belowC x0 5).2).toNat (belowC x0 5).1 i) k).2)]⟩:St)) (fun k=>((k:Nat):Int)≤(2+(belowC x0 5).2)) (fun k=>(2+(belowC x0 5).2).toNat - k) (0) h (st_congr5 (fun (d0:List Int) (d1:Int) (d2:Int) (d3:List T58) (d4:Int)=>(⟨[(0,aP 1 0),(1,aB x1),(4,aP 3 0),(5,aP 4 0),(6,aI ((i:Nat):Int)),(7,aI d4)],[(1,oX 63 [.ro (.u8 5) d0,cI d1,cI d2]),(2,oP 1 (Value.pointer (some ⟨b0,0,none⟩))),(3,oX 26 [cI 0,cN]),(4,oX 26 [cI (2+(belowC x0 5).2),.sl 5]),(5,oR s58 d3)]⟩:St)) (show ((grIt x1 (2+(belowC x0 5).2).toNat (belowC x0 5).1 i).1.1:List Int)=(edIt x1 ((i:Nat):Int) (grIt x1 (2+(belowC x0 5).2).toNat (belowC x0 5).1 i) (0)).1.1 from by first | with_reducible rfl | (first | rfl | omega) | rfl) (show ((grIt x1 (2+(belowC x0 5).2).toNat (belowC x0 5).1 i).1.2.1:Int)=(edIt x1 ((i:Nat):Int) (grIt x1 (2+(belowC x0 5).2).toNat (belowC x0 5).1 i) (0)).1.2.1 from by first | with_reducible rfl | (first | rfl | omega) | rfl) (show ((grIt x1 (2+(belowC x0 5).2).toNat (belowC x0 5).1 i).1.2.2:Int)=(edIt x1 ((i:Nat):Int) (grIt x1 (2+(belowC x0 5).2).toNat (belowC x0 5).1 i) (0)).1.2.2 from by first | with_reducible rfl | (first | rfl | omega) | rfl) (show ((grIt x1 (2+(belowC x0 5).2).toNat (belowC x0 5).1 i).2:List T58)=(edIt x1 ((i:Nat):Int) (grIt x1 (2+(belowC x0 5).2).toNat (belowC x0 5).1 i) (0)).2 from by first | with_reducible rfl | (first | rfl | omega) | rfl) (show (0:Int)=(((0):Nat):Int) from by first | with_reducible rfl | (first | rfl | omega) | rfl)) (by omega) ?_
  intro k a w hok1 h
  have hei:=edIt_inv (ac:=x1) (a:=((i:Nat):Int)) hgi.1 hgi.2 k
  have hel:=hei.2
  have hbb:=below_bd (onceC (edIt x1 ((i:Nat):Int) (grIt x1 (2+(belowC x0 5).2).toNat (belowC x0 5).1 i) k).1 2).1 (n:=3) (by decide)
  refine wp_seq (wp_seq ?_)
  refine at_regq [] { ts:=[0,1,4,5,6,7,21],os:=[1,2,3,4,5] } [] gamOK hT h (by kernel_rfl) trivial fun a w h=>then_normal ?_
  refine at_test (decide (((k:Nat):Int) < 2+(belowC x0 5).2)) h (by kernel_rfl) (fun h2=>?_) (fun h2=>?_)
  ·replace h2 : ((k : Nat) : Int) < 2 + (belowC x0 5).2 := of_decide_eq_true h2
   refine wp_skip (then_normal (wp_seq (wp_block (wp_seq (wp_seq ?_)))))
   by_cases h3:((i:Nat):Int)=((k:Nat):Int)
   ·refine at_regq [{}, {}, { hint := some (aB true) }] { ts := [0, 1, 4, 5, 6, 7, 28, 29, 30, 31, 32, 33, 36, 37, 38, 39, 42, 43, 44, 45], os := [1, 2, 3, 4, 5] } [(AV.p (.c (.v (.bool (decide (((i : Nat) : Int) = ((k : Nat) : Int)))))) = AV.p (.c (.v (.bool true))))] gamOK hT h (by kernel_rfl) ⟨hint_bool (decide_eq_true h3), trivial⟩ fun a w h => then_normal ?_
    refine at_test true h (by kernel_rfl) (fun hh=>?_) (fun hh=>nomatch hh)
    refine wp_exit (then_exit (in_hit (then_normal ?_)))
    refine at_regq [{},{ nw:=true }] { ts:=[0,1,4,5,6,7,28,29,30,31,32,33,36,37,38,39,42,43,44],os:=[1,2,3,4,5] } [I64 (((k:Nat):Int)+1)] gamOK hT h (by kernel_rfl) ⟨⟨by first | omega | (simp only [lsA];omega) | (simp<;>omega),by first | omega | (simp only [lsA];omega) | (simp<;>omega)⟩,trivial⟩ fun a w h=>?_
    replace h:=at_out (σ':=⟨[(0,aP 1 0),(1,aB x1),(4,aP 3 0),(5,aP 4 0),(6,aI ((i:Nat):Int)),(7,aI (((k:Nat):Int)+1))],[(1,oX 63 [.ro (.u8 5) (edIt x1 ((i:Nat):Int) (grIt x1 (2+(belowC x0 5).2).toNat (belowC x0 5).1 i) k).1.1,cI (edIt x1 ((i:Nat):Int) (grIt x1 (2+(belowC x0 5).2).toNat (belowC x0 5).1 i) k).1.2.1,cI (edIt x1 ((i:Nat):Int) (grIt x1 (2+(belowC x0 5).2).toNat (belowC x0 5).1 i) k).1.2.2]),(2,oP 1 (Value.pointer (some ⟨b0,0,none⟩))),(3,oX 26 [cI 0,cN]),(4,oX 26 [cI (2+(belowC x0 5).2),.sl 5]),(5,oR s58 (edIt x1 ((i:Nat):Int) (grIt x1 (2+(belowC x0 5).2).toNat (belowC x0 5).1 i) k).2)]⟩) { ts:=[0,1,4,5,6,7],os:=[1,2,3,4,5] } h (by kernel_rfl)
    exact ⟨k+1,at_eq h (st_congr5 (fun (d0:List Int) (d1:Int) (d2:Int) (d3:List T58) (d4:Int)=>(⟨[(0,aP 1 0),(1,aB x1),(4,aP 3 0),(5,aP 4 0),(6,aI ((i:Nat):Int)),(7,aI d4)],[(1,oX 63 [.ro (.u8 5) d0,cI d1,cI d2]),(2,oP 1 (Value.pointer (some ⟨b0,0,none⟩))),(3,oX 26 [cI 0,cN]),(4,oX 26 [cI (2+(belowC x0 5).2),.sl 5]),(5,oR s58 d3)]⟩:St)) (show ((edIt x1 ((i:Nat):Int) (grIt x1 (2+(belowC x0 5).2).toNat (belowC x0 5).1 i) k).1.1:List Int)=(edIt x1 ((i:Nat):Int) (grIt x1 (2+(belowC x0 5).2).toNat (belowC x0 5).1 i) (k+1)).1.1 from by first | with_reducible rfl | (first | (rw [ed_0 (by first | (left;omega) | (right;left;exact ⟨by assumption,by omega⟩) | (right;right;omega))];done) | (rw [ed_1 (by omega) (by first | (left;assumption) | (right;omega)) (by omega) (by assumption)];done) | (rw [ed_2 (by omega) (by first | (left;assumption) | (right;omega)) (by omega) (by assumption)];done)) | rfl) (show ((edIt x1 ((i:Nat):Int) (grIt x1 (2+(belowC x0 5).2).toNat (belowC x0 5).1 i) k).1.2.1:Int)=(edIt x1 ((i:Nat):Int) (grIt x1 (2+(belowC x0 5).2).toNat (belowC x0 5).1 i) (k+1)).1.2.1 from by first | with_reducible rfl | (first | (rw [ed_0 (by first | (left;omega) | (right;left;exact ⟨by assumption,by omega⟩) | (right;right;omega))];done) | (rw [ed_1 (by omega) (by first | (left;assumption) | (right;omega)) (by omega) (by assumption)];done) | (rw [ed_2 (by omega) (by first | (left;assumption) | (right;omega)) (by omega) (by assumption)];done)) | rfl) (show ((edIt x1 ((i:Nat):Int) (grIt x1 (2+(belowC x0 5).2).toNat (belowC x0 5).1 i) k).1.2.2:Int)=(edIt x1 ((i:Nat):Int) (grIt x1 (2+(belowC x0 5).2).toNat (belowC x0 5).1 i) (k+1)).1.2.2 from by first | with_reducible rfl | (first | (rw [ed_0 (by first | (left;omega) | (right;left;exact ⟨by assumption,by omega⟩) | (right;right;omega))];done) | (rw [ed_1 (by omega) (by first | (left;assumption) | (right;omega)) (by omega) (by assumption)];done) | (rw [ed_2 (by omega) (by first | (left;assumption) | (right;omega)) (by omega) (by assumption)];done)) | rfl) (show ((edIt x1 ((i:Nat):Int) (grIt x1 (2+(belowC x0 5).2).toNat (belowC x0 5).1 i) k).2:List T58)=(edIt x1 ((i:Nat):Int) (grIt x1 (2+(belowC x0 5).2).toNat (belowC x0 5).1 i) (k+1)).2 from by first | with_reducible rfl | (first | (rw [ed_0 (by first | (left;omega) | (right;left;exact ⟨by assumption,by omega⟩) | (right;right;omega))];done) | (rw [ed_1 (by omega) (by first | (left;assumption) | (right;omega)) (by omega) (by assumption)];done) | (rw [ed_2 (by omega) (by first | (left;assumption) | (right;omega)) (by omega) (by assumption)];done)) | rfl) (show (((k:Nat):Int)+1:Int)=(((k+1):Nat):Int) from by first | with_reducible rfl | (omega) | rfl)),(by omega),(by omega)⟩
   ·rcases Bool.eq_false_or_eq_true (x1) with h4 | h4
    ·by_cases h5 : ((k : Nat) : Int) < ((i : Nat) : Int)
     ·refine at_regq [{}, {}, { hint := some (aB false) }, {}, { hint := some (aB true) }, {}, {}, {}, { hint := some (aB true) }] { ts := [0, 1, 4, 5, 6, 7, 28, 29, 30, 31, 32, 33, 36, 37, 38, 39, 42, 43, 44, 45], os := [1, 2, 3, 4, 5] } [(AV.p (.c (.v (.bool (decide (((i : Nat) : Int) = ((k : Nat) : Int)))))) = AV.p (.c (.v (.bool false)))), (AV.p (.c (.v (.bool (x1)))) = AV.p (.c (.v (.bool true)))), (AV.p (.c (.v (.bool (decide (((k : Nat) : Int) < ((i : Nat) : Int)))))) = AV.p (.c (.v (.bool true))))] gamOK hT h (by kernel_rfl) ⟨hint_bool (decide_eq_false h3), hint_bool (h4), hint_bool (decide_eq_true h5), trivial⟩ fun a w h => then_normal ?_
      refine at_test true h (by kernel_rfl) (fun hh=>?_) (fun hh=>nomatch hh)
      refine wp_exit (then_exit (in_hit (then_normal ?_)))
      refine at_regq [{},{ nw:=true }] { ts:=[0,1,4,5,6,7,28,29,30,31,32,33,36,37,38,39,42,43,44],os:=[1,2,3,4,5] } [I64 (((k:Nat):Int)+1)] gamOK hT h (by kernel_rfl) ⟨⟨by first | omega | (simp only [lsA];omega) | (simp<;>omega),by first | omega | (simp only [lsA];omega) | (simp<;>omega)⟩,trivial⟩ fun a w h=>?_
      replace h:=at_out (σ':=⟨[(0,aP 1 0),(1,aB x1),(4,aP 3 0),(5,aP 4 0),(6,aI ((i:Nat):Int)),(7,aI (((k:Nat):Int)+1))],[(1,oX 63 [.ro (.u8 5) (edIt x1 ((i:Nat):Int) (grIt x1 (2+(belowC x0 5).2).toNat (belowC x0 5).1 i) k).1.1,cI (edIt x1 ((i:Nat):Int) (grIt x1 (2+(belowC x0 5).2).toNat (belowC x0 5).1 i) k).1.2.1,cI (edIt x1 ((i:Nat):Int) (grIt x1 (2+(belowC x0 5).2).toNat (belowC x0 5).1 i) k).1.2.2]),(2,oP 1 (Value.pointer (some ⟨b0,0,none⟩))),(3,oX 26 [cI 0,cN]),(4,oX 26 [cI (2+(belowC x0 5).2),.sl 5]),(5,oR s58 (edIt x1 ((i:Nat):Int) (grIt x1 (2+(belowC x0 5).2).toNat (belowC x0 5).1 i) k).2)]⟩) { ts:=[0,1,4,5,6,7],os:=[1,2,3,4,5] } h (by kernel_rfl)
      exact ⟨k+1,at_eq h (st_congr5 (fun (d0:List Int) (d1:Int) (d2:Int) (d3:List T58) (d4:Int)=>(⟨[(0,aP 1 0),(1,aB x1),(4,aP 3 0),(5,aP 4 0),(6,aI ((i:Nat):Int)),(7,aI d4)],[(1,oX 63 [.ro (.u8 5) d0,cI d1,cI d2]),(2,oP 1 (Value.pointer (some ⟨b0,0,none⟩))),(3,oX 26 [cI 0,cN]),(4,oX 26 [cI (2+(belowC x0 5).2),.sl 5]),(5,oR s58 d3)]⟩:St)) (show ((edIt x1 ((i:Nat):Int) (grIt x1 (2+(belowC x0 5).2).toNat (belowC x0 5).1 i) k).1.1:List Int)=(edIt x1 ((i:Nat):Int) (grIt x1 (2+(belowC x0 5).2).toNat (belowC x0 5).1 i) (k+1)).1.1 from by first | with_reducible rfl | (first | (rw [ed_0 (by first | (left;omega) | (right;left;exact ⟨by assumption,by omega⟩) | (right;right;omega))];done) | (rw [ed_1 (by omega) (by first | (left;assumption) | (right;omega)) (by omega) (by assumption)];done) | (rw [ed_2 (by omega) (by first | (left;assumption) | (right;omega)) (by omega) (by assumption)];done)) | rfl) (show ((edIt x1 ((i:Nat):Int) (grIt x1 (2+(belowC x0 5).2).toNat (belowC x0 5).1 i) k).1.2.1:Int)=(edIt x1 ((i:Nat):Int) (grIt x1 (2+(belowC x0 5).2).toNat (belowC x0 5).1 i) (k+1)).1.2.1 from by first | with_reducible rfl | (first | (rw [ed_0 (by first | (left;omega) | (right;left;exact ⟨by assumption,by omega⟩) | (right;right;omega))];done) | (rw [ed_1 (by omega) (by first | (left;assumption) | (right;omega)) (by omega) (by assumption)];done) | (rw [ed_2 (by omega) (by first | (left;assumption) | (right;omega)) (by omega) (by assumption)];done)) | rfl) (show ((edIt x1 ((i:Nat):Int) (grIt x1 (2+(belowC x0 5).2).toNat (belowC x0 5).1 i) k).1.2.2:Int)=(edIt x1 ((i:Nat):Int) (grIt x1 (2+(belowC x0 5).2).toNat (belowC x0 5).1 i) (k+1)).1.2.2 from by first | with_reducible rfl | (first | (rw [ed_0 (by first | (left;omega) | (right;left;exact ⟨by assumption,by omega⟩) | (right;right;omega))];done) | (rw [ed_1 (by omega) (by first | (left;assumption) | (right;omega)) (by omega) (by assumption)];done) | (rw [ed_2 (by omega) (by first | (left;assumption) | (right;omega)) (by omega) (by assumption)];done)) | rfl) (show ((edIt x1 ((i:Nat):Int) (grIt x1 (2+(belowC x0 5).2).toNat (belowC x0 5).1 i) k).2:List T58)=(edIt x1 ((i:Nat):Int) (grIt x1 (2+(belowC x0 5).2).toNat (belowC x0 5).1 i) (k+1)).2 from by first | with_reducible rfl | (first | (rw [ed_0 (by first | (left;omega) | (right;left;exact ⟨by assumption,by omega⟩) | (right;right;omega))];done) | (rw [ed_1 (by omega) (by first | (left;assumption) | (right;omega)) (by omega) (by assumption)];done) | (rw [ed_2 (by omega) (by first | (left;assumption) | (right;omega)) (by omega) (by assumption)];done)) | rfl) (show (((k:Nat):Int)+1:Int)=(((k+1):Nat):Int) from by first | with_reducible rfl | (omega) | rfl)),(by omega),(by omega)⟩
     ·by_cases h6 : ((List.length (edIt x1 ((i : Nat) : Int) (grIt x1 (2 + (belowC x0 5).2).toNat (belowC x0 5).1 i) k).2 : Nat) : Int) ≥ 20
      ·refine at_regq [{}, {}, { hint := some (aB false) }, {}, { hint := some (aB true) }, {}, {}, {}, { hint := some (aB false) }, {}, {}, {}, {}, {}, {}, { hint := some (aB true) }] { ts := [0, 1, 4, 5, 6, 7, 28, 29, 30, 31, 32, 33, 36, 37, 38, 39, 42, 43, 44, 45], os := [1, 2, 3, 4, 5] } [(AV.p (.c (.v (.bool (decide (((i : Nat) : Int) = ((k : Nat) : Int)))))) = AV.p (.c (.v (.bool false)))), (AV.p (.c (.v (.bool (x1)))) = AV.p (.c (.v (.bool true)))), (AV.p (.c (.v (.bool (decide (((k : Nat) : Int) < ((i : Nat) : Int)))))) = AV.p (.c (.v (.bool false)))), (AV.p (.c (.v (.bool (decide (((List.length (edIt x1 ((i : Nat) : Int) (grIt x1 (2 + (belowC x0 5).2).toNat (belowC x0 5).1 i) k).2 : Nat) : Int) ≥ 20))))) = AV.p (.c (.v (.bool true))))] gamOK hT h (by kernel_rfl) ⟨hint_bool (decide_eq_false h3), hint_bool (h4), hint_bool (decide_eq_false h5), hint_bool (decide_eq_true h6), trivial⟩ fun a w h => then_normal ?_
       refine at_test true h (by kernel_rfl) (fun hh=>?_) (fun hh=>nomatch hh)
       refine wp_exit (then_exit (in_hit (then_normal ?_)))
       refine at_regq [{},{ nw:=true }] { ts:=[0,1,4,5,6,7,28,29,30,31,32,33,36,37,38,39,42,43,44],os:=[1,2,3,4,5] } [I64 (((k:Nat):Int)+1)] gamOK hT h (by kernel_rfl) ⟨⟨by first | omega | (simp only [lsA];omega) | (simp<;>omega),by first | omega | (simp only [lsA];omega) | (simp<;>omega)⟩,trivial⟩ fun a w h=>?_
       replace h:=at_out (σ':=⟨[(0,aP 1 0),(1,aB x1),(4,aP 3 0),(5,aP 4 0),(6,aI ((i:Nat):Int)),(7,aI (((k:Nat):Int)+1))],[(1,oX 63 [.ro (.u8 5) (edIt x1 ((i:Nat):Int) (grIt x1 (2+(belowC x0 5).2).toNat (belowC x0 5).1 i) k).1.1,cI (edIt x1 ((i:Nat):Int) (grIt x1 (2+(belowC x0 5).2).toNat (belowC x0 5).1 i) k).1.2.1,cI (edIt x1 ((i:Nat):Int) (grIt x1 (2+(belowC x0 5).2).toNat (belowC x0 5).1 i) k).1.2.2]),(2,oP 1 (Value.pointer (some ⟨b0,0,none⟩))),(3,oX 26 [cI 0,cN]),(4,oX 26 [cI (2+(belowC x0 5).2),.sl 5]),(5,oR s58 (edIt x1 ((i:Nat):Int) (grIt x1 (2+(belowC x0 5).2).toNat (belowC x0 5).1 i) k).2)]⟩) { ts:=[0,1,4,5,6,7],os:=[1,2,3,4,5] } h (by kernel_rfl)
       exact ⟨k+1,at_eq h (st_congr5 (fun (d0:List Int) (d1:Int) (d2:Int) (d3:List T58) (d4:Int)=>(⟨[(0,aP 1 0),(1,aB x1),(4,aP 3 0),(5,aP 4 0),(6,aI ((i:Nat):Int)),(7,aI d4)],[(1,oX 63 [.ro (.u8 5) d0,cI d1,cI d2]),(2,oP 1 (Value.pointer (some ⟨b0,0,none⟩))),(3,oX 26 [cI 0,cN]),(4,oX 26 [cI (2+(belowC x0 5).2),.sl 5]),(5,oR s58 d3)]⟩:St)) (show ((edIt x1 ((i:Nat):Int) (grIt x1 (2+(belowC x0 5).2).toNat (belowC x0 5).1 i) k).1.1:List Int)=(edIt x1 ((i:Nat):Int) (grIt x1 (2+(belowC x0 5).2).toNat (belowC x0 5).1 i) (k+1)).1.1 from by first | with_reducible rfl | (first | (rw [ed_0 (by first | (left;omega) | (right;left;exact ⟨by assumption,by omega⟩) | (right;right;omega))];done) | (rw [ed_1 (by omega) (by first | (left;assumption) | (right;omega)) (by omega) (by assumption)];done) | (rw [ed_2 (by omega) (by first | (left;assumption) | (right;omega)) (by omega) (by assumption)];done)) | rfl) (show ((edIt x1 ((i:Nat):Int) (grIt x1 (2+(belowC x0 5).2).toNat (belowC x0 5).1 i) k).1.2.1:Int)=(edIt x1 ((i:Nat):Int) (grIt x1 (2+(belowC x0 5).2).toNat (belowC x0 5).1 i) (k+1)).1.2.1 from by first | with_reducible rfl | (first | (rw [ed_0 (by first | (left;omega) | (right;left;exact ⟨by assumption,by omega⟩) | (right;right;omega))];done) | (rw [ed_1 (by omega) (by first | (left;assumption) | (right;omega)) (by omega) (by assumption)];done) | (rw [ed_2 (by omega) (by first | (left;assumption) | (right;omega)) (by omega) (by assumption)];done)) | rfl) (show ((edIt x1 ((i:Nat):Int) (grIt x1 (2+(belowC x0 5).2).toNat (belowC x0 5).1 i) k).1.2.2:Int)=(edIt x1 ((i:Nat):Int) (grIt x1 (2+(belowC x0 5).2).toNat (belowC x0 5).1 i) (k+1)).1.2.2 from by first | with_reducible rfl | (first | (rw [ed_0 (by first | (left;omega) | (right;left;exact ⟨by assumption,by omega⟩) | (right;right;omega))];done) | (rw [ed_1 (by omega) (by first | (left;assumption) | (right;omega)) (by omega) (by assumption)];done) | (rw [ed_2 (by omega) (by first | (left;assumption) | (right;omega)) (by omega) (by assumption)];done)) | rfl) (show ((edIt x1 ((i:Nat):Int) (grIt x1 (2+(belowC x0 5).2).toNat (belowC x0 5).1 i) k).2:List T58)=(edIt x1 ((i:Nat):Int) (grIt x1 (2+(belowC x0 5).2).toNat (belowC x0 5).1 i) (k+1)).2 from by first | with_reducible rfl | (first | (rw [ed_0 (by first | (left;omega) | (right;left;exact ⟨by assumption,by omega⟩) | (right;right;omega))];done) | (rw [ed_1 (by omega) (by first | (left;assumption) | (right;omega)) (by omega) (by assumption)];done) | (rw [ed_2 (by omega) (by first | (left;assumption) | (right;omega)) (by omega) (by assumption)];done)) | rfl) (show (((k:Nat):Int)+1:Int)=(((k+1):Nat):Int) from by first | with_reducible rfl | (omega) | rfl)),(by omega),(by omega)⟩
      ·refine at_regq [{}, {}, { hint := some (aB false) }, {}, { hint := some (aB true) }, {}, {}, {}, { hint := some (aB false) }, {}, {}, {}, {}, {}, {}, { hint := some (aB false) }] { ts := [0, 1, 4, 5, 6, 7, 28, 29, 30, 31, 32, 33, 36, 37, 38, 39, 42, 43, 44, 45], os := [1, 2, 3, 4, 5] } [(AV.p (.c (.v (.bool (decide (((i : Nat) : Int) = ((k : Nat) : Int)))))) = AV.p (.c (.v (.bool false)))), (AV.p (.c (.v (.bool (x1)))) = AV.p (.c (.v (.bool true)))), (AV.p (.c (.v (.bool (decide (((k : Nat) : Int) < ((i : Nat) : Int)))))) = AV.p (.c (.v (.bool false)))), (AV.p (.c (.v (.bool (decide (((List.length (edIt x1 ((i : Nat) : Int) (grIt x1 (2 + (belowC x0 5).2).toNat (belowC x0 5).1 i) k).2 : Nat) : Int) ≥ 20))))) = AV.p (.c (.v (.bool false)))), B_spec_l1Once.pre (edIt x1 ((i : Nat) : Int) (grIt x1 (2 + (belowC x0 5).2).toNat (belowC x0 5).1 i) k).1 (2, ())] gamOK hT h (by kernel_rfl) ⟨hint_bool (decide_eq_false h3), hint_bool (h4), hint_bool (decide_eq_false h5), hint_bool (decide_eq_false h6), (by exact hei.1), trivial⟩ fun a w h => then_normal ?_
       refine at_test (!(onceC (edIt x1 ((i:Nat):Int) (grIt x1 (2+(belowC x0 5).2).toNat (belowC x0 5).1 i) k).1 2).2) h (by kernel_rfl) (fun h7=>?_) (fun h7=>?_)
       ·replace h7 : (onceC (edIt x1 ((i : Nat) : Int) (grIt x1 (2 + (belowC x0 5).2).toNat (belowC x0 5).1 i) k).1 2).2 = false := notT h7
        refine wp_exit (then_exit (in_hit (then_normal ?_)))
        refine at_regq [{},{ nw:=true }] { ts:=[0,1,4,5,6,7,28,29,30,31,32,33,36,37,38,39,42,43,44],os:=[1,2,3,4,5] } [I64 (((k:Nat):Int)+1)] gamOK hT h (by kernel_rfl) ⟨⟨by first | omega | (simp only [lsA];omega) | (simp<;>omega),by first | omega | (simp only [lsA];omega) | (simp<;>omega)⟩,trivial⟩ fun a w h=>?_
        replace h:=at_out (σ':=⟨[(0,aP 1 0),(1,aB x1),(4,aP 3 0),(5,aP 4 0),(6,aI ((i:Nat):Int)),(7,aI (((k:Nat):Int)+1))],[(1,oX 63 [.ro (.u8 5) (onceC (edIt x1 ((i:Nat):Int) (grIt x1 (2+(belowC x0 5).2).toNat (belowC x0 5).1 i) k).1 2).1.1,cI (onceC (edIt x1 ((i:Nat):Int) (grIt x1 (2+(belowC x0 5).2).toNat (belowC x0 5).1 i) k).1 2).1.2.1,cI (onceC (edIt x1 ((i:Nat):Int) (grIt x1 (2+(belowC x0 5).2).toNat (belowC x0 5).1 i) k).1 2).1.2.2]),(2,oP 1 (Value.pointer (some ⟨b0,0,none⟩))),(3,oX 26 [cI 0,cN]),(4,oX 26 [cI (2+(belowC x0 5).2),.sl 5]),(5,oR s58 (edIt x1 ((i:Nat):Int) (grIt x1 (2+(belowC x0 5).2).toNat (belowC x0 5).1 i) k).2)]⟩) { ts:=[0,1,4,5,6,7],os:=[1,2,3,4,5] } h (by kernel_rfl)
        exact ⟨k+1,at_eq h (st_congr5 (fun (d0:List Int) (d1:Int) (d2:Int) (d3:List T58) (d4:Int)=>(⟨[(0,aP 1 0),(1,aB x1),(4,aP 3 0),(5,aP 4 0),(6,aI ((i:Nat):Int)),(7,aI d4)],[(1,oX 63 [.ro (.u8 5) d0,cI d1,cI d2]),(2,oP 1 (Value.pointer (some ⟨b0,0,none⟩))),(3,oX 26 [cI 0,cN]),(4,oX 26 [cI (2+(belowC x0 5).2),.sl 5]),(5,oR s58 d3)]⟩:St)) (show ((onceC (edIt x1 ((i:Nat):Int) (grIt x1 (2+(belowC x0 5).2).toNat (belowC x0 5).1 i) k).1 2).1.1:List Int)=(edIt x1 ((i:Nat):Int) (grIt x1 (2+(belowC x0 5).2).toNat (belowC x0 5).1 i) (k+1)).1.1 from by first | with_reducible rfl | (first | (rw [ed_0 (by first | (left;omega) | (right;left;exact ⟨by assumption,by omega⟩) | (right;right;omega))];done) | (rw [ed_1 (by omega) (by first | (left;assumption) | (right;omega)) (by omega) (by assumption)];done) | (rw [ed_2 (by omega) (by first | (left;assumption) | (right;omega)) (by omega) (by assumption)];done)) | rfl) (show ((onceC (edIt x1 ((i:Nat):Int) (grIt x1 (2+(belowC x0 5).2).toNat (belowC x0 5).1 i) k).1 2).1.2.1:Int)=(edIt x1 ((i:Nat):Int) (grIt x1 (2+(belowC x0 5).2).toNat (belowC x0 5).1 i) (k+1)).1.2.1 from by first | with_reducible rfl | (first | (rw [ed_0 (by first | (left;omega) | (right;left;exact ⟨by assumption,by omega⟩) | (right;right;omega))];done) | (rw [ed_1 (by omega) (by first | (left;assumption) | (right;omega)) (by omega) (by assumption)];done) | (rw [ed_2 (by omega) (by first | (left;assumption) | (right;omega)) (by omega) (by assumption)];done)) | rfl) (show ((onceC (edIt x1 ((i:Nat):Int) (grIt x1 (2+(belowC x0 5).2).toNat (belowC x0 5).1 i) k).1 2).1.2.2:Int)=(edIt x1 ((i:Nat):Int) (grIt x1 (2+(belowC x0 5).2).toNat (belowC x0 5).1 i) (k+1)).1.2.2 from by first | with_reducible rfl | (first | (rw [ed_0 (by first | (left;omega) | (right;left;exact ⟨by assumption,by omega⟩) | (right;right;omega))];done) | (rw [ed_1 (by omega) (by first | (left;assumption) | (right;omega)) (by omega) (by assumption)];done) | (rw [ed_2 (by omega) (by first | (left;assumption) | (right;omega)) (by omega) (by assumption)];done)) | rfl) (show ((edIt x1 ((i:Nat):Int) (grIt x1 (2+(belowC x0 5).2).toNat (belowC x0 5).1 i) k).2:List T58)=(edIt x1 ((i:Nat):Int) (grIt x1 (2+(belowC x0 5).2).toNat (belowC x0 5).1 i) (k+1)).2 from by first | with_reducible rfl | (first | (rw [ed_0 (by first | (left;omega) | (right;left;exact ⟨by assumption,by omega⟩) | (right;right;omega))];done) | (rw [ed_1 (by omega) (by first | (left;assumption) | (right;omega)) (by omega) (by assumption)];done) | (rw [ed_2 (by omega) (by first | (left;assumption) | (right;omega)) (by omega) (by assumption)];done)) | rfl) (show (((k:Nat):Int)+1:Int)=(((k+1):Nat):Int) from by first | with_reducible rfl | (omega) | rfl)),(by omega),(by omega)⟩
       ·replace h7 : (onceC (edIt x1 ((i : Nat) : Int) (grIt x1 (2 + (belowC x0 5).2).toNat (belowC x0 5).1 i) k).1 2).2 = true := notF h7
        refine wp_skip (then_normal ?_)
        refine at_anyq [{},{},{},{},{},{},{ nw:=true },{},{ ids:=[6] },{ ids:=[7] },{},{}] { ts:=[0,1,4,5,6,7,28,29,30,31,32,33,36,37,38,39,42,43,44],os:=[1,2,3,4,7] } [B_spec_l1Below.pre (onceC (edIt x1 ((i:Nat):Int) (grIt x1 (2+(belowC x0 5).2).toNat (belowC x0 5).1 i) k).1 2).1 (3,()),I64 (1+(belowC (onceC (edIt x1 ((i:Nat):Int) (grIt x1 (2+(belowC x0 5).2).toNat (belowC x0 5).1 i) k).1 2).1 3).2),(List.length (edIt x1 ((i:Nat):Int) (grIt x1 (2+(belowC x0 5).2).toNat (belowC x0 5).1 i) k).2+List.length ([(((i:Nat):Int),(((k:Nat):Int),1+(belowC (onceC (edIt x1 ((i:Nat):Int) (grIt x1 (2+(belowC x0 5).2).toNat (belowC x0 5).1 i) k).1 2).1 3).2))]))*24≤140737488355328] gamOK hT mixed h (by kernel_rfl) ⟨(by exact (once_ok hei.1)),⟨by first | omega | (simp only [lsA];omega) | (simp<;>omega),by first | omega | (simp only [lsA];omega) | (simp<;>omega)⟩,(by first | omega | (simp only [lsA];omega) | (simp<;>omega)),trivial⟩ fun a w h=>in_normal (then_normal ?_)
        refine at_regq [{},{ nw:=true }] { ts:=[0,1,4,5,6,7,28,29,30,31,32,33,36,37,38,39,42,43,44],os:=[1,2,3,4,7] } [I64 (((k:Nat):Int)+1)] gamOK hT h (by kernel_rfl) ⟨⟨by first | omega | (simp only [lsA];omega) | (simp<;>omega),by first | omega | (simp only [lsA];omega) | (simp<;>omega)⟩,trivial⟩ fun a w h=>?_
        replace h:=at_out (σ':=⟨[(0,aP 1 0),(1,aB x1),(4,aP 3 0),(5,aP 4 0),(6,aI ((i:Nat):Int)),(7,aI (((k:Nat):Int)+1))],[(1,oX 63 [.ro (.u8 5) (belowC (onceC (edIt x1 ((i:Nat):Int) (grIt x1 (2+(belowC x0 5).2).toNat (belowC x0 5).1 i) k).1 2).1 3).1.1,cI (belowC (onceC (edIt x1 ((i:Nat):Int) (grIt x1 (2+(belowC x0 5).2).toNat (belowC x0 5).1 i) k).1 2).1 3).1.2.1,cI (belowC (onceC (edIt x1 ((i:Nat):Int) (grIt x1 (2+(belowC x0 5).2).toNat (belowC x0 5).1 i) k).1 2).1 3).1.2.2]),(2,oP 1 (Value.pointer (some ⟨b0,0,none⟩))),(3,oX 26 [cI 0,cN]),(4,oX 26 [cI (2+(belowC x0 5).2),.sl 5]),(5,oR s58 ((edIt x1 ((i:Nat):Int) (grIt x1 (2+(belowC x0 5).2).toNat (belowC x0 5).1 i) k).2++([(((i:Nat):Int),(((k:Nat):Int),1+(belowC (onceC (edIt x1 ((i:Nat):Int) (grIt x1 (2+(belowC x0 5).2).toNat (belowC x0 5).1 i) k).1 2).1 3).2))])))]⟩) { ts:=[0,1,4,5,6,7],os:=[1,2,3,4,7],rn:=[(7,5)] } h (by kernel_rfl)
        exact ⟨k+1,at_eq h (st_congr5 (fun (d0:List Int) (d1:Int) (d2:Int) (d3:List T58) (d4:Int)=>(⟨[(0,aP 1 0),(1,aB x1),(4,aP 3 0),(5,aP 4 0),(6,aI ((i:Nat):Int)),(7,aI d4)],[(1,oX 63 [.ro (.u8 5) d0,cI d1,cI d2]),(2,oP 1 (Value.pointer (some ⟨b0,0,none⟩))),(3,oX 26 [cI 0,cN]),(4,oX 26 [cI (2+(belowC x0 5).2),.sl 5]),(5,oR s58 d3)]⟩:St)) (show ((belowC (onceC (edIt x1 ((i:Nat):Int) (grIt x1 (2+(belowC x0 5).2).toNat (belowC x0 5).1 i) k).1 2).1 3).1.1:List Int)=(edIt x1 ((i:Nat):Int) (grIt x1 (2+(belowC x0 5).2).toNat (belowC x0 5).1 i) (k+1)).1.1 from by first | with_reducible rfl | (first | (rw [ed_0 (by first | (left;omega) | (right;left;exact ⟨by assumption,by omega⟩) | (right;right;omega))];done) | (rw [ed_1 (by omega) (by first | (left;assumption) | (right;omega)) (by omega) (by assumption)];done) | (rw [ed_2 (by omega) (by first | (left;assumption) | (right;omega)) (by omega) (by assumption)];done)) | rfl) (show ((belowC (onceC (edIt x1 ((i:Nat):Int) (grIt x1 (2+(belowC x0 5).2).toNat (belowC x0 5).1 i) k).1 2).1 3).1.2.1:Int)=(edIt x1 ((i:Nat):Int) (grIt x1 (2+(belowC x0 5).2).toNat (belowC x0 5).1 i) (k+1)).1.2.1 from by first | with_reducible rfl | (first | (rw [ed_0 (by first | (left;omega) | (right;left;exact ⟨by assumption,by omega⟩) | (right;right;omega))];done) | (rw [ed_1 (by omega) (by first | (left;assumption) | (right;omega)) (by omega) (by assumption)];done) | (rw [ed_2 (by omega) (by first | (left;assumption) | (right;omega)) (by omega) (by assumption)];done)) | rfl) (show ((belowC (onceC (edIt x1 ((i:Nat):Int) (grIt x1 (2+(belowC x0 5).2).toNat (belowC x0 5).1 i) k).1 2).1 3).1.2.2:Int)=(edIt x1 ((i:Nat):Int) (grIt x1 (2+(belowC x0 5).2).toNat (belowC x0 5).1 i) (k+1)).1.2.2 from by first | with_reducible rfl | (first | (rw [ed_0 (by first | (left;omega) | (right;left;exact ⟨by assumption,by omega⟩) | (right;right;omega))];done) | (rw [ed_1 (by omega) (by first | (left;assumption) | (right;omega)) (by omega) (by assumption)];done) | (rw [ed_2 (by omega) (by first | (left;assumption) | (right;omega)) (by omega) (by assumption)];done)) | rfl) (show (((edIt x1 ((i:Nat):Int) (grIt x1 (2+(belowC x0 5).2).toNat (belowC x0 5).1 i) k).2++([(((i:Nat):Int),(((k:Nat):Int),1+(belowC (onceC (edIt x1 ((i:Nat):Int) (grIt x1 (2+(belowC x0 5).2).toNat (belowC x0 5).1 i) k).1 2).1 3).2))])):List T58)=(edIt x1 ((i:Nat):Int) (grIt x1 (2+(belowC x0 5).2).toNat (belowC x0 5).1 i) (k+1)).2 from by first | with_reducible rfl | (first | (rw [ed_0 (by first | (left;omega) | (right;left;exact ⟨by assumption,by omega⟩) | (right;right;omega))];done) | (rw [ed_1 (by omega) (by first | (left;assumption) | (right;omega)) (by omega) (by assumption)];done) | (rw [ed_2 (by omega) (by first | (left;assumption) | (right;omega)) (by omega) (by assumption)];done)) | rfl) (show (((k:Nat):Int)+1:Int)=(((k+1):Nat):Int) from by first | with_reducible rfl | (omega) | rfl)),(by omega),(by omega)⟩
    ·by_cases h8 : ((List.length (edIt x1 ((i : Nat) : Int) (grIt x1 (2 + (belowC x0 5).2).toNat (belowC x0 5).1 i) k).2 : Nat) : Int) ≥ 20
     ·refine at_regq [{}, {}, { hint := some (aB false) }, {}, { hint := some (aB false) }, {}, {}, {}, {}, {}, {}, {}, {}, {}, {}, { hint := some (aB true) }] { ts := [0, 1, 4, 5, 6, 7, 28, 29, 30, 31, 32, 33, 36, 37, 38, 39, 42, 43, 44, 45], os := [1, 2, 3, 4, 5] } [(AV.p (.c (.v (.bool (decide (((i : Nat) : Int) = ((k : Nat) : Int)))))) = AV.p (.c (.v (.bool false)))), (AV.p (.c (.v (.bool (x1)))) = AV.p (.c (.v (.bool false)))), (AV.p (.c (.v (.bool (decide (((List.length (edIt x1 ((i : Nat) : Int) (grIt x1 (2 + (belowC x0 5).2).toNat (belowC x0 5).1 i) k).2 : Nat) : Int) ≥ 20))))) = AV.p (.c (.v (.bool true))))] gamOK hT h (by kernel_rfl) ⟨hint_bool (decide_eq_false h3), hint_bool (h4), hint_bool (decide_eq_true h8), trivial⟩ fun a w h => then_normal ?_
      refine at_test true h (by kernel_rfl) (fun hh=>?_) (fun hh=>nomatch hh)
      refine wp_exit (then_exit (in_hit (then_normal ?_)))
      refine at_regq [{},{ nw:=true }] { ts:=[0,1,4,5,6,7,28,29,30,31,32,33,36,37,38,39,42,43,44],os:=[1,2,3,4,5] } [I64 (((k:Nat):Int)+1)] gamOK hT h (by kernel_rfl) ⟨⟨by first | omega | (simp only [lsA];omega) | (simp<;>omega),by first | omega | (simp only [lsA];omega) | (simp<;>omega)⟩,trivial⟩ fun a w h=>?_
      replace h:=at_out (σ':=⟨[(0,aP 1 0),(1,aB x1),(4,aP 3 0),(5,aP 4 0),(6,aI ((i:Nat):Int)),(7,aI (((k:Nat):Int)+1))],[(1,oX 63 [.ro (.u8 5) (edIt x1 ((i:Nat):Int) (grIt x1 (2+(belowC x0 5).2).toNat (belowC x0 5).1 i) k).1.1,cI (edIt x1 ((i:Nat):Int) (grIt x1 (2+(belowC x0 5).2).toNat (belowC x0 5).1 i) k).1.2.1,cI (edIt x1 ((i:Nat):Int) (grIt x1 (2+(belowC x0 5).2).toNat (belowC x0 5).1 i) k).1.2.2]),(2,oP 1 (Value.pointer (some ⟨b0,0,none⟩))),(3,oX 26 [cI 0,cN]),(4,oX 26 [cI (2+(belowC x0 5).2),.sl 5]),(5,oR s58 (edIt x1 ((i:Nat):Int) (grIt x1 (2+(belowC x0 5).2).toNat (belowC x0 5).1 i) k).2)]⟩) { ts:=[0,1,4,5,6,7],os:=[1,2,3,4,5] } h (by kernel_rfl)
      exact ⟨k+1,at_eq h (st_congr5 (fun (d0:List Int) (d1:Int) (d2:Int) (d3:List T58) (d4:Int)=>(⟨[(0,aP 1 0),(1,aB x1),(4,aP 3 0),(5,aP 4 0),(6,aI ((i:Nat):Int)),(7,aI d4)],[(1,oX 63 [.ro (.u8 5) d0,cI d1,cI d2]),(2,oP 1 (Value.pointer (some ⟨b0,0,none⟩))),(3,oX 26 [cI 0,cN]),(4,oX 26 [cI (2+(belowC x0 5).2),.sl 5]),(5,oR s58 d3)]⟩:St)) (show ((edIt x1 ((i:Nat):Int) (grIt x1 (2+(belowC x0 5).2).toNat (belowC x0 5).1 i) k).1.1:List Int)=(edIt x1 ((i:Nat):Int) (grIt x1 (2+(belowC x0 5).2).toNat (belowC x0 5).1 i) (k+1)).1.1 from by first | with_reducible rfl | (first | (rw [ed_0 (by first | (left;omega) | (right;left;exact ⟨by assumption,by omega⟩) | (right;right;omega))];done) | (rw [ed_1 (by omega) (by first | (left;assumption) | (right;omega)) (by omega) (by assumption)];done) | (rw [ed_2 (by omega) (by first | (left;assumption) | (right;omega)) (by omega) (by assumption)];done)) | rfl) (show ((edIt x1 ((i:Nat):Int) (grIt x1 (2+(belowC x0 5).2).toNat (belowC x0 5).1 i) k).1.2.1:Int)=(edIt x1 ((i:Nat):Int) (grIt x1 (2+(belowC x0 5).2).toNat (belowC x0 5).1 i) (k+1)).1.2.1 from by first | with_reducible rfl | (first | (rw [ed_0 (by first | (left;omega) | (right;left;exact ⟨by assumption,by omega⟩) | (right;right;omega))];done) | (rw [ed_1 (by omega) (by first | (left;assumption) | (right;omega)) (by omega) (by assumption)];done) | (rw [ed_2 (by omega) (by first | (left;assumption) | (right;omega)) (by omega) (by assumption)];done)) | rfl) (show ((edIt x1 ((i:Nat):Int) (grIt x1 (2+(belowC x0 5).2).toNat (belowC x0 5).1 i) k).1.2.2:Int)=(edIt x1 ((i:Nat):Int) (grIt x1 (2+(belowC x0 5).2).toNat (belowC x0 5).1 i) (k+1)).1.2.2 from by first | with_reducible rfl | (first | (rw [ed_0 (by first | (left;omega) | (right;left;exact ⟨by assumption,by omega⟩) | (right;right;omega))];done) | (rw [ed_1 (by omega) (by first | (left;assumption) | (right;omega)) (by omega) (by assumption)];done) | (rw [ed_2 (by omega) (by first | (left;assumption) | (right;omega)) (by omega) (by assumption)];done)) | rfl) (show ((edIt x1 ((i:Nat):Int) (grIt x1 (2+(belowC x0 5).2).toNat (belowC x0 5).1 i) k).2:List T58)=(edIt x1 ((i:Nat):Int) (grIt x1 (2+(belowC x0 5).2).toNat (belowC x0 5).1 i) (k+1)).2 from by first | with_reducible rfl | (first | (rw [ed_0 (by first | (left;omega) | (right;left;exact ⟨by assumption,by omega⟩) | (right;right;omega))];done) | (rw [ed_1 (by omega) (by first | (left;assumption) | (right;omega)) (by omega) (by assumption)];done) | (rw [ed_2 (by omega) (by first | (left;assumption) | (right;omega)) (by omega) (by assumption)];done)) | rfl) (show (((k:Nat):Int)+1:Int)=(((k+1):Nat):Int) from by first | with_reducible rfl | (omega) | rfl)),(by omega),(by omega)⟩
     ·refine at_regq [{}, {}, { hint := some (aB false) }, {}, { hint := some (aB false) }, {}, {}, {}, {}, {}, {}, {}, {}, {}, {}, { hint := some (aB false) }] { ts := [0, 1, 4, 5, 6, 7, 28, 29, 30, 31, 32, 33, 36, 37, 38, 39, 42, 43, 44, 45], os := [1, 2, 3, 4, 5] } [(AV.p (.c (.v (.bool (decide (((i : Nat) : Int) = ((k : Nat) : Int)))))) = AV.p (.c (.v (.bool false)))), (AV.p (.c (.v (.bool (x1)))) = AV.p (.c (.v (.bool false)))), (AV.p (.c (.v (.bool (decide (((List.length (edIt x1 ((i : Nat) : Int) (grIt x1 (2 + (belowC x0 5).2).toNat (belowC x0 5).1 i) k).2 : Nat) : Int) ≥ 20))))) = AV.p (.c (.v (.bool false)))), B_spec_l1Once.pre (edIt x1 ((i : Nat) : Int) (grIt x1 (2 + (belowC x0 5).2).toNat (belowC x0 5).1 i) k).1 (2, ())] gamOK hT h (by kernel_rfl) ⟨hint_bool (decide_eq_false h3), hint_bool (h4), hint_bool (decide_eq_false h8), (by exact hei.1), trivial⟩ fun a w h => then_normal ?_
      refine at_test (!(onceC (edIt x1 ((i:Nat):Int) (grIt x1 (2+(belowC x0 5).2).toNat (belowC x0 5).1 i) k).1 2).2) h (by kernel_rfl) (fun h9=>?_) (fun h9=>?_)
      ·replace h9 : (onceC (edIt x1 ((i : Nat) : Int) (grIt x1 (2 + (belowC x0 5).2).toNat (belowC x0 5).1 i) k).1 2).2 = false := notT h9
       refine wp_exit (then_exit (in_hit (then_normal ?_)))
       refine at_regq [{},{ nw:=true }] { ts:=[0,1,4,5,6,7,28,29,30,31,32,33,36,37,38,39,42,43,44],os:=[1,2,3,4,5] } [I64 (((k:Nat):Int)+1)] gamOK hT h (by kernel_rfl) ⟨⟨by first | omega | (simp only [lsA];omega) | (simp<;>omega),by first | omega | (simp only [lsA];omega) | (simp<;>omega)⟩,trivial⟩ fun a w h=>?_
       replace h:=at_out (σ':=⟨[(0,aP 1 0),(1,aB x1),(4,aP 3 0),(5,aP 4 0),(6,aI ((i:Nat):Int)),(7,aI (((k:Nat):Int)+1))],[(1,oX 63 [.ro (.u8 5) (onceC (edIt x1 ((i:Nat):Int) (grIt x1 (2+(belowC x0 5).2).toNat (belowC x0 5).1 i) k).1 2).1.1,cI (onceC (edIt x1 ((i:Nat):Int) (grIt x1 (2+(belowC x0 5).2).toNat (belowC x0 5).1 i) k).1 2).1.2.1,cI (onceC (edIt x1 ((i:Nat):Int) (grIt x1 (2+(belowC x0 5).2).toNat (belowC x0 5).1 i) k).1 2).1.2.2]),(2,oP 1 (Value.pointer (some ⟨b0,0,none⟩))),(3,oX 26 [cI 0,cN]),(4,oX 26 [cI (2+(belowC x0 5).2),.sl 5]),(5,oR s58 (edIt x1 ((i:Nat):Int) (grIt x1 (2+(belowC x0 5).2).toNat (belowC x0 5).1 i) k).2)]⟩) { ts:=[0,1,4,5,6,7],os:=[1,2,3,4,5] } h (by kernel_rfl)
       exact ⟨k+1,at_eq h (st_congr5 (fun (d0:List Int) (d1:Int) (d2:Int) (d3:List T58) (d4:Int)=>(⟨[(0,aP 1 0),(1,aB x1),(4,aP 3 0),(5,aP 4 0),(6,aI ((i:Nat):Int)),(7,aI d4)],[(1,oX 63 [.ro (.u8 5) d0,cI d1,cI d2]),(2,oP 1 (Value.pointer (some ⟨b0,0,none⟩))),(3,oX 26 [cI 0,cN]),(4,oX 26 [cI (2+(belowC x0 5).2),.sl 5]),(5,oR s58 d3)]⟩:St)) (show ((onceC (edIt x1 ((i:Nat):Int) (grIt x1 (2+(belowC x0 5).2).toNat (belowC x0 5).1 i) k).1 2).1.1:List Int)=(edIt x1 ((i:Nat):Int) (grIt x1 (2+(belowC x0 5).2).toNat (belowC x0 5).1 i) (k+1)).1.1 from by first | with_reducible rfl | (first | (rw [ed_0 (by first | (left;omega) | (right;left;exact ⟨by assumption,by omega⟩) | (right;right;omega))];done) | (rw [ed_1 (by omega) (by first | (left;assumption) | (right;omega)) (by omega) (by assumption)];done) | (rw [ed_2 (by omega) (by first | (left;assumption) | (right;omega)) (by omega) (by assumption)];done)) | rfl) (show ((onceC (edIt x1 ((i:Nat):Int) (grIt x1 (2+(belowC x0 5).2).toNat (belowC x0 5).1 i) k).1 2).1.2.1:Int)=(edIt x1 ((i:Nat):Int) (grIt x1 (2+(belowC x0 5).2).toNat (belowC x0 5).1 i) (k+1)).1.2.1 from by first | with_reducible rfl | (first | (rw [ed_0 (by first | (left;omega) | (right;left;exact ⟨by assumption,by omega⟩) | (right;right;omega))];done) | (rw [ed_1 (by omega) (by first | (left;assumption) | (right;omega)) (by omega) (by assumption)];done) | (rw [ed_2 (by omega) (by first | (left;assumption) | (right;omega)) (by omega) (by assumption)];done)) | rfl) (show ((onceC (edIt x1 ((i:Nat):Int) (grIt x1 (2+(belowC x0 5).2).toNat (belowC x0 5).1 i) k).1 2).1.2.2:Int)=(edIt x1 ((i:Nat):Int) (grIt x1 (2+(belowC x0 5).2).toNat (belowC x0 5).1 i) (k+1)).1.2.2 from by first | with_reducible rfl | (first | (rw [ed_0 (by first | (left;omega) | (right;left;exact ⟨by assumption,by omega⟩) | (right;right;omega))];done) | (rw [ed_1 (by omega) (by first | (left;assumption) | (right;omega)) (by omega) (by assumption)];done) | (rw [ed_2 (by omega) (by first | (left;assumption) | (right;omega)) (by omega) (by assumption)];done)) | rfl) (show ((edIt x1 ((i:Nat):Int) (grIt x1 (2+(belowC x0 5).2).toNat (belowC x0 5).1 i) k).2:List T58)=(edIt x1 ((i:Nat):Int) (grIt x1 (2+(belowC x0 5).2).toNat (belowC x0 5).1 i) (k+1)).2 from by first | with_reducible rfl | (first | (rw [ed_0 (by first | (left;omega) | (right;left;exact ⟨by assumption,by omega⟩) | (right;right;omega))];done) | (rw [ed_1 (by omega) (by first | (left;assumption) | (right;omega)) (by omega) (by assumption)];done) | (rw [ed_2 (by omega) (by first | (left;assumption) | (right;omega)) (by omega) (by assumption)];done)) | rfl) (show (((k:Nat):Int)+1:Int)=(((k+1):Nat):Int) from by first | with_reducible rfl | (omega) | rfl)),(by omega),(by omega)⟩
      ·replace h9 : (onceC (edIt x1 ((i : Nat) : Int) (grIt x1 (2 + (belowC x0 5).2).toNat (belowC x0 5).1 i) k).1 2).2 = true := notF h9
       refine wp_skip (then_normal ?_)
       refine at_anyq [{},{},{},{},{},{},{ nw:=true },{},{ ids:=[6] },{ ids:=[7] },{},{}] { ts:=[0,1,4,5,6,7,28,29,30,31,32,33,36,37,38,39,42,43,44],os:=[1,2,3,4,7] } [B_spec_l1Below.pre (onceC (edIt x1 ((i:Nat):Int) (grIt x1 (2+(belowC x0 5).2).toNat (belowC x0 5).1 i) k).1 2).1 (3,()),I64 (1+(belowC (onceC (edIt x1 ((i:Nat):Int) (grIt x1 (2+(belowC x0 5).2).toNat (belowC x0 5).1 i) k).1 2).1 3).2),(List.length (edIt x1 ((i:Nat):Int) (grIt x1 (2+(belowC x0 5).2).toNat (belowC x0 5).1 i) k).2+List.length ([(((i:Nat):Int),(((k:Nat):Int),1+(belowC (onceC (edIt x1 ((i:Nat):Int) (grIt x1 (2+(belowC x0 5).2).toNat (belowC x0 5).1 i) k).1 2).1 3).2))]))*24≤140737488355328] gamOK hT mixed h (by kernel_rfl) ⟨(by exact (once_ok hei.1)),⟨by first | omega | (simp only [lsA];omega) | (simp<;>omega),by first | omega | (simp only [lsA];omega) | (simp<;>omega)⟩,(by first | omega | (simp only [lsA];omega) | (simp<;>omega)),trivial⟩ fun a w h=>in_normal (then_normal ?_)
       refine at_regq [{},{ nw:=true }] { ts:=[0,1,4,5,6,7,28,29,30,31,32,33,36,37,38,39,42,43,44],os:=[1,2,3,4,7] } [I64 (((k:Nat):Int)+1)] gamOK hT h (by kernel_rfl) ⟨⟨by first | omega | (simp only [lsA];omega) | (simp<;>omega),by first | omega | (simp only [lsA];omega) | (simp<;>omega)⟩,trivial⟩ fun a w h=>?_
       replace h:=at_out (σ':=⟨[(0,aP 1 0),(1,aB x1),(4,aP 3 0),(5,aP 4 0),(6,aI ((i:Nat):Int)),(7,aI (((k:Nat):Int)+1))],[(1,oX 63 [.ro (.u8 5) (belowC (onceC (edIt x1 ((i:Nat):Int) (grIt x1 (2+(belowC x0 5).2).toNat (belowC x0 5).1 i) k).1 2).1 3).1.1,cI (belowC (onceC (edIt x1 ((i:Nat):Int) (grIt x1 (2+(belowC x0 5).2).toNat (belowC x0 5).1 i) k).1 2).1 3).1.2.1,cI (belowC (onceC (edIt x1 ((i:Nat):Int) (grIt x1 (2+(belowC x0 5).2).toNat (belowC x0 5).1 i) k).1 2).1 3).1.2.2]),(2,oP 1 (Value.pointer (some ⟨b0,0,none⟩))),(3,oX 26 [cI 0,cN]),(4,oX 26 [cI (2+(belowC x0 5).2),.sl 5]),(5,oR s58 ((edIt x1 ((i:Nat):Int) (grIt x1 (2+(belowC x0 5).2).toNat (belowC x0 5).1 i) k).2++([(((i:Nat):Int),(((k:Nat):Int),1+(belowC (onceC (edIt x1 ((i:Nat):Int) (grIt x1 (2+(belowC x0 5).2).toNat (belowC x0 5).1 i) k).1 2).1 3).2))])))]⟩) { ts:=[0,1,4,5,6,7],os:=[1,2,3,4,7],rn:=[(7,5)] } h (by kernel_rfl)
       exact ⟨k+1,at_eq h (st_congr5 (fun (d0:List Int) (d1:Int) (d2:Int) (d3:List T58) (d4:Int)=>(⟨[(0,aP 1 0),(1,aB x1),(4,aP 3 0),(5,aP 4 0),(6,aI ((i:Nat):Int)),(7,aI d4)],[(1,oX 63 [.ro (.u8 5) d0,cI d1,cI d2]),(2,oP 1 (Value.pointer (some ⟨b0,0,none⟩))),(3,oX 26 [cI 0,cN]),(4,oX 26 [cI (2+(belowC x0 5).2),.sl 5]),(5,oR s58 d3)]⟩:St)) (show ((belowC (onceC (edIt x1 ((i:Nat):Int) (grIt x1 (2+(belowC x0 5).2).toNat (belowC x0 5).1 i) k).1 2).1 3).1.1:List Int)=(edIt x1 ((i:Nat):Int) (grIt x1 (2+(belowC x0 5).2).toNat (belowC x0 5).1 i) (k+1)).1.1 from by first | with_reducible rfl | (first | (rw [ed_0 (by first | (left;omega) | (right;left;exact ⟨by assumption,by omega⟩) | (right;right;omega))];done) | (rw [ed_1 (by omega) (by first | (left;assumption) | (right;omega)) (by omega) (by assumption)];done) | (rw [ed_2 (by omega) (by first | (left;assumption) | (right;omega)) (by omega) (by assumption)];done)) | rfl) (show ((belowC (onceC (edIt x1 ((i:Nat):Int) (grIt x1 (2+(belowC x0 5).2).toNat (belowC x0 5).1 i) k).1 2).1 3).1.2.1:Int)=(edIt x1 ((i:Nat):Int) (grIt x1 (2+(belowC x0 5).2).toNat (belowC x0 5).1 i) (k+1)).1.2.1 from by first | with_reducible rfl | (first | (rw [ed_0 (by first | (left;omega) | (right;left;exact ⟨by assumption,by omega⟩) | (right;right;omega))];done) | (rw [ed_1 (by omega) (by first | (left;assumption) | (right;omega)) (by omega) (by assumption)];done) | (rw [ed_2 (by omega) (by first | (left;assumption) | (right;omega)) (by omega) (by assumption)];done)) | rfl) (show ((belowC (onceC (edIt x1 ((i:Nat):Int) (grIt x1 (2+(belowC x0 5).2).toNat (belowC x0 5).1 i) k).1 2).1 3).1.2.2:Int)=(edIt x1 ((i:Nat):Int) (grIt x1 (2+(belowC x0 5).2).toNat (belowC x0 5).1 i) (k+1)).1.2.2 from by first | with_reducible rfl | (first | (rw [ed_0 (by first | (left;omega) | (right;left;exact ⟨by assumption,by omega⟩) | (right;right;omega))];done) | (rw [ed_1 (by omega) (by first | (left;assumption) | (right;omega)) (by omega) (by assumption)];done) | (rw [ed_2 (by omega) (by first | (left;assumption) | (right;omega)) (by omega) (by assumption)];done)) | rfl) (show (((edIt x1 ((i:Nat):Int) (grIt x1 (2+(belowC x0 5).2).toNat (belowC x0 5).1 i) k).2++([(((i:Nat):Int),(((k:Nat):Int),1+(belowC (onceC (edIt x1 ((i:Nat):Int) (grIt x1 (2+(belowC x0 5).2).toNat (belowC x0 5).1 i) k).1 2).1 3).2))])):List T58)=(edIt x1 ((i:Nat):Int) (grIt x1 (2+(belowC x0 5).2).toNat (belowC x0 5).1 i) (k+1)).2 from by first | with_reducible rfl | (first | (rw [ed_0 (by first | (left;omega) | (right;left;exact ⟨by assumption,by omega⟩) | (right;right;omega))];done) | (rw [ed_1 (by omega) (by first | (left;assumption) | (right;omega)) (by omega) (by assumption)];done) | (rw [ed_2 (by omega) (by first | (left;assumption) | (right;omega)) (by omega) (by assumption)];done)) | rfl) (show (((k:Nat):Int)+1:Int)=(((k+1):Nat):Int) from by first | with_reducible rfl | (omega) | rfl)),(by omega),(by omega)⟩
  ·replace h2 : ¬ (((k : Nat) : Int) < 2 + (belowC x0 5).2) := of_decide_eq_false h2
   refine wp_exit (then_exit ?_)
   replace h:=at_out (σ':=⟨[(0,aP 1 0),(1,aB x1),(4,aP 3 0),(5,aP 4 0),(6,aI ((i:Nat):Int))],[(1,oX 63 [.ro (.u8 5) (edIt x1 ((i:Nat):Int) (grIt x1 (2+(belowC x0 5).2).toNat (belowC x0 5).1 i) k).1.1,cI (edIt x1 ((i:Nat):Int) (grIt x1 (2+(belowC x0 5).2).toNat (belowC x0 5).1 i) k).1.2.1,cI (edIt x1 ((i:Nat):Int) (grIt x1 (2+(belowC x0 5).2).toNat (belowC x0 5).1 i) k).1.2.2]),(2,oP 1 (Value.pointer (some ⟨b0,0,none⟩))),(3,oX 26 [cI 0,cN]),(4,oX 26 [cI (2+(belowC x0 5).2),.sl 5]),(5,oR s58 (edIt x1 ((i:Nat):Int) (grIt x1 (2+(belowC x0 5).2).toNat (belowC x0 5).1 i) k).2)]⟩) { ts:=[0,1,4,5,6],os:=[1,2,3,4,5] } h (by kernel_rfl)
   replace h:=at_eq (σ':=⟨[(0,aP 1 0),(1,aB x1),(4,aP 3 0),(5,aP 4 0),(6,aI ((i:Nat):Int))],[(1,oX 63 [.ro (.u8 5) (edIt x1 ((i:Nat):Int) (grIt x1 (2+(belowC x0 5).2).toNat (belowC x0 5).1 i) (2+(belowC x0 5).2).toNat).1.1,cI (edIt x1 ((i:Nat):Int) (grIt x1 (2+(belowC x0 5).2).toNat (belowC x0 5).1 i) (2+(belowC x0 5).2).toNat).1.2.1,cI (edIt x1 ((i:Nat):Int) (grIt x1 (2+(belowC x0 5).2).toNat (belowC x0 5).1 i) (2+(belowC x0 5).2).toNat).1.2.2]),(2,oP 1 (Value.pointer (some ⟨b0,0,none⟩))),(3,oX 26 [cI 0,cN]),(4,oX 26 [cI (2+(belowC x0 5).2),.sl 5]),(5,oR s58 (edIt x1 ((i:Nat):Int) (grIt x1 (2+(belowC x0 5).2).toNat (belowC x0 5).1 i) (2+(belowC x0 5).2).toNat).2)]⟩) h (st_congr4 (fun (d0:List Int) (d1:Int) (d2:Int) (d3:List T58)=>(⟨[(0,aP 1 0),(1,aB x1),(4,aP 3 0),(5,aP 4 0),(6,aI ((i:Nat):Int))],[(1,oX 63 [.ro (.u8 5) d0,cI d1,cI d2]),(2,oP 1 (Value.pointer (some ⟨b0,0,none⟩))),(3,oX 26 [cI 0,cN]),(4,oX 26 [cI (2+(belowC x0 5).2),.sl 5]),(5,oR s58 d3)]⟩:St)) (show ((edIt x1 ((i:Nat):Int) (grIt x1 (2+(belowC x0 5).2).toNat (belowC x0 5).1 i) k).1.1:List Int)=(edIt x1 ((i:Nat):Int) (grIt x1 (2+(belowC x0 5).2).toNat (belowC x0 5).1 i) (2+(belowC x0 5).2).toNat).1.1 from by first | with_reducible rfl | (rw [show (2+(belowC x0 5).2).toNat=k by omega]) | rfl) (show ((edIt x1 ((i:Nat):Int) (grIt x1 (2+(belowC x0 5).2).toNat (belowC x0 5).1 i) k).1.2.1:Int)=(edIt x1 ((i:Nat):Int) (grIt x1 (2+(belowC x0 5).2).toNat (belowC x0 5).1 i) (2+(belowC x0 5).2).toNat).1.2.1 from by first | with_reducible rfl | (rw [show (2+(belowC x0 5).2).toNat=k by omega]) | rfl) (show ((edIt x1 ((i:Nat):Int) (grIt x1 (2+(belowC x0 5).2).toNat (belowC x0 5).1 i) k).1.2.2:Int)=(edIt x1 ((i:Nat):Int) (grIt x1 (2+(belowC x0 5).2).toNat (belowC x0 5).1 i) (2+(belowC x0 5).2).toNat).1.2.2 from by first | with_reducible rfl | (rw [show (2+(belowC x0 5).2).toNat=k by omega]) | rfl) (show ((edIt x1 ((i:Nat):Int) (grIt x1 (2+(belowC x0 5).2).toNat (belowC x0 5).1 i) k).2:List T58)=(edIt x1 ((i:Nat):Int) (grIt x1 (2+(belowC x0 5).2).toNat (belowC x0 5).1 i) (2+(belowC x0 5).2).toNat).2 from by first | with_reducible rfl | (rw [show (2+(belowC x0 5).2).toNat=k by omega]) | rfl))
   refine then_exit (in_hit (in_normal (then_normal ?_)))
   refine at_regq [{},{ nw:=true }] { ts:=[0,1,4,5,6],os:=[1,2,3,4,5] } [I64 (((i:Nat):Int)+1)] gamOK hT h (by kernel_rfl) ⟨⟨by first | omega | (simp only [lsA];omega) | (simp<;>omega),by first | omega | (simp only [lsA];omega) | (simp<;>omega)⟩,trivial⟩ fun a w h=>?_
   replace h:=at_out (σ':=⟨[(0,aP 1 0),(1,aB x1),(4,aP 3 0),(5,aP 4 0),(6,aI (((i:Nat):Int)+1))],[(1,oX 63 [.ro (.u8 5) (edIt x1 ((i:Nat):Int) (grIt x1 (2+(belowC x0 5).2).toNat (belowC x0 5).1 i) (2+(belowC x0 5).2).toNat).1.1,cI (edIt x1 ((i:Nat):Int) (grIt x1 (2+(belowC x0 5).2).toNat (belowC x0 5).1 i) (2+(belowC x0 5).2).toNat).1.2.1,cI (edIt x1 ((i:Nat):Int) (grIt x1 (2+(belowC x0 5).2).toNat (belowC x0 5).1 i) (2+(belowC x0 5).2).toNat).1.2.2]),(2,oP 1 (Value.pointer (some ⟨b0,0,none⟩))),(3,oX 26 [cI 0,cN]),(4,oX 26 [cI (2+(belowC x0 5).2),.sl 5]),(5,oR s58 (edIt x1 ((i:Nat):Int) (grIt x1 (2+(belowC x0 5).2).toNat (belowC x0 5).1 i) (2+(belowC x0 5).2).toNat).2)]⟩) { ts:=[0,1,4,5,6],os:=[1,2,3,4,5] } h (by kernel_rfl)
   exact ⟨i+1,at_eq h (st_congr5 (fun (d0:List Int) (d1:Int) (d2:Int) (d3:List T58) (d4:Int)=>(⟨[(0,aP 1 0),(1,aB x1),(4,aP 3 0),(5,aP 4 0),(6,aI d4)],[(1,oX 63 [.ro (.u8 5) d0,cI d1,cI d2]),(2,oP 1 (Value.pointer (some ⟨b0,0,none⟩))),(3,oX 26 [cI 0,cN]),(4,oX 26 [cI (2+(belowC x0 5).2),.sl 5]),(5,oR s58 d3)]⟩:St)) (show ((edIt x1 ((i:Nat):Int) (grIt x1 (2+(belowC x0 5).2).toNat (belowC x0 5).1 i) (2+(belowC x0 5).2).toNat).1.1:List Int)=(grIt x1 (2+(belowC x0 5).2).toNat (belowC x0 5).1 (i+1)).1.1 from by first | with_reducible rfl | (rfl) | rfl) (show ((edIt x1 ((i:Nat):Int) (grIt x1 (2+(belowC x0 5).2).toNat (belowC x0 5).1 i) (2+(belowC x0 5).2).toNat).1.2.1:Int)=(grIt x1 (2+(belowC x0 5).2).toNat (belowC x0 5).1 (i+1)).1.2.1 from by first | with_reducible rfl | (rfl) | rfl) (show ((edIt x1 ((i:Nat):Int) (grIt x1 (2+(belowC x0 5).2).toNat (belowC x0 5).1 i) (2+(belowC x0 5).2).toNat).1.2.2:Int)=(grIt x1 (2+(belowC x0 5).2).toNat (belowC x0 5).1 (i+1)).1.2.2 from by first | with_reducible rfl | (rfl) | rfl) (show ((edIt x1 ((i:Nat):Int) (grIt x1 (2+(belowC x0 5).2).toNat (belowC x0 5).1 i) (2+(belowC x0 5).2).toNat).2:List T58)=(grIt x1 (2+(belowC x0 5).2).toNat (belowC x0 5).1 (i+1)).2 from by first | with_reducible rfl | (rfl) | rfl) (show (((i:Nat):Int)+1:Int)=(((i+1):Nat):Int) from by first | with_reducible rfl | (omega) | rfl)),(by omega),(by omega)⟩
 ·replace h1 : ¬ (((i : Nat) : Int) < 2 + (belowC x0 5).2) := of_decide_eq_false h1
  refine wp_exit (then_exit ?_)
  replace h:=at_out (σ':=⟨[(4,aP 3 0),(5,aP 4 0)],[(1,oX 63 [.ro (.u8 5) (grIt x1 (2+(belowC x0 5).2).toNat (belowC x0 5).1 i).1.1,cI (grIt x1 (2+(belowC x0 5).2).toNat (belowC x0 5).1 i).1.2.1,cI (grIt x1 (2+(belowC x0 5).2).toNat (belowC x0 5).1 i).1.2.2]),(2,oP 1 (Value.pointer (some ⟨b0,0,none⟩))),(3,oX 26 [cI 0,cN]),(4,oX 26 [cI (2+(belowC x0 5).2),.sl 5]),(5,oR s58 (grIt x1 (2+(belowC x0 5).2).toNat (belowC x0 5).1 i).2)]⟩) { ts:=[4,5],os:=[1,2,3,4,5] } h (by kernel_rfl)
  replace h:=at_eq (σ':=⟨[(4,aP 3 0),(5,aP 4 0)],[(1,oX 63 [.ro (.u8 5) (grIt x1 (2+(belowC x0 5).2).toNat (belowC x0 5).1 (2+(belowC x0 5).2).toNat).1.1,cI (grIt x1 (2+(belowC x0 5).2).toNat (belowC x0 5).1 (2+(belowC x0 5).2).toNat).1.2.1,cI (grIt x1 (2+(belowC x0 5).2).toNat (belowC x0 5).1 (2+(belowC x0 5).2).toNat).1.2.2]),(2,oP 1 (Value.pointer (some ⟨b0,0,none⟩))),(3,oX 26 [cI 0,cN]),(4,oX 26 [cI (2+(belowC x0 5).2),.sl 5]),(5,oR s58 (grIt x1 (2+(belowC x0 5).2).toNat (belowC x0 5).1 (2+(belowC x0 5).2).toNat).2)]⟩) h (st_congr4 (fun (d0:List Int) (d1:Int) (d2:Int) (d3:List T58)=>(⟨[(4,aP 3 0),(5,aP 4 0)],[(1,oX 63 [.ro (.u8 5) d0,cI d1,cI d2]),(2,oP 1 (Value.pointer (some ⟨b0,0,none⟩))),(3,oX 26 [cI 0,cN]),(4,oX 26 [cI (2+(belowC x0 5).2),.sl 5]),(5,oR s58 d3)]⟩:St)) (show ((grIt x1 (2+(belowC x0 5).2).toNat (belowC x0 5).1 i).1.1:List Int)=(grIt x1 (2+(belowC x0 5).2).toNat (belowC x0 5).1 (2+(belowC x0 5).2).toNat).1.1 from by first | with_reducible rfl | (rw [show (2+(belowC x0 5).2).toNat=i by omega]) | rfl) (show ((grIt x1 (2+(belowC x0 5).2).toNat (belowC x0 5).1 i).1.2.1:Int)=(grIt x1 (2+(belowC x0 5).2).toNat (belowC x0 5).1 (2+(belowC x0 5).2).toNat).1.2.1 from by first | with_reducible rfl | (rw [show (2+(belowC x0 5).2).toNat=i by omega]) | rfl) (show ((grIt x1 (2+(belowC x0 5).2).toNat (belowC x0 5).1 i).1.2.2:Int)=(grIt x1 (2+(belowC x0 5).2).toNat (belowC x0 5).1 (2+(belowC x0 5).2).toNat).1.2.2 from by first | with_reducible rfl | (rw [show (2+(belowC x0 5).2).toNat=i by omega]) | rfl) (show ((grIt x1 (2+(belowC x0 5).2).toNat (belowC x0 5).1 i).2:List T58)=(grIt x1 (2+(belowC x0 5).2).toNat (belowC x0 5).1 (2+(belowC x0 5).2).toNat).2 from by first | with_reducible rfl | (rw [show (2+(belowC x0 5).2).toNat=i by omega]) | rfl))
  refine then_exit (in_hit (then_normal (wp_seq ?_)))
  refine at_regq [] { ts:=[4],os:=[1,2,3,5] } [] gamOK hT h (by kernel_rfl) trivial fun a w h=>then_normal (wp_ret ?_)
  have hr10:(((grIt x1 (2+(belowC x0 5).2).toNat (belowC x0 5).1 (2+(belowC x0 5).2).toNat).1,(2+(belowC x0 5).2,(grIt x1 (2+(belowC x0 5).2).toNat (belowC x0 5).1 (2+(belowC x0 5).2).toNat).2)):T63×T26)=graD x0 x1:=by rfl
  exact at_returnB (B:=B_spec_l21Graph) (c0:=x0) (x:=(x1,())) ((grIt x1 (2+(belowC x0 5).2).toNat (belowC x0 5).1 (2+(belowC x0 5).2).toNat).1) ((2+(belowC x0 5).2,(grIt x1 (2+(belowC x0 5).2).toNat (belowC x0 5).1 (2+(belowC x0 5).2).toNat).2),()) [(Value.pointer (some ⟨b0,0,none⟩))=(Value.pointer (some ⟨b0,0,none⟩))] h (by kernel_rfl) ⟨rfl,trivial⟩ (congrArg (a₁:=((grIt x1 (2+(belowC x0 5).2).toNat (belowC x0 5).1 (2+(belowC x0 5).2).toNat).1,(2+(belowC x0 5).2,(grIt x1 (2+(belowC x0 5).2).toNat (belowC x0 5).1 (2+(belowC x0 5).2).toNat).2))) (a₂:=graD x0 x1) (fun (z:T63×T26)=>z.1) hr10) (congrArg (a₁:=((grIt x1 (2+(belowC x0 5).2).toNat (belowC x0 5).1 (2+(belowC x0 5).2).toNat).1,(2+(belowC x0 5).2,(grIt x1 (2+(belowC x0 5).2).toNat (belowC x0 5).1 (2+(belowC x0 5).2).toNat).2))) (a₂:=graD x0 x1) (fun (z:T63×T26)=>(z.2,())) hr10)
theorem graD_ok {x:T63} {ac:Bool} (h:0≤x.2.1):0≤(graD x ac).1.2.1∧((2≤(graD x ac).2.1∧(graD x ac).2.1≤6)∧List.length (graD x ac).2.2≤20):=by
 have hb:=below_bd x (n:=5) (by decide)
 have hi:=grIt_inv (ac:=ac) (n:=(2+(belowC x 5).2).toNat) (below_ok (n:=5) h) (2+(belowC x 5).2).toNat
 unfold graD
 exact ⟨hi.1,by dsimp only;omega,hi.2⟩

@[irreducible]
def drawGr (x0:(List Int)):T26×Int×Int:=((graD (onceC (newC x0) 2).1 (onceC (newC x0) 2).2).2,(belowC (graD (onceC (newC x0) 2).1 (onceC (newC x0) 2).2).1 (graD (onceC (newC x0) 2).1 (onceC (newC x0) 2).2).2.1).2,(belowC (belowC (graD (onceC (newC x0) 2).1 (onceC (newC x0) 2).2).1 (graD (onceC (newC x0) 2).1 (onceC (newC x0) 2).2).2.1).1 (graD (onceC (newC x0) 2).1 (onceC (newC x0) 2).2).2.1).2)
abbrev Q_spec_DrawGraph:=(fun (x0:(List Int))=>Sh.fit s22 x0)
def S_spec_DrawGraph:Sum:={ fid:=5,dom:=[s22],cod:=[s26,(.int 3),(.int 3)],dp:=true,fz:=false,pre:=fun x=>Q_spec_DrawGraph x.1,g:=fun x=>((drawGr x.1).1,((drawGr x.1).2.1,((drawGr x.1).2.2,()))) }
def S_spec_DrawGraph_tab:List (Nat×Sum):=[(13,S_spec_l1New),(15,S_spec_l1Once),(14,S_spec_l21Graph),(16,S_spec_l1Below)]
theorem S_spec_DrawGraph_ok:FnOK Try.prog 5 S_spec_DrawGraph:=by
 refine at_enter 24 (fun x=>⟨[(0,aF (.u8 5) x.1)],[]⟩) Try.func5 rfl (by kernel_rfl) (fun x=>rfl) ?_
 rintro w0 Z0 ⟨x0,u⟩ a w
 revert x0
 intro (x0:(List Int)) hpre hlens h
 replace hpre:Q_spec_DrawGraph x0:=hpre
 have hu0:u8L x0:=hlens.1.2
 have hT:TabOK Try.prog w0 [] S_spec_DrawGraph_tab:=(.cons S_spec_l1New_ok (.cons S_spec_l1Once_ok (.cons S_spec_l21Graph_ok (.cons S_spec_l1Below_ok .nil))))
 have hf0:Sh.fit s22 x0:=hpre
 have hn0_1:List.length x0≤1073741824:=hf0.1
 have hoc:=once_ok (x:=newC x0) (n:=2) (Int.le_refl 0)
 have hgo:=graD_ok (ac:=(onceC (newC x0) 2).2) hoc
 have hg1:=hgo.2.1
 refine wp_seq ?_
 refine at_regq [{ ids:=[1] }] { ts:=[0,2,3,4],os:=[1] } [] gamOK hT h (by kernel_rfl) trivial fun a w h=>then_normal (wp_seq ?_)
 refine at_regq [{},{ ids:=[2] }] { ts:=[2,3,4,5],os:=[1,2] } [B_spec_l1New.pre (x0,())] gamOK hT h (by kernel_rfl) ⟨(by exact hf0),trivial⟩ fun a w h=>then_normal (wp_seq ?_)
 refine at_regq [{},{},{},{ ids:=[3] },{ ids:=[4] }] { ts:=[2,3,4,5,6],os:=[1,2,3,4] } [B_spec_l1Once.pre (newC x0) (2,()),B_spec_l21Graph.pre (onceC (newC x0) 2).1 ((onceC (newC x0) 2).2,())] gamOK hT h (by kernel_rfl) ⟨(by first | exact Int.le_refl 0 | exact (Int.le_refl 0)),(by first | exact Int.le_refl 0 | exact (once_ok (Int.le_refl 0))),trivial⟩ fun a w h=>then_normal (wp_seq ?_)
 refine at_regq [] { ts:=[2,3,4,5,6,7],os:=[1,2,3,4] } [B_spec_l1Below.pre (graD (onceC (newC x0) 2).1 (onceC (newC x0) 2).2).1 ((graD (onceC (newC x0) 2).1 (onceC (newC x0) 2).2).2.1,())] gamOK hT h (by kernel_rfl) ⟨(by first | exact Int.le_refl 0 | exact (graD_ok (once_ok (Int.le_refl 0))).1),trivial⟩ fun a w h=>then_normal (wp_seq ?_)
 refine at_anyq [{},{},{},{},{},{},{},{},{}] { ts:=[2,3,4],os:=[1,3] } [B_spec_l1Below.pre (belowC (graD (onceC (newC x0) 2).1 (onceC (newC x0) 2).2).1 (graD (onceC (newC x0) 2).1 (onceC (newC x0) 2).2).2.1).1 ((graD (onceC (newC x0) 2).1 (onceC (newC x0) 2).2).2.1,())] gamOK hT mixed h (by kernel_rfl) ⟨(by first | exact Int.le_refl 0 | exact (below_ok (graD_ok (once_ok (Int.le_refl 0))).1)),trivial⟩ fun a w h=>then_normal (wp_ret ?_)
 exact at_return ((graD (onceC (newC x0) 2).1 (onceC (newC x0) 2).2).2,((belowC (graD (onceC (newC x0) 2).1 (onceC (newC x0) 2).2).1 (graD (onceC (newC x0) 2).1 (onceC (newC x0) 2).2).2.1).2,((belowC (belowC (graD (onceC (newC x0) 2).1 (onceC (newC x0) 2).2).1 (graD (onceC (newC x0) 2).1 (onceC (newC x0) 2).2).2.1).1 (graD (onceC (newC x0) 2).1 (onceC (newC x0) 2).2).2.1).2,()))) [] h (by kernel_rfl) trivial (congrArg (fun z=>(z.1,z.2.1,z.2.2,())) (show (((graD (onceC (newC x0) 2).1 (onceC (newC x0) 2).2).2,(belowC (graD (onceC (newC x0) 2).1 (onceC (newC x0) 2).2).1 (graD (onceC (newC x0) 2).1 (onceC (newC x0) 2).2).2.1).2,(belowC (belowC (graD (onceC (newC x0) 2).1 (onceC (newC x0) 2).2).1 (graD (onceC (newC x0) 2).1 (onceC (newC x0) 2).2).2.1).1 (graD (onceC (newC x0) 2).1 (onceC (newC x0) 2).2).2.1).2))=drawGr x0 from by (unfold drawGr;rfl)))
theorem drawGr_ok (x:List Int):(2≤(drawGr x).1.1∧(drawGr x).1.1≤6)∧List.length (drawGr x).1.2≤20:=by
 have hoc:=once_ok (x:=newC x) (n:=2) (Int.le_refl 0)
 have hgo:=graD_ok (ac:=(onceC (newC x) 2).2) hoc
 unfold drawGr
 exact hgo.2

theorem getD_app {α:Type} {xs ys:List α} {z:α} {j:Nat} (h:j < xs.length):(xs++ys).getD j z=xs.getD j z:=by rw [List.getD_eq_getElem?_getD,List.getElem?_append_left h,List.getD_eq_getElem?_getD]
theorem getD_end {α:Type} {xs:List α} {y z:α}:(xs++[y]).getD xs.length z=y:=by rw [List.getD_eq_getElem?_getD,List.getElem?_append_right (Nat.le_refl _)];simp
theorem midx_none {n:Int}:∀ {es:List (Int×Int)},midx es n=none→∀ p,p < es.length→(es.getD p (0,0)).1≠n
 | [],_,p,hp=>absurd hp (by simp)
 | q :: es, h, p, hp => by
  unfold midx at h
  by_cases hn:n=q.1
  ·rw [decide_eq_true hn,cond_true] at h;cases h
  ·rw [decide_eq_false hn, cond_false] at h
   have hm:midx es n=none:=by
    cases hm:midx es n with
    | none=>rfl
    | some k=>rw [hm] at h;cases h
   cases p with
   | zero=>exact fun e=>hn (by simpa using e.symm)
   | succ p=>have:=midx_none hm p (by simpa using hp);simpa using this
theorem mget_none {es:List (Int×Int)} {n:Int} (h:(mget es n).isSome=false):∀ p,p < es.length→(es.getD p (0,0)).1≠n:=midx_none (by
 unfold mget at h
 cases hm:midx es n with
 | none=>rfl
 | some k=>rw [hm] at h;cases h)
theorem mget_some {es:List (Int×Int)} {n:Int} (h:(mget es n).isSome=true):∃ p,p < es.length∧(es.getD p (0,0)).1=n∧mget es n=some (es.getD p (0,0)).2:=by
 unfold mget at h ⊢
 cases hm:midx es n with
 | none=>rw [hm] at h;cases h
 | some k=>exact ⟨k,(midx_some hm).1,(midx_some hm).2,rfl⟩
theorem mset_new {es:List (Int×Int)} {n v:Int} (h:(mget es n).isSome=false):mset es n v=es++[(n,v)]:=by
 unfold mset
 unfold mget at h
 cases hm:midx es n with
 | none=>rfl
 | some k=>rw [hm] at h;cases h
abbrev E3:=Int×Int×Int
abbrev edg (es:List E3) (k:Nat):E3:=es.getD k (0,0,0)
def fwS (es:List E3) (f:List Int) (a:Int) (tr:List (Int×Int)) (k:Nat):List (Int×Int) :=
 if ((edg es k).1=a∧f.getD k 0 < (edg es k).2.2)∧(mget tr (edg es k).2.1).isSome=false then tr++[((edg es k).2.1,(k:Int))] else tr
def bwS (es:List E3) (f:List Int) (a:Int) (tr:List (Int×Int)) (k:Nat):List (Int×Int) :=
 if ((edg es k).2.1=a∧0 < f.getD k 0)∧(mget tr (edg es k).1).isSome=false then tr++[((edg es k).1,((es.length:Nat):Int)+(k:Int))] else tr
def fwTo (es:List E3) (f:List Int) (a:Int) (tr:List (Int×Int)) (i:Nat):List (Int×Int):=(List.range i).foldl (fwS es f a) tr
def bwTo (es:List E3) (f:List Int) (a:Int) (tr:List (Int×Int)) (i:Nat):List (Int×Int):=(List.range i).foldl (bwS es f a) tr
theorem fwTo_succ (es:List E3) (f:List Int) (a:Int) (tr:List (Int×Int)) (i:Nat):fwTo es f a tr (i+1)=fwS es f a (fwTo es f a tr i) i:=by unfold fwTo;rw [List.range_succ,List.foldl_append];rfl
theorem bwTo_succ (es:List E3) (f:List Int) (a:Int) (tr:List (Int×Int)) (i:Nat):bwTo es f a tr (i+1)=bwS es f a (bwTo es f a tr i) i:=by unfold bwTo;rw [List.range_succ,List.foldl_append];rfl
def ndS (es:List E3) (f:List Int) (tr:List (Int×Int)) (a:Int):List (Int×Int):=bwTo es f a (fwTo es f a tr es.length) es.length
def srIt (es:List E3) (f:List Int) (s:Int):Nat→List (Int×Int)
 | 0=>[(s,-1)]
 | i+1=>if i < (srIt es f s i).length then ndS es f (srIt es f s i) ((srIt es f s i).getD i (0,0)).1 else srIt es f s i
@[irreducible]
def srch (es:List E3) (f:List Int) (s:Int):List (Int×Int):=srIt es f s 8
def Ent (es:List E3) (f:List Int) (tr:List (Int×Int)) (p:Nat):Prop :=
 (∃ k:Nat,(tr.getD p (0,0)).2=(k:Int)∧k < es.length∧(edg es k).2.1=(tr.getD p (0,0)).1∧f.getD k 0 < (edg es k).2.2∧∃ q,q < p∧(tr.getD q (0,0)).1=(edg es k).1) ∨
 (∃ k:Nat,(tr.getD p (0,0)).2=((es.length:Nat):Int)+(k:Int)∧k < es.length∧(edg es k).1=(tr.getD p (0,0)).1∧0 < f.getD k 0∧∃ q,q < p∧(tr.getD q (0,0)).1=(edg es k).2.1)
structure Good (es:List E3) (f:List Int) (sz s:Int) (tr:List (Int×Int)):Prop where
 h0:0 < tr.length∧tr.getD 0 (0,0)=(s,-1)
 nd:∀ p q,p < tr.length→q < tr.length→(tr.getD p (0,0)).1=(tr.getD q (0,0)).1→p=q
 rg:∀ p,p < tr.length→0≤(tr.getD p (0,0)).1∧(tr.getD p (0,0)).1 < sz
 ok:∀ p,0 < p→p < tr.length→Ent es f tr p
structure EOK (es:List E3) (sz:Int):Prop where
 szb:1≤sz∧sz≤8
 len:es.length≤20
 ed:∀ k,k < es.length→(0≤(edg es k).1∧(edg es k).1 < sz)∧(0≤(edg es k).2.1∧(edg es k).2.1 < sz)∧(edg es k).1≠(edg es k).2.1∧0≤(edg es k).2.2∧(edg es k).2.2≤8
 uq:∀ i j,i < es.length→j < es.length→(edg es i).1=(edg es j).1→(edg es i).2.1=(edg es j).2.1→i=j
theorem Good.app {es:List E3} {f:List Int} {sz s:Int} {tr:List (Int×Int)} (h:Good es f sz s tr) {x c:Int} (hn:(mget tr x).isSome=false) (hr:0≤x∧x < sz) (he:Ent es f (tr++[(x,c)]) tr.length):Good es f sz s (tr++[(x,c)]):=by
 have hnn:=mget_none hn
 have hl:(tr++[(x,c)]).length=tr.length+1:=by simp
 have hat:∀ p,p < tr.length→(tr++[(x,c)]).getD p (0,0)=tr.getD p (0,0):=fun p hp=>getD_app hp
 have hend:(tr++[(x,c)]).getD tr.length (0,0)=(x,c):=getD_end
 refine ⟨⟨by omega,by rw [hat 0 h.h0.1];exact h.h0.2⟩,fun p q hp hq e=>?_,fun p hp=>?_,fun p h0 hp=>?_⟩
 ·rw [hl] at hp hq
  by_cases h1:p < tr.length<;>by_cases h2:q < tr.length
  ·rw [hat p h1,hat q h2] at e;exact h.nd p q h1 h2 e
  ·have : q = tr.length := by omega
   subst this
   rw [hat p h1,hend] at e;exact absurd e (hnn p h1)
  ·have : p = tr.length := by omega
   subst this
   rw [hat q h2,hend] at e;exact absurd e.symm (hnn q h2)
  ·omega
 ·rw [hl] at hp
  by_cases h1:p < tr.length
  ·rw [hat p h1];exact h.rg p h1
  ·have : p = tr.length := by omega
   subst this;rw [hend];exact hr
 ·rw [hl] at hp
  by_cases h1:p < tr.length
  ·rcases h.ok p h0 h1 with ⟨k, e1, e2, e3, e4, q, e5, e6⟩ | ⟨k, e1, e2, e3, e4, q, e5, e6⟩
   ·exact .inl ⟨k,by rw [hat p h1];exact e1,e2,by rw [hat p h1];exact e3,e4,q,e5,by rw [hat q (by omega)];exact e6⟩
   ·exact .inr ⟨k,by rw [hat p h1];exact e1,e2,by rw [hat p h1];exact e3,e4,q,e5,by rw [hat q (by omega)];exact e6⟩
  ·have : p = tr.length := by omega
   subst this;exact he
def InT (tr:List (Int×Int)) (a:Int):Prop:=∃ q,q < tr.length∧(tr.getD q (0,0)).1=a
theorem InT.app {tr:List (Int×Int)} {a:Int} (h:InT tr a) (y:Int×Int):InT (tr++[y]) a:=by
 obtain ⟨q,h1,h2⟩:=h
 exact ⟨q,by simp;omega,by rw [getD_app h1];exact h2⟩
theorem fwS_good {es:List E3} {f:List Int} {sz s a:Int} {tr:List (Int×Int)} {k:Nat} (hE:EOK es sz) (hk:k < es.length) (h:Good es f sz s tr) (ha:InT tr a):Good es f sz s (fwS es f a tr k)∧InT (fwS es f a tr k) a∧tr.length≤(fwS es f a tr k).length∧∀ p,p < tr.length→(fwS es f a tr k).getD p (0,0)=tr.getD p (0,0):=by
 unfold fwS
 split
 ·rename_i hc
  refine ⟨h.app hc.2 (hE.ed k hk).2.1 (.inl ⟨k,by rw [getD_end],hk,by rw [getD_end],hc.1.2,?_⟩),ha.app _,by simp,fun p hp=>getD_app hp⟩
  obtain ⟨q,h1,h2⟩:=ha
  exact ⟨q,h1,by rw [getD_app h1,h2,hc.1.1]⟩
 ·exact ⟨h,ha,Nat.le_refl _,fun _ _=>rfl⟩
theorem bwS_good {es:List E3} {f:List Int} {sz s a:Int} {tr:List (Int×Int)} {k:Nat} (hE:EOK es sz) (hk:k < es.length) (h:Good es f sz s tr) (ha:InT tr a):Good es f sz s (bwS es f a tr k)∧InT (bwS es f a tr k) a∧tr.length≤(bwS es f a tr k).length∧∀ p,p < tr.length→(bwS es f a tr k).getD p (0,0)=tr.getD p (0,0):=by
 unfold bwS
 split
 ·rename_i hc
  refine ⟨h.app hc.2 (hE.ed k hk).1 (.inr ⟨k,by rw [getD_end],hk,by rw [getD_end],hc.1.2,?_⟩),ha.app _,by simp,fun p hp=>getD_app hp⟩
  obtain ⟨q,h1,h2⟩:=ha
  exact ⟨q,h1,by rw [getD_app h1,h2,hc.1.1]⟩
 ·exact ⟨h,ha,Nat.le_refl _,fun _ _=>rfl⟩
theorem fwTo_good {es:List E3} {f:List Int} {sz s a:Int} {tr:List (Int×Int)} (hE:EOK es sz) (h:Good es f sz s tr) (ha:InT tr a):∀ i,i≤es.length→Good es f sz s (fwTo es f a tr i)∧InT (fwTo es f a tr i) a∧tr.length≤(fwTo es f a tr i).length∧∀ p,p < tr.length→(fwTo es f a tr i).getD p (0,0)=tr.getD p (0,0)
 | 0,_=>⟨h,ha,Nat.le_refl _,fun _ _=>rfl⟩
 | i + 1, hi => by
  obtain ⟨h1,h2,h3,h4⟩:=fwTo_good hE h ha i (by omega)
  rw [fwTo_succ]
  obtain ⟨g1,g2,g3,g4⟩:=fwS_good hE (show i < es.length by omega) h1 h2
  exact ⟨g1,g2,Nat.le_trans h3 g3,fun p hp=>by rw [g4 p (by omega),h4 p hp]⟩
theorem bwTo_good {es:List E3} {f:List Int} {sz s a:Int} {tr:List (Int×Int)} (hE:EOK es sz) (h:Good es f sz s tr) (ha:InT tr a):∀ i,i≤es.length→Good es f sz s (bwTo es f a tr i)∧InT (bwTo es f a tr i) a∧tr.length≤(bwTo es f a tr i).length∧∀ p,p < tr.length→(bwTo es f a tr i).getD p (0,0)=tr.getD p (0,0)
 | 0,_=>⟨h,ha,Nat.le_refl _,fun _ _=>rfl⟩
 | i + 1, hi => by
  obtain ⟨h1,h2,h3,h4⟩:=bwTo_good hE h ha i (by omega)
  rw [bwTo_succ]
  obtain ⟨g1,g2,g3,g4⟩:=bwS_good hE (show i < es.length by omega) h1 h2
  exact ⟨g1,g2,Nat.le_trans h3 g3,fun p hp=>by rw [g4 p (by omega),h4 p hp]⟩
theorem srIt_good {es:List E3} {f:List Int} {sz s:Int} (hE:EOK es sz) (hs:0≤s∧s < sz):∀ i,Good es f sz s (srIt es f s i)
 | 0 => ⟨⟨by simp [srIt], rfl⟩, fun p q hp hq _ => by simp [srIt] at hp hq; omega, fun p hp => by
   have:p=0:=by simp [srIt] at hp;omega
   subst this;exact hs,fun p h0 hp=>by simp [srIt] at hp;omega⟩
 | i + 1 => by
  have ih:=srIt_good (f:=f) hE hs i
  unfold srIt
  split
  ·rename_i hi
   have h1:=fwTo_good hE ih ⟨i,hi,rfl⟩ es.length (Nat.le_refl _)
   exact (bwTo_good hE h1.1 h1.2.1 es.length (Nat.le_refl _)).1
  ·exact ih
theorem srIt_mono {es:List E3} {f:List Int} {sz s:Int} (hE:EOK es sz) (hs:0≤s∧s < sz) (i:Nat):(srIt es f s i).length≤(srIt es f s (i+1)).length:=by
 have ih:=srIt_good (f:=f) hE hs i
 have e:srIt es f s (i+1)=if i < (srIt es f s i).length then ndS es f (srIt es f s i) ((srIt es f s i).getD i (0,0)).1 else srIt es f s i:=rfl
 rw [e]
 split
 ·rename_i hi
  have h1:=fwTo_good hE ih ⟨i,hi,rfl⟩ es.length (Nat.le_refl _)
  exact Nat.le_trans h1.2.2.1 (bwTo_good hE h1.1 h1.2.1 es.length (Nat.le_refl _)).2.2.1
 ·exact Nat.le_refl _
theorem pigeon:∀ (n m:Nat) (g:Nat→Nat),(∀ p q,p < m→q < m→g p=g q→p=q)→(∀ p,p < m→g p < n)→m≤n
 | 0, m, g, _, hr => by
  rcases Nat.eq_zero_or_pos m with h | h
  ·omega
  ·have:=hr 0 h;omega
 | n + 1, m, g, hi, hr => by
  by_cases hx:∃ p,p < m∧g p=n
  ·obtain ⟨p, hp, e⟩ := hx
   have:=pigeon n (m - 1) (fun q=>if q < p then g q else g (q+1)) (fun a b ha hb h=>by
    (try simp only at h)
    split at h<;>split at h
    ·exact hi a b (by omega) (by omega) h
    ·have:=hi a (b+1) (by omega) (by omega) h;omega
    ·have:=hi (a+1) b (by omega) (by omega) h;omega
    ·have:=hi (a+1) (b+1) (by omega) (by omega) h;omega) (fun q hq=>by
    (try simp only)
    split
    ·have h1 := hr q (by omega)
     have:g q≠n:=fun h=>by have:=hi q p (by omega) hp (h.trans e.symm);omega
     omega
    ·have h1 := hr (q + 1) (by omega)
     have:g (q+1)≠n:=fun h=>by have:=hi (q+1) p (by omega) hp (h.trans e.symm);omega
     omega)
   omega
  ·have := pigeon n m g hi (fun p hp => by have := hr p hp; have : g p ≠ n := fun h => hx ⟨p, hp, h⟩; omega)
   omega
theorem Good.len {es:List E3} {f:List Int} {sz s:Int} {tr:List (Int×Int)} (hE:EOK es sz) (h:Good es f sz s tr):tr.length≤8:=by
 have:=pigeon sz.toNat tr.length (fun p=>(tr.getD p (0,0)).1.toNat) (fun p q hp hq e=>by
  have h1:=h.rg p hp;have h2:=h.rg q hq
  exact h.nd p q hp hq (by omega)) (fun p hp=>by have h1:=h.rg p hp;omega)
 have:=hE.szb
 omega
theorem srIt_le {es:List E3} {f:List Int} {sz s:Int} (hE:EOK es sz) (hs:0≤s∧s < sz) (i:Nat):(srIt es f s i).length≤8:=(srIt_good hE hs i).len hE
theorem srIt_stay {es:List E3} {f:List Int} {s:Int} {i:Nat} (h:(srIt es f s i).length≤i):∀ d,srIt es f s (i+d)=srIt es f s i
 | 0=>rfl
 | d + 1 => by
  have ih:=srIt_stay h d
  have e:srIt es f s (i+d+1)=if i+d < (srIt es f s (i+d)).length then ndS es f (srIt es f s (i+d)) ((srIt es f s (i+d)).getD (i+d) (0,0)).1 else srIt es f s (i+d):=rfl
  rw [show i+(d+1)=i+d+1 from rfl,e,ih,if_neg (by omega)]
theorem srch_end {es:List E3} {f:List Int} {s:Int} {i:Nat} (h:(srIt es f s i).length≤i) (hi:i≤8):srch es f s=srIt es f s i:=by
 unfold srch
 have:=srIt_stay h (8 - i)
 rwa [show i+(8 - i)=8 by omega] at this
theorem srIt_next {es:List E3} {f:List Int} {s:Int} {i:Nat} (h:i < (srIt es f s i).length):srIt es f s (i+1)=ndS es f (srIt es f s i) ((srIt es f s i).getD i (0,0)).1:=if_pos h
def tpS (es:List E3) (tr:List (Int×Int)) (q:List Int×Int):List Int×Int :=
 if (mget tr q.2).getD 0 < ((es.length:Nat):Int) then (q.1.set ((mget tr q.2).getD 0).toNat (q.1.getD ((mget tr q.2).getD 0).toNat 0+1),(edg es ((mget tr q.2).getD 0).toNat).1)
 else (q.1.set ((mget tr q.2).getD 0 - ((es.length:Nat):Int)).toNat (q.1.getD ((mget tr q.2).getD 0 - ((es.length:Nat):Int)).toNat 0 - 1),(edg es ((mget tr q.2).getD 0 - ((es.length:Nat):Int)).toNat).2.1)
def tpIt (es:List E3) (tr:List (Int×Int)) (s:Int) (q:List Int×Int):Nat→List Int×Int
 | 0=>q
 | j+1=>if (tpIt es tr s q j).2=s then tpIt es tr s q j else tpS es tr (tpIt es tr s q j)
theorem tpIt_stay {es:List E3} {tr:List (Int×Int)} {s:Int} {q:List Int×Int} {i:Nat} (h:(tpIt es tr s q i).2=s):∀ d,tpIt es tr s q (i+d)=tpIt es tr s q i
 | 0=>rfl
 | d + 1 => by
  have ih:=tpIt_stay h d
  have e:tpIt es tr s q (i+d+1)=if (tpIt es tr s q (i+d)).2=s then tpIt es tr s q (i+d) else tpS es tr (tpIt es tr s q (i+d)):=rfl
  rw [show i+(d+1)=i+d+1 from rfl,e,ih,if_pos h]
theorem tpIt_end {es:List E3} {tr:List (Int×Int)} {s:Int} {q:List Int×Int} {i:Nat} (h:(tpIt es tr s q i).2=s) (hi:i≤8):tpIt es tr s q 8=tpIt es tr s q i:=by
 have:=tpIt_stay h (8 - i)
 rwa [show i+(8 - i)=8 by omega] at this
theorem tpIt_next {es:List E3} {tr:List (Int×Int)} {s:Int} {q:List Int×Int} {j:Nat} (h:¬ (tpIt es tr s q j).2=s):tpIt es tr s q (j+1)=tpS es tr (tpIt es tr s q j):=if_neg h
@[irreducible]
def augF (es:List E3) (f:List Int) (s t:Int):List Int:=(tpIt es (srch es f s) s (f,t) 8).1
theorem aug_end {es:List E3} {f:List Int} {s t:Int} {i:Nat} (h:(tpIt es (srch es f s) s (f,t) i).2=s) (hi:i≤8):augF es f s t=(tpIt es (srch es f s) s (f,t) i).1:=by unfold augF;rw [tpIt_end h hi]
def exTo (es:List E3) (f:List Int) (v:Int):Nat→Int
 | 0=>0
 | i+1=>exTo es f v i+((if (edg es i).2.1=v then f.getD i 0 else 0) - (if (edg es i).1=v then f.getD i 0 else 0))
def exF (es:List E3) (f:List Int) (v:Int):Int:=exTo es f v es.length
theorem getD_set_if {f:List Int} {k i:Nat} {y:Int} (hk:k < f.length):(f.set k y).getD i 0=if i=k then y else f.getD i 0:=by
 rw [List.getD_eq_getElem?_getD,List.getElem?_set,List.getD_eq_getElem?_getD]
 by_cases e:k=i
 ·subst e;rw [if_pos rfl,if_pos rfl,if_pos hk];rfl
 ·rw [if_neg e,if_neg (fun h=>e h.symm)]
theorem exTo_set {es:List E3} {f:List Int} {v y:Int} {k:Nat} (hk:k < f.length):∀ i,exTo es (f.set k y) v i=exTo es f v i+(if k < i then ((if (edg es k).2.1=v then y - f.getD k 0 else 0) - (if (edg es k).1=v then y - f.getD k 0 else 0)) else 0)
 | 0=>by rw [if_neg (by omega)];rfl
 | i + 1 => by
  simp only [exTo]
  rw [exTo_set hk i,getD_set_if hk]
  by_cases e:i=k
  ·subst e
   rw [if_neg (Nat.lt_irrefl _),if_pos (Nat.lt_succ_self _),if_pos rfl]
   (repeat' split)<;>omega
  ·rw [if_neg e]
   by_cases h:k < i
   ·rw [if_pos h, if_pos (show k < i + 1 by omega)]
    (repeat' split)<;>omega
   ·rw [if_neg h, if_neg (show ¬ k < i + 1 by omega)]
    (repeat' split)<;>omega
def CapOK (es:List E3) (f:List Int):Prop:=f.length=es.length∧∀ k,k < es.length→0≤f.getD k 0∧f.getD k 0≤(edg es k).2.2
structure TpOK (es:List E3) (f:List Int) (s t:Int) (tr:List (Int×Int)) (j:Nat) (q:List Int×Int):Prop where
 cap:CapOK es q.1
 ex:∀ v,exF es q.1 v=exF es f v+(if v=t then 1 else 0) - (if v=q.2 then 1 else 0)
 pos:∃ p,p < tr.length∧(tr.getD p (0,0)).1=q.2∧p+j≤7∧∀ r,r≤p→0 < r→(∀ k:Nat,(tr.getD r (0,0)).2=(k:Int)→k < es.length→q.1.getD k 0=f.getD k 0)∧∀ k:Nat,(tr.getD r (0,0)).2=((es.length:Nat):Int)+(k:Int)→k < es.length→q.1.getD k 0=f.getD k 0
theorem Good.mgt {es:List E3} {f:List Int} {sz s:Int} {tr:List (Int×Int)} (h:Good es f sz s tr) {p:Nat} (hp:p < tr.length):mget tr (tr.getD p (0,0)).1=some (tr.getD p (0,0)).2:=by
 cases hm:(mget tr (tr.getD p (0,0)).1).isSome with
 | false=>exact absurd rfl (mget_none hm p hp)
 | true =>
  obtain ⟨q,h1,h2,h3⟩:=mget_some hm
  rw [h3,h.nd q p h1 hp h2]
theorem ite_step {A B v q e y z:Int} (hy:y - z=1) (hne:¬ e=q):A+B - (if v=q then 1 else 0)+((if q=v then y - z else 0) - (if e=v then y - z else 0))=A+B - (if v=e then 1 else 0):=by
 rw [hy]
 by_cases h1:v=q
 ·subst h1;rw [if_pos (show v=v from rfl),if_neg hne,if_neg (show ¬ v=e from fun h=>hne h.symm)];omega
 ·rw [if_neg h1, if_neg (show ¬ q = v from fun h => h1 h.symm)]
  by_cases h2:v=e
  ·rw [if_pos h2,if_pos (show e=v from h2.symm)];omega
  ·rw [if_neg h2,if_neg (show ¬ e=v from fun h=>h2 h.symm)];omega
theorem ite_step2 {A B v q e y z:Int} (hy:y - z=-1) (hne:¬ e=q):A+B - (if v=q then 1 else 0)+((if e=v then y - z else 0) - (if q=v then y - z else 0))=A+B - (if v=e then 1 else 0):=by
 rw [hy]
 by_cases h1:v=q
 ·subst h1;rw [if_pos (show v=v from rfl),if_neg hne,if_neg (show ¬ v=e from fun h=>hne h.symm)];omega
 ·rw [if_neg h1, if_neg (show ¬ q = v from fun h => h1 h.symm)]
  by_cases h2:v=e
  ·rw [if_pos h2,if_pos (show e=v from h2.symm)];omega
  ·rw [if_neg h2,if_neg (show ¬ e=v from fun h=>h2 h.symm)];omega
theorem tp_step {es:List E3} {f:List Int} {sz s t:Int} {tr:List (Int×Int)} {j:Nat} {q:List Int×Int} (hE:EOK es sz) (hG:Good es f sz s tr) (h:TpOK es f s t tr j q) (hq:¬ q.2=s) :
  TpOK es f s t tr (j+1) (tpS es tr q)∧((∃ k:Nat,mget tr q.2=some (k:Int)∧k < es.length∧(edg es k).2.1=q.2∧q.1.getD k 0 < (edg es k).2.2)∨∃ k:Nat,mget tr q.2=some (((es.length:Nat):Int)+(k:Int))∧k < es.length∧(edg es k).1=q.2∧¬ (edg es k).2.1=q.2∧0 < q.1.getD k 0):=by
 obtain ⟨p,hp,hpq,hpj,hun⟩:=h.pos
 have hp0:0 < p:=by
  rcases Nat.eq_zero_or_pos p with h0 | h0
  ·subst h0;rw [hG.h0.2] at hpq;exact absurd hpq.symm hq
  ·exact h0
 have hm:mget tr q.2=some (tr.getD p (0,0)).2:=by rw [← hpq];exact hG.mgt hp
 rcases hG.ok p hp0 hp with ⟨k,e1,e2,e3,e4,r,e5,e6⟩ | ⟨k,e1,e2,e3,e4,r,e5,e6⟩
 ·have hfk := (hun p (Nat.le_refl _) hp0).1 k e1 e2
  have hc:=h.cap.2 k e2
  have hE':=hE.ed k e2
  have es1:tpS es tr q=(q.1.set k (q.1.getD k 0+1),(edg es k).1):=by
   unfold tpS
   rw [hm,e1]
   simp only [Option.getD_some,Int.toNat_natCast]
   rw [if_pos (by omega)]
  rw [es1]
  refine ⟨⟨⟨by simpa using h.cap.1,fun i hi=>?_⟩,fun v=>?_,r,by omega,e6,by omega,fun r' hr' h0'=>?_⟩,.inl ⟨k,by rw [hm,e1],e2,by rw [e3,hpq],by rw [hfk];exact e4⟩⟩
  ·simp only
   rw [getD_set_if (by rw [h.cap.1];exact e2)]
   split
   ·rename_i hik;subst hik;omega
   ·exact h.cap.2 i hi
  ·simp only
   unfold exF
   rw [exTo_set (by rw [h.cap.1];exact e2),if_pos e2]
   have hv:=h.ex v
   unfold exF at hv
   rw [hv]
   rw [e3,hpq]
   have hne:¬ (edg es k).1=q.2:=fun e=>hE'.2.2.1 (by rw [e,e3,hpq])
   exact ite_step (by omega) hne
  ·have hu := hun r' (by omega) h0'
   have hrl:r' < tr.length:=by omega
   have hne:∀ k':Nat,k' < es.length→((tr.getD r' (0,0)).2=(k':Int)∨(tr.getD r' (0,0)).2=((es.length:Nat):Int)+(k':Int))→k'≠k:=by
    intro k' hk' hor hkk
    subst hkk
    rcases hG.ok r' h0' hrl with ⟨k2,a1,a2,a3,a4,r2,a5,a6⟩ | ⟨k2,a1,a2,a3,a4,r2,a5,a6⟩
    ·have : k2 = k' := by omega
     subst this
     have:=hG.nd r' p hrl hp (by rw [← a3,e3]);omega
    ·have : k2 = k' := by omega
     subst this
     have:=hG.nd r2 p (by omega) hp (by rw [a6,e3]);omega
   refine ⟨fun k' hk1 hk2=>?_,fun k' hk1 hk2=>?_⟩
   ·simp only
    rw [getD_set_if (by rw [h.cap.1];exact e2),if_neg (hne k' hk2 (.inl hk1))];exact hu.1 k' hk1 hk2
   ·simp only
    rw [getD_set_if (by rw [h.cap.1];exact e2),if_neg (hne k' hk2 (.inr hk1))];exact hu.2 k' hk1 hk2
 ·have hfk := (hun p (Nat.le_refl _) hp0).2 k e1 e2
  have hc:=h.cap.2 k e2
  have hE':=hE.ed k e2
  have es1:tpS es tr q=(q.1.set k (q.1.getD k 0 - 1),(edg es k).2.1):=by
   unfold tpS
   rw [hm,e1]
   simp only [Option.getD_some]
   rw [if_neg (by omega),show (((es.length:Nat):Int)+(k:Int) - ((es.length:Nat):Int)).toNat=k by omega]
  rw [es1]
  have hne:¬ (edg es k).2.1=q.2:=fun e=>hE'.2.2.1 (by rw [e,e3,hpq])
  refine ⟨⟨⟨by simpa using h.cap.1,fun i hi=>?_⟩,fun v=>?_,r,by omega,e6,by omega,fun r' hr' h0'=>?_⟩,.inr ⟨k,by rw [hm,e1],e2,by rw [e3,hpq],hne,by rw [hfk];exact e4⟩⟩
  ·simp only
   rw [getD_set_if (by rw [h.cap.1];exact e2)]
   split
   ·rename_i hik;subst hik;omega
   ·exact h.cap.2 i hi
  ·simp only
   unfold exF
   rw [exTo_set (by rw [h.cap.1];exact e2),if_pos e2]
   have hv:=h.ex v
   unfold exF at hv
   rw [hv]
   rw [e3,hpq]
   exact ite_step2 (by omega) hne
  ·have hu := hun r' (by omega) h0'
   have hrl:r' < tr.length:=by omega
   have hne:∀ k':Nat,k' < es.length→((tr.getD r' (0,0)).2=(k':Int)∨(tr.getD r' (0,0)).2=((es.length:Nat):Int)+(k':Int))→k'≠k:=by
    intro k' hk' hor hkk
    subst hkk
    rcases hG.ok r' h0' hrl with ⟨k2,a1,a2,a3,a4,r2,a5,a6⟩ | ⟨k2,a1,a2,a3,a4,r2,a5,a6⟩
    ·have : k2 = k' := by omega
     subst this
     have:=hG.nd r2 p (by omega) hp (by rw [a6,e3]);omega
    ·have : k2 = k' := by omega
     subst this
     have:=hG.nd r' p hrl hp (by rw [← a3,e3]);omega
   refine ⟨fun k' hk1 hk2=>?_,fun k' hk1 hk2=>?_⟩
   ·simp only
    rw [getD_set_if (by rw [h.cap.1];exact e2),if_neg (hne k' hk2 (.inl hk1))];exact hu.1 k' hk1 hk2
   ·simp only
    rw [getD_set_if (by rw [h.cap.1];exact e2),if_neg (hne k' hk2 (.inr hk1))];exact hu.2 k' hk1 hk2
theorem tp_zero {es:List E3} {f:List Int} {sz s t:Int} {tr:List (Int×Int)} (hE:EOK es sz) (hG:Good es f sz s tr) (hf:CapOK es f) (ht:(mget tr t).isSome=true):TpOK es f s t tr 0 (f,t):=by
 obtain ⟨p,h1,h2,h3⟩:=mget_some ht
 have:=hG.len hE
 exact ⟨hf,fun v=>by simp only;omega,p,h1,h2,by omega,fun r _ _=>⟨fun _ _ _=>rfl,fun _ _ _=>rfl⟩⟩
theorem tpIt_ok {es:List E3} {f:List Int} {sz s t:Int} {tr:List (Int×Int)} (hE:EOK es sz) (hG:Good es f sz s tr) (hf:CapOK es f) (ht:(mget tr t).isSome=true):∀ j,(∃ i,i≤j∧(tpIt es tr s (f,t) j).2=s∧TpOK es f s t tr i (tpIt es tr s (f,t) j))∨TpOK es f s t tr j (tpIt es tr s (f,t) j)
 | 0=>.inr (tp_zero hE hG hf ht)
 | j + 1 => by
  have e:tpIt es tr s (f,t) (j+1)=if (tpIt es tr s (f,t) j).2=s then tpIt es tr s (f,t) j else tpS es tr (tpIt es tr s (f,t) j):=rfl
  rcases tpIt_ok hE hG hf ht j with ⟨i,h1,h2,h3⟩ | h
  ·left;rw [e,if_pos h2];exact ⟨i,by omega,h2,h3⟩
  ·by_cases h2 : (tpIt es tr s (f, t) j).2 = s
   ·left;rw [e,if_pos h2];exact ⟨j,by omega,h2,h⟩
   ·right;rw [e,if_neg h2];exact (tp_step hE hG h h2).1
theorem aug_ok {es:List E3} {f:List Int} {sz s t:Int} (hE:EOK es sz) (hs:0≤s∧s < sz) (hf:CapOK es f) (ht:(mget (srch es f s) t).isSome=true):CapOK es (augF es f s t)∧∀ v,exF es (augF es f s t) v=exF es f v+(if v=t then 1 else 0) - (if v=s then 1 else 0):=by
 have hG:Good es f sz s (srch es f s):=by unfold srch;exact srIt_good hE hs 8
 unfold augF
 rcases tpIt_ok hE hG hf ht 8 with ⟨i,h1,h2,h3⟩ | h
 ·exact ⟨h3.cap,fun v=>by rw [h3.ex v,h2]⟩
 ·obtain ⟨p,_,_,h4,_⟩:=h.pos;omega
def flIt (es:List E3) (s t:Int):Nat→List Int
 | 0=>List.replicate es.length 0
 | i+1=>if (mget (srch es (flIt es s t i) s) t).isSome=true then augF es (flIt es s t i) s t else flIt es s t i
@[irreducible]
def mfF (es:List E3) (s t:Int):List Int:=flIt es s t 200
abbrev fndB (es:List E3) (s t:Int) (i:Nat):Bool:=(mget (srch es (flIt es s t i) s) t).isSome
theorem exTo_zero {es:List E3} {v:Int} {n:Nat}:∀ i,exTo es (List.replicate n 0) v i=0
 | 0=>rfl
 | i + 1 => by
  simp only [exTo]
  rw [exTo_zero i]
  have:(List.replicate n (0:Int)).getD i 0=0:=by
   rw [List.getD_eq_getElem?_getD,List.getElem?_replicate];split<;>rfl
  rw [this];(repeat' split)<;>omega
theorem flIt_ok {es:List E3} {sz s t:Int} (hE:EOK es sz) (hs:0≤s∧s < sz):∀ i,CapOK es (flIt es s t i)∧((∀ j,j < i→fndB es s t j=true)→∀ v,exF es (flIt es s t i) v=(if v=t then (i:Int) else 0) - (if v=s then (i:Int) else 0))
 | 0 => ⟨⟨by simp [flIt], fun k hk => by
   have:(List.replicate es.length (0:Int)).getD k 0=0:=by
    rw [List.getD_eq_getElem?_getD,List.getElem?_replicate];split<;>rfl
   show 0≤(List.replicate es.length (0:Int)).getD k 0∧(List.replicate es.length (0:Int)).getD k 0≤_
   rw [this];have:=(hE.ed k hk).2.2.2;omega⟩,fun _ v=>by
   show exTo es (List.replicate es.length 0) v es.length=_
   rw [exTo_zero];(repeat' split)<;>omega⟩
 | i + 1 => by
  obtain ⟨h1,h2⟩:=flIt_ok (t:=t) hE hs i
  have e:flIt es s t (i+1)=if (mget (srch es (flIt es s t i) s) t).isSome=true then augF es (flIt es s t i) s t else flIt es s t i:=rfl
  rw [e]
  split
  ·rename_i hf
   obtain ⟨a1,a2⟩:=aug_ok hE hs h1 hf
   refine ⟨a1,fun hj v=>?_⟩
   rw [a2 v,h2 (fun j hj'=>hj j (by omega)) v]
   (repeat' split)<;>omega
  ·rename_i hf
   exact ⟨h1,fun hj=>absurd (hj i (by omega)) hf⟩
theorem ex_bd {es:List E3} {sz:Int} {f:List Int} (hE:EOK es sz) (hf:CapOK es f) (v:Int):∀ i,i≤es.length→-8*(i:Int)≤exTo es f v i∧exTo es f v i≤8*(i:Int)
 | 0,_=>by simp only [exTo];omega
 | i + 1, hi => by
  have ih:=ex_bd hE hf v i (by omega)
  have h1:=hf.2 i (by omega)
  have h2:=(hE.ed i (by omega)).2.2.2
  simp only [exTo]
  (repeat' split)<;>omega
theorem fl_bd {es:List E3} {sz s t:Int} (hE:EOK es sz) (hs:0≤s∧s < sz) (hst:s≠t) {i:Nat} (h:∀ j,j < i→fndB es s t j=true):i≤160:=by
 obtain ⟨h1,h2⟩:=flIt_ok (t:=t) hE hs i
 have h3:=h2 h s
 rw [if_neg hst,if_pos rfl] at h3
 have h4:=ex_bd hE h1 s es.length (Nat.le_refl _)
 have:=hE.len
 unfold exF at h3;omega
theorem flIt_stay {es:List E3} {s t:Int} {i:Nat} (h:fndB es s t i=false):∀ d,flIt es s t (i+d)=flIt es s t i
 | 0=>rfl
 | d + 1 => by
  have ih:=flIt_stay h d
  have e:flIt es s t (i+d+1)=if (mget (srch es (flIt es s t (i+d)) s) t).isSome=true then augF es (flIt es s t (i+d)) s t else flIt es s t (i+d):=rfl
  rw [show i+(d+1)=i+d+1 from rfl,e,ih]
  rw [if_neg (by have h:(mget (srch es (flIt es s t i) s) t).isSome=false:=h;rw [h];decide)]
theorem mf_end {es:List E3} {s t:Int} {i:Nat} (h:fndB es s t i=false) (hi:i≤200):mfF es s t=flIt es s t i:=by
 unfold mfF
 have:=flIt_stay h (200 - i)
 rwa [show i+(200 - i)=200 by omega] at this
theorem flIt_next {es:List E3} {s t:Int} {i:Nat} (h:fndB es s t i=true):flIt es s t (i+1)=augF es (flIt es s t i) s t:=if_pos h
def cmpE (a b:T58):Int:=if cmpI a.1 b.1=0 then cmpI a.2.1 b.2.1 else cmpI a.1 b.1
def lessE (a b:T58):Bool:=decide (a.1 < b.1) || (decide (a.1=b.1) && decide (a.2.1 < b.2.1))
theorem cmpE_lt {a b:T58}:cmpE a b < 0↔lessE a b=true:=by
 unfold cmpE lessE
 rw [Bool.or_eq_true,Bool.and_eq_true,decide_eq_true_iff,decide_eq_true_iff,decide_eq_true_iff]
 split
 ·rename_i h;have:=cmpI_eq.1 h;rw [cmpI_lt];omega
 ·rename_i h
  have:¬ a.1=b.1:=fun e=>h (cmpI_eq.2 e)
  rw [cmpI_lt];omega
def orF:List Int→Int
 | []=>0
 | x::l=>if x=0 then orF l else x
theorem orF_at:∀ {xs:List Int} {i:Nat},i < xs.length→(∀ j,j < i→xs.getD j 0=0)→¬ xs.getD i 0=0→xs.getD i 0=orF xs
 | [],_,h,_,_=>absurd h (by simp)
 | x :: l, 0, _, _, h => by
  have h:¬ x=0:=h
  simp only [orF];rw [if_neg h];rfl
 | x :: l, i + 1, h, hz, hn => by
  have h0:x=0:=hz 0 (by omega)
  simp only [orF];rw [if_pos h0]
  exact orF_at (xs:=l) (by simpa using h) (fun j hj=>hz (j+1) (by omega)) hn
theorem orF_no:∀ {xs:List Int} {i:Nat},xs.length≤i→(∀ j,j < i→xs.getD j 0=0)→0=orF xs
 | [],_,_,_=>rfl
 | x::l,0,h,_=>absurd h (by simp)
 | x :: l, i + 1, h, hz => by
  have h0:x=0:=hz 0 (by omega)
  simp only [orF];rw [if_pos h0]
  exact orF_no (xs:=l) (i:=i) (by simpa using h) (fun j hj=>hz (j+1) (by omega))
theorem orF_two (a b:Int):orF [a,b]=if a=0 then b else a:=by
 simp only [orF]
 split
 ·split
  ·rename_i h;exact h.symm
  ·rfl
 ·rfl
def gB (g:T26) (i:Nat):Bool:=((inR (edg g.2 i).1 0 (g.1 - 1) && inR (edg g.2 i).2.1 0 (g.1 - 1)) && (!decide ((edg g.2 i).1=(edg g.2 i).2.1) && inR (edg g.2 i).2.2 1 8)) && (decide (i=0) || lessE (edg g.2 (i - 1)) (edg g.2 i))
theorem gB_t {g:T26} {i:Nat} (h1:inR (edg g.2 i).1 0 (g.1 - 1)=true) (h2:inR (edg g.2 i).2.1 0 (g.1 - 1)=true) (h3:¬ (edg g.2 i).1=(edg g.2 i).2.1) (h4:inR (edg g.2 i).2.2 1 8=true) (h5:i=0∨lessE (edg g.2 (((i:Nat):Int) - 1).toNat) (edg g.2 i)=true):gB g i=true:=by
 have e:(((i:Nat):Int) - 1).toNat=i - 1:=by omega
 rw [e] at h5
 unfold gB;rw [h1,h2,h4,decide_eq_false h3]
 rcases h5 with h5 | h5
 ·rw [decide_eq_true h5];rfl
 ·rw [h5,Bool.or_true];rfl
theorem gB_f {g:T26} {i:Nat} (h:inR (edg g.2 i).1 0 (g.1 - 1)=false∨inR (edg g.2 i).2.1 0 (g.1 - 1)=false∨(edg g.2 i).1=(edg g.2 i).2.1∨inR (edg g.2 i).2.2 1 8=false∨(0 < i∧lessE (edg g.2 (((i:Nat):Int) - 1).toNat) (edg g.2 i)=false)):gB g i=false:=by
 have e:(((i:Nat):Int) - 1).toNat=i - 1:=by omega
 rw [e] at h
 unfold gB
 rcases h with h | h | h | h | ⟨h,h'⟩
 ·rw [h];simp
 ·rw [h];simp
 ·rw [decide_eq_true h];simp
 ·rw [h];simp
 ·rw [h',decide_eq_false (show ¬ i=0 by omega)];simp
def validGr (g:T26):Bool:=(inR g.1 1 8 && decide (List.length g.2≤20)) && allN (gB g) (List.length g.2)
theorem validGr_n {g:T26} (h:inR g.1 1 8=false∨¬ List.length g.2≤20∨allN (gB g) (List.length g.2)=false):false=validGr g:=by
 unfold validGr
 rcases h with h | h | h
 ·rw [h];rfl
 ·rw [decide_eq_false h];simp
 ·rw [h,Bool.and_false]
theorem validGr_y {g:T26} (h1:inR g.1 1 8=true) (h2:List.length g.2≤20):allN (gB g) (List.length g.2)=validGr g:=by unfold validGr;rw [h1,decide_eq_true h2];rfl
theorem gr_EOK {g:T26} (h:validGr g=true):EOK g.2 g.1:=by
 unfold validGr at h
 rw [Bool.and_eq_true,Bool.and_eq_true,allN_iff] at h
 have hl:∀ i j,i < j→j < List.length g.2→lessE (edg g.2 i) (edg g.2 j)=true:=by
  intro i j hij hj
  obtain ⟨d,rfl⟩:∃ d,j=i+1+d:=⟨j - i - 1,by omega⟩
  have key:∀ q,0 < q→q < List.length g.2→lessE (edg g.2 (q - 1)) (edg g.2 q)=true:=fun q h0 hq=>by
   have h1:=h.2 q hq
   unfold gB at h1
   simp only [Bool.and_eq_true,Bool.or_eq_true,decide_eq_true_eq] at h1
   exact h1.2.resolve_left (by omega)
  induction d with
  | zero=>exact key (i+1) (by omega) hj
  | succ d ih =>
   have h1:=ih (by omega) (by omega)
   have h2:=key (i+1+(d+1)) (by omega) hj
   rw [show i+1+(d+1) - 1=i+1+d by omega] at h2
   unfold lessE at h1 h2 ⊢
   simp only [Bool.or_eq_true,Bool.and_eq_true,decide_eq_true_eq] at h1 h2 ⊢
   omega
 refine ⟨inR_t h.1.1,of_decide_eq_true h.1.2,fun k hk=>?_,fun i j hi hj h1 h2=>?_⟩
 ·have h1 := h.2 k hk
  unfold gB at h1
  simp only [Bool.and_eq_true,Bool.not_eq_true',decide_eq_false_iff_not] at h1
  have a1:=inR_t h1.1.1.1;have a2:=inR_t h1.1.1.2;have a3:=inR_t h1.1.2.2
  exact ⟨by omega,by omega,h1.1.2.1,by omega,a3.2⟩
 ·have hn:∀ a b:T58,a.1=b.1→a.2.1=b.2.1→lessE a b=true→False:=fun a b e1 e2 hlt=>by
   unfold lessE at hlt
   simp only [Bool.or_eq_true,Bool.and_eq_true,decide_eq_true_eq] at hlt
   omega
  rcases Nat.lt_trichotomy i j with hij | hij | hij
  ·exact (hn _ _ h1 h2 (hl i j hij hj)).elim
  ·exact hij
  ·exact (hn _ _ h1.symm h2.symm (hl j i hij hi)).elim
def unE (e:T58):T58:=(e.1,e.2.1,1)
def unTo (es:List T58) (i:Nat):List T58:=(es.take i).map unE++es.drop i
def unG (g:T26):T26:=(g.1,g.2.map unE)
theorem unTo_zero (es:List T58):unTo es 0=es:=by simp [unTo]
theorem unTo_len (es:List T58) (i:Nat) (h:i≤es.length):(unTo es i).length=es.length:=by simp [unTo];omega
theorem unTo_at {es:List T58} {i:Nat} (h:i < es.length):(unTo es i).getD i (0,0,0)=es.getD i (0,0,0):=by
 unfold unTo
 rw [List.getD_eq_getElem?_getD,List.getElem?_append_right (by simp;omega),List.getElem?_drop,List.getD_eq_getElem?_getD]
 congr 2;simp;omega
theorem unTo_set {es:List T58} {i:Nat} (h:i < es.length):(unTo es i).set i (((unTo es i).getD i (0,0,0)).1,((unTo es i).getD i (0,0,0)).2.1,1)=unTo es (i+1):=by
 rw [unTo_at h]
 unfold unTo
 rw [List.set_append_right _ _ (by simp;omega)]
 have e1:i - (List.map unE (List.take i es)).length=0:=by simp;omega
 rw [e1]
 have e2:es.drop i=es[i]::es.drop (i+1):=List.drop_eq_getElem_cons h
 rw [e2,List.set_cons_zero,take_snoc (z:=(0,0,0)) h,List.map_append,getD_of_lt h]
 simp [unE]
theorem unTo_all {es:List T58} {i:Nat} (h:es.length≤i):unTo es i=es.map unE:=by unfold unTo;rw [List.take_of_length_le h,List.drop_of_length_le h,List.append_nil]
def qOK (g:T26) (s t:Int):Bool:=validGr g && (inR s 0 (g.1 - 1) && (inR t 0 (g.1 - 1) && !decide (s=t)))
theorem qOK_y {g:T26} {s t:Int} (h1:validGr g=true) (h2:inR s 0 (g.1 - 1)=true) (h3:inR t 0 (g.1 - 1)=true):(!decide (s=t))=qOK g s t:=by unfold qOK;rw [h1,h2,h3];rfl
theorem qOK_n {g:T26} {s t:Int} (h:validGr g=false∨inR s 0 (g.1 - 1)=false∨inR t 0 (g.1 - 1)=false):false=qOK g s t:=by
 unfold qOK
 rcases h with h | h | h<;>rw [h]<;>simp
theorem qOK_t {g:T26} {s t:Int} (h:qOK g s t=true):EOK g.2 g.1∧(0≤s∧s < g.1)∧(0≤t∧t < g.1)∧s≠t:=by
 unfold qOK at h
 simp only [Bool.and_eq_true,Bool.not_eq_true',decide_eq_false_iff_not] at h
 have h1:=inR_t h.2.1;have h2:=inR_t h.2.2.1
 exact ⟨gr_EOK h.1,by omega,by omega,h.2.2.2⟩
def fsts (tr:List (Int×Int)):List Int:=tr.map (·.1)
theorem fsts_len (tr:List (Int×Int)):(fsts tr).length=tr.length:=List.length_map _
theorem fst_at (tr:List (Int×Int)) (i:Nat):(fsts tr).getD i 0=(tr.getD i (0,0)).1:=by
 unfold fsts
 rw [List.getD_eq_getElem?_getD,List.getD_eq_getElem?_getD,List.getElem?_map]
 cases tr[i]?<;>rfl
theorem fsts_snoc (tr:List (Int×Int)) (p:Int×Int):fsts (tr++[p])=fsts tr++[p.1]:=by simp [fsts]
def mpI (n:Nat) (tr:List (Int×Int)):List (Int×Int):=tr.map fun p=>(p.1,if p.2 < (n:Int) then p.2 else p.2 - (n:Int))
theorem mpI_idx (n:Nat) (x:Int):∀ tr:List (Int×Int),midx (mpI n tr) x=midx tr x
 | []=>rfl
 | p :: l => by
  show midx ((p.1,_)::mpI n l) x=_
  unfold midx
  rw [mpI_idx n x l]
theorem mpI_get (n:Nat) (tr:List (Int×Int)) (x:Int):mget (mpI n tr) x=(mget tr x).map fun c=>if c < (n:Int) then c else c - (n:Int):=by
 unfold mget
 rw [mpI_idx]
 cases h:midx tr x with
 | none=>rfl
 | some k =>
  have hk:=(midx_some h).1
  simp only [Option.map_some,Option.some.injEq]
  unfold mpI
  rw [getD_of_lt (by simpa using hk),getD_of_lt hk,List.getElem_map]
theorem mpI_some (n:Nat) (tr:List (Int×Int)) (x:Int):(mget (mpI n tr) x).isSome=(mget tr x).isSome:=by rw [mpI_get];cases mget tr x<;>rfl
theorem mpI_snoc (n:Nat) (tr:List (Int×Int)) (x c:Int):mpI n (tr++[(x,c)])=mpI n tr++[(x,if c < (n:Int) then c else c - (n:Int))]:=by simp [mpI]
theorem mp_zero (es:List T58) (f:List Int) (s:Int):mset [] s (-1)=mpI (List.length es) (srIt es f s 0):=by
 show [(s,(-1:Int))]=[(s,if (-1:Int) < _ then (-1:Int) else _)]
 rw [if_pos (by omega)]
theorem fw_y {es:List T58} {f:List Int} {a:Int} {T:List (Int×Int)} {k:Nat} (hk:k < es.length) (h1:(edg es k).1=a) (h2:f.getD k 0 < (edg es k).2.2) (h3:(mget (mpI es.length (fwTo es f a T k)) (edg es k).2.1).isSome=false):mset (mpI es.length (fwTo es f a T k)) (edg es k).2.1 (k:Int)=mpI es.length (fwTo es f a T (k+1))∧fsts (fwTo es f a T k)++[(edg es k).2.1]=fsts (fwTo es f a T (k+1)):=by
 rw [mset_new h3]
 rw [mpI_some] at h3
 have e:fwTo es f a T (k+1)=fwTo es f a T k++[((edg es k).2.1,(k:Int))]:=by rw [fwTo_succ];exact if_pos ⟨⟨h1,h2⟩,h3⟩
 rw [e,mpI_snoc,fsts_snoc,if_pos (by omega)]
 exact ⟨rfl,rfl⟩
theorem fw_n {es:List T58} {f:List Int} {a:Int} {T:List (Int×Int)} {k:Nat} (h:¬ (edg es k).1=a∨¬ f.getD k 0 < (edg es k).2.2∨(mget (mpI es.length (fwTo es f a T k)) (edg es k).2.1).isSome=true):fwTo es f a T (k+1)=fwTo es f a T k:=by
 rw [mpI_some] at h
 rw [fwTo_succ]
 refine if_neg ?_
 rintro ⟨⟨h1,h2⟩,h3⟩
 rcases h with h | h | h
 ·exact h h1
 ·exact h h2
 ·rw [h3] at h;cases h
theorem bw_y {es:List T58} {f:List Int} {a:Int} {T:List (Int×Int)} {k:Nat} (hk:k < es.length) (h1:(edg es k).2.1=a) (h2:0 < f.getD k 0) (h3:(mget (mpI es.length (bwTo es f a T k)) (edg es k).1).isSome=false):mset (mpI es.length (bwTo es f a T k)) (edg es k).1 (k:Int)=mpI es.length (bwTo es f a T (k+1))∧fsts (bwTo es f a T k)++[(edg es k).1]=fsts (bwTo es f a T (k+1)):=by
 rw [mset_new h3]
 rw [mpI_some] at h3
 have e:bwTo es f a T (k+1)=bwTo es f a T k++[((edg es k).1,((es.length:Nat):Int)+(k:Int))]:=by rw [bwTo_succ];exact if_pos ⟨⟨h1,h2⟩,h3⟩
 rw [e,mpI_snoc,fsts_snoc,if_neg (by omega),show ((es.length:Nat):Int)+(k:Int) - ((es.length:Nat):Int)=(k:Int) by omega]
 exact ⟨rfl,rfl⟩
theorem bw_n {es:List T58} {f:List Int} {a:Int} {T:List (Int×Int)} {k:Nat} (h:¬ (edg es k).2.1=a∨¬ 0 < f.getD k 0∨(mget (mpI es.length (bwTo es f a T k)) (edg es k).1).isSome=true):bwTo es f a T (k+1)=bwTo es f a T k:=by
 rw [mpI_some] at h
 rw [bwTo_succ]
 refine if_neg ?_
 rintro ⟨⟨h1,h2⟩,h3⟩
 rcases h with h | h | h
 ·exact h h1
 ·exact h h2
 ·rw [h3] at h;cases h
theorem sr_nx {es:List T58} {f:List Int} {s:Int} {i:Nat} (h:i < (srIt es f s i).length):bwTo es f ((fsts (srIt es f s i)).getD i 0) (fwTo es f ((fsts (srIt es f s i)).getD i 0) (srIt es f s i) es.length) es.length=srIt es f s (i+1):=by rw [fst_at,srIt_next h];rfl
abbrev tpV (n:Nat) (tr:List (Int×Int)) (x:Int):Int:=(mget (mpI n tr) x).getD 0
theorem tp_ix {es:List T58} {tr:List (Int×Int)} {q:List Int×Int} (hc:CapOK es q.1) {sz:Int} (hE:EOK es sz) (h:(∃ k:Nat,mget tr q.2=some (k:Int)∧k < es.length∧(edg es k).2.1=q.2∧q.1.getD k 0 < (edg es k).2.2)∨∃ k:Nat,mget tr q.2=some (((es.length:Nat):Int)+(k:Int))∧k < es.length∧(edg es k).1=q.2∧¬ (edg es k).2.1=q.2∧0 < q.1.getD k 0) :
  (0≤tpV es.length tr q.2∧tpV es.length tr q.2 < ((es.length:Nat):Int))∧(0≤q.1.getD (tpV es.length tr q.2).toNat 0∧q.1.getD (tpV es.length tr q.2).toNat 0≤8):=by
 rcases h with ⟨k,h1,h2,h3,h4⟩ | ⟨k,h1,h2,h3,h4,h5⟩
 ·have e : tpV es.length tr q.2 = (k : Int) := by unfold tpV; rw [mpI_get, h1]; simp only [Option.map_some, Option.getD_some]; rw [if_pos (by omega)]
  rw [e,Int.toNat_natCast]
  have:=hc.2 k h2;have:=(hE.ed k h2).2.2.2
  omega
 ·have e : tpV es.length tr q.2 = (k : Int) := by unfold tpV; rw [mpI_get, h1]; simp only [Option.map_some, Option.getD_some]; rw [if_neg (by omega)]; omega
  rw [e,Int.toNat_natCast]
  have:=hc.2 k h2;have:=(hE.ed k h2).2.2.2
  omega
theorem tp_f {es:List T58} {tr:List (Int×Int)} {q:List Int×Int} (h:(∃ k:Nat,mget tr q.2=some (k:Int)∧k < es.length∧(edg es k).2.1=q.2∧q.1.getD k 0 < (edg es k).2.2)∨∃ k:Nat,mget tr q.2=some (((es.length:Nat):Int)+(k:Int))∧k < es.length∧(edg es k).1=q.2∧¬ (edg es k).2.1=q.2∧0 < q.1.getD k 0) (ht:(edg es (tpV es.length tr q.2).toNat).2.1=q.2) :
  (q.1.set (tpV es.length tr q.2).toNat (q.1.getD (tpV es.length tr q.2).toNat 0+1),(edg es (tpV es.length tr q.2).toNat).1)=tpS es tr q:=by
 rcases h with ⟨k,h1,h2,h3,h4⟩ | ⟨k,h1,h2,h3,h4,h5⟩
 ·have e : tpV es.length tr q.2 = (k : Int) := by unfold tpV; rw [mpI_get, h1]; simp only [Option.map_some, Option.getD_some]; rw [if_pos (by omega)]
  unfold tpS
  rw [e,h1]
  simp only [Option.getD_some]
  rw [if_pos (by omega)]
 ·have e : tpV es.length tr q.2 = (k : Int) := by unfold tpV; rw [mpI_get, h1]; simp only [Option.map_some, Option.getD_some]; rw [if_neg (by omega)]; omega
  rw [e,Int.toNat_natCast] at ht
  exact absurd ht h4
theorem tp_b {es:List T58} {tr:List (Int×Int)} {q:List Int×Int} (h:(∃ k:Nat,mget tr q.2=some (k:Int)∧k < es.length∧(edg es k).2.1=q.2∧q.1.getD k 0 < (edg es k).2.2)∨∃ k:Nat,mget tr q.2=some (((es.length:Nat):Int)+(k:Int))∧k < es.length∧(edg es k).1=q.2∧¬ (edg es k).2.1=q.2∧0 < q.1.getD k 0) (ht:¬ (edg es (tpV es.length tr q.2).toNat).2.1=q.2) :
  (q.1.set (tpV es.length tr q.2).toNat (q.1.getD (tpV es.length tr q.2).toNat 0 - 1),(edg es (tpV es.length tr q.2).toNat).2.1)=tpS es tr q:=by
 rcases h with ⟨k,h1,h2,h3,h4⟩ | ⟨k,h1,h2,h3,h4,h5⟩
 ·have e : tpV es.length tr q.2 = (k : Int) := by unfold tpV; rw [mpI_get, h1]; simp only [Option.map_some, Option.getD_some]; rw [if_pos (by omega)]
  rw [e,Int.toNat_natCast] at ht
  exact absurd h3 ht
 ·have e : tpV es.length tr q.2 = (k : Int) := by unfold tpV; rw [mpI_get, h1]; simp only [Option.map_some, Option.getD_some]; rw [if_neg (by omega)]; omega
  unfold tpS
  rw [e,h1]
  simp only [Option.getD_some]
  rw [if_neg (by omega),show ((es.length:Nat):Int)+(k:Int) - ((es.length:Nat):Int)=(k:Int) by omega]
@[irreducible]
def mfR (g:T26) (s t:Int):List Int×List Int:=(mfF g.2 s t,fsts (srch g.2 (mfF g.2 s t) s))
theorem mfR_at {g:T26} {s t:Int} {i:Nat} (h:(mget (mpI (List.length g.2) (srch g.2 (flIt g.2 s t i) s)) t).isSome=false) (hi:i≤200):(flIt g.2 s t i,fsts (srch g.2 (flIt g.2 s t i) s))=mfR g s t:=by
 rw [mpI_some] at h
 unfold mfR
 rw [mf_end h hi]
theorem fnd_suc {es:List T58} {s t:Int} {i:Nat} (h:(mget (mpI (List.length es) (srch es (flIt es s t i) s)) t).isSome=true) (hj:∀ j,j < i→fndB es s t j=true):∀ j,j < i+1→fndB es s t j=true:=fun j hj'=>by
 rw [mpI_some] at h
 by_cases e:j=i
 ·subst e;exact h
 ·exact hj j (by omega)
def flV (g:T26) (f:List Int) (s:Int):Int:=if List.length f=List.length g.2 then -(exF g.2 f s) else 0
def mfV (g:T26) (s t:Int):Int:=if qOK g s t=true then flV g (mfF g.2 s t) s else 0
theorem mf_cap {g:T26} {s t:Int} (h:qOK g s t=true):CapOK g.2 (mfF g.2 s t):=by unfold mfF;exact (flIt_ok (qOK_t h).1 (qOK_t h).2.1 200).1
theorem flV_bd {g:T26} {f:List Int} {s:Int} (hE:EOK g.2 g.1) (hf:CapOK g.2 f):-160≤flV g f s∧flV g f s≤160:=by
 have:=ex_bd hE hf s (List.length g.2) (Nat.le_refl _)
 have:=hE.len
 unfold flV exF
 split<;>omega
theorem mfV_bd (g:T26) (s t:Int):-160≤mfV g s t∧mfV g s t≤160:=by
 unfold mfV
 split
 ·rename_i h;exact flV_bd (qOK_t h).1 (mf_cap h)
 ·omega
theorem cap_fit {es:List T58} {f:List Int} (h:CapOK es f) {sz:Int} (hE:EOK es sz) {t:Nat}:Sh.fit (.sl t (.int 3)) f:=Sh.fit_len rfl (by have:=h.1;have:=hE.len;omega)
theorem exv_tt {es:List T58} {f:List Int} {v:Int} {i:Nat} (h1:(edg es i).1=v) (h2:(edg es i).2.1=v):-(exTo es f v i)+f.getD i 0 - f.getD i 0=-(exTo es f v (i+1)):=by simp only [exTo];rw [if_pos h1,if_pos h2];omega
theorem exv_tf {es:List T58} {f:List Int} {v:Int} {i:Nat} (h1:(edg es i).1=v) (h2:¬ (edg es i).2.1=v):-(exTo es f v i)+f.getD i 0=-(exTo es f v (i+1)):=by simp only [exTo];rw [if_pos h1,if_neg h2];omega
theorem exv_ft {es:List T58} {f:List Int} {v:Int} {i:Nat} (h1:¬ (edg es i).1=v) (h2:(edg es i).2.1=v):-(exTo es f v i) - f.getD i 0=-(exTo es f v (i+1)):=by simp only [exTo];rw [if_neg h1,if_pos h2];omega
theorem exv_ff {es:List T58} {f:List Int} {v:Int} {i:Nat} (h1:¬ (edg es i).1=v) (h2:¬ (edg es i).2.1=v):-(exTo es f v i)=-(exTo es f v (i+1)):=by simp only [exTo];rw [if_neg h1,if_neg h2];omega
def mfW (g:T26) (s t:Int):List Int:=if qOK g s t=true then mfF g.2 s t else []
theorem mfW_y {g:T26} {s t:Int} (h:qOK g s t=true):mfW g s t=mfF g.2 s t:=if_pos h
theorem mfW_cap {g:T26} {s t:Int} (h:qOK g s t=true):CapOK g.2 (mfW g s t):=by rw [mfW_y h];exact mf_cap h
theorem mfV_y {g:T26} {s t:Int} (h:qOK g s t=true):flV g (mfW g s t) s=mfV g s t:=by rw [mfW_y h];exact (if_pos h).symm
theorem mfV_n {g:T26} {s t:Int} (h:qOK g s t=false):0=mfV g s t:=(if_neg (by rw [h];decide)).symm
def cdF (g:T26) (s t:Int):Int:=if validGr g=true then mfV (unG g) s t else 0
theorem cap_fitW {g:T26} {s t:Int} {u:Nat} (h:qOK g s t=true):Sh.fit (.sl u (.int 3)) (mfW g s t):=cap_fit (mfW_cap h) (qOK_t h).1
def flt (p:T58→Bool) (es:List T58) (i:Nat):List Nat:=(List.range i).filter fun k=>p (edg es k)
def fltL (p:T58→Bool) (es:List T58) (i:Nat):List Int:=(flt p es i).map fun (k:Nat)=>(k:Int)
def efL (es:List T58) (v:Int):List Int:=fltL (fun e=>decide (e.1=v)) es es.length
def etL (es:List T58) (v:Int):List Int:=fltL (fun e=>decide (e.2.1=v)) es es.length
theorem fltL_y {p:T58→Bool} {es:List T58} {i:Nat} (h:p (edg es i)=true):fltL p es i++[(i:Int)]=fltL p es (i+1):=by
 unfold fltL flt
 rw [List.range_succ,List.filter_append,List.map_append,List.filter_cons_of_pos (p:=fun k=>p (edg es k)) (a:=i) (l:=[]) h];rfl
theorem fltL_n {p:T58→Bool} {es:List T58} {i:Nat} (h:p (edg es i)=false):fltL p es i=fltL p es (i+1):=by
 unfold fltL flt
 rw [List.range_succ,List.filter_append,List.map_append,List.filter_cons_of_neg (p:=fun k=>p (edg es k)) (a:=i) (l:=[]) (by show ¬ p (edg es i)=true;rw [h];decide)];simp
theorem flt_len (p:T58→Bool) (es:List T58) (i:Nat):(flt p es i).length≤i:=by
 unfold flt
 have:=List.length_filter_le (fun k=>p (edg es k)) (List.range i)
 rwa [List.length_range] at this
theorem fltL_len (p:T58→Bool) (es:List T58) (i:Nat):(fltL p es i).length≤i:=by
 unfold fltL;rw [List.length_map];exact flt_len p es i
theorem fltL_at {p:T58→Bool} {es:List T58} {i j:Nat} (h:j < (fltL p es i).length):(fltL p es i).getD j 0=(((flt p es i).getD j 0:Nat):Int)∧(flt p es i).getD j 0 < i∧p (edg es ((flt p es i).getD j 0))=true:=by
 have hl:j < (flt p es i).length:=by unfold fltL at h;rwa [List.length_map] at h
 have hm:(flt p es i).getD j 0∈flt p es i:=by rw [getD_of_lt hl];exact List.getElem_mem hl
 have hm2:=List.mem_filter.1 (show (flt p es i).getD j 0∈(List.range i).filter fun k=>p (edg es k) from hm)
 refine ⟨?_,List.mem_range.1 hm2.1,hm2.2⟩
 unfold fltL
 rw [getD_of_lt (by simpa using hl),List.getElem_map,getD_of_lt hl]
def sumL (f:List Int):List Int→Int
 | []=>0
 | e::l=>f.getD e.toNat 0+sumL f l
theorem sumL_snoc (f:List Int) (e:Int):∀ l,sumL f (l++[e])=sumL f l+f.getD e.toNat 0
 | []=>by simp only [List.nil_append,sumL];omega
 | x::l=>by simp only [List.cons_append,sumL];rw [sumL_snoc f e l];omega
theorem sumL_bd {f:List Int} (h:∀ k,0≤f.getD k 0∧f.getD k 0≤8):∀ l,0≤sumL f l∧sumL f l≤8*((List.length l:Nat):Int)
 | []=>by simp [sumL]
 | x::l=>by have:=sumL_bd h l;have:=h x.toNat;simp only [sumL,List.length_cons];omega
theorem sum_ex {es:List T58} {f:List Int} {v:Int}:∀ i,sumL f (fltL (fun e=>decide (e.1=v)) es i) - sumL f (fltL (fun e=>decide (e.2.1=v)) es i)=-(exTo es f v i)
 | 0=>rfl
 | i + 1 => by
  have ih:=sum_ex (es:=es) (f:=f) (v:=v) i
  by_cases h1:(edg es i).1=v<;>by_cases h2:(edg es i).2.1=v
  ·rw [← exv_tt h1 h2,← ih,← fltL_y (i:=i) (p:=fun e=>decide (e.1=v)) (decide_eq_true h1),← fltL_y (i:=i) (p:=fun e=>decide (e.2.1=v)) (decide_eq_true h2),sumL_snoc,sumL_snoc,Int.toNat_natCast];omega
  ·rw [← exv_tf h1 h2,← ih,← fltL_y (i:=i) (p:=fun e=>decide (e.1=v)) (decide_eq_true h1),← fltL_n (i:=i) (p:=fun e=>decide (e.2.1=v)) (decide_eq_false h2),sumL_snoc,Int.toNat_natCast];omega
  ·rw [← exv_ft h1 h2,← ih,← fltL_n (i:=i) (p:=fun e=>decide (e.1=v)) (decide_eq_false h1),← fltL_y (i:=i) (p:=fun e=>decide (e.2.1=v)) (decide_eq_true h2),sumL_snoc,Int.toNat_natCast];omega
  ·rw [← exv_ff h1 h2,← ih,← fltL_n (i:=i) (p:=fun e=>decide (e.1=v)) (decide_eq_false h1),← fltL_n (i:=i) (p:=fun e=>decide (e.2.1=v)) (decide_eq_false h2)]
theorem sum_flV {g:T26} {f:List Int} {s:Int} (h:List.length f=List.length g.2):sumL f (efL g.2 s) - sumL f (etL g.2 s)=flV g f s:=by
 unfold flV;rw [if_pos h];exact sum_ex _
theorem cap_at {es:List T58} {f:List Int} {sz:Int} (hE:EOK es sz) (h:CapOK es f) (k:Nat):0≤f.getD k 0∧f.getD k 0≤8:=by
 by_cases hk:k < es.length
 ·have:=h.2 k hk;have:=(hE.ed k hk).2.2.2;omega
 ·rw [List.getD_eq_getElem?_getD,List.getElem?_eq_none (by rw [h.1];omega)];show (0:Int)≤0∧(0:Int)≤8;omega
theorem mget_idx (tr:List (Int×Int)) (x:Int):(mget tr x).isSome=(midx tr x).isSome:=by unfold mget;cases midx tr x<;>rfl
def hasL (l:List Int) (x:Int):Bool:=List.any l fun y=>decide (y=x)
theorem hasL_fst (x:Int):∀ tr:List (Int×Int),hasL (fsts tr) x=(mget tr x).isSome
 | []=>rfl
 | p :: l => by
  have ih:=hasL_fst x l
  have e:hasL (fsts (p::l)) x=(decide (p.1=x) || hasL (fsts l) x):=rfl
  rw [e,ih,mget_idx,mget_idx]
  show _=(bif decide (x=p.1) then some 0 else (midx l x).map (·+1)).isSome
  by_cases h:x=p.1
  ·rw [decide_eq_true h,decide_eq_true h.symm];rfl
  ·rw [decide_eq_false h, decide_eq_false (fun e => h e.symm)]
   cases midx l x<;>rfl
def byL (sz:Int) (tr:List (Int×Int)):List Int:=(List.range sz.toNat).map fun (x:Nat)=>(mget tr (x:Int)).getD (-1)
theorem byL_len (sz:Int) (tr:List (Int×Int)):(byL sz tr).length=sz.toNat:=by simp [byL]
theorem byL_get {sz:Int} {tr:List (Int×Int)} {i:Nat} (h:i < (byL sz tr).length):(byL sz tr)[i]=(mget tr (i:Int)).getD (-1):=by simp [byL]
theorem byL_at {sz x:Int} {tr:List (Int×Int)} (h:0≤x∧x < sz):(byL sz tr).getD x.toNat 0=(mget tr x).getD (-1):=by
 have hl:x.toNat < (byL sz tr).length:=by rw [byL_len];omega
 rw [getD_of_lt hl,byL_get,Int.toNat_of_nonneg h.1]
theorem midx_app {x:Int}:∀ {tr us:List (Int×Int)},(midx tr x).isSome=true→midx (tr++us) x=midx tr x
 | [],_,h=>by cases h
 | p :: l, us, h => by
  show midx (p::(l++us)) x=_
  unfold midx at h ⊢
  by_cases e:x=p.1
  ·rw [decide_eq_true e];rfl
  ·rw [decide_eq_false e, cond_false] at h ⊢
   have:(midx l x).isSome=true:=by cases hm:midx l x with | none=>rw [hm] at h;cases h | some k=>rfl
   rw [midx_app this,cond_false]
theorem midx_snoc_no {x y c:Int}:∀ {tr:List (Int×Int)},(midx tr x).isSome=false→midx (tr++[(y,c)]) x=if x=y then some tr.length else none
 | [], _ => by
  show midx [(y,c)] x=_
  unfold midx
  by_cases e:x=y
  ·rw [decide_eq_true e,if_pos e];rfl
  ·rw [decide_eq_false e,if_neg e];rfl
 | p :: l, h => by
  show midx (p::(l++[(y,c)])) x=_
  unfold midx at h ⊢
  by_cases e:x=p.1
  ·rw [decide_eq_true e] at h;cases h
  ·rw [decide_eq_false e, cond_false] at h ⊢
   have:(midx l x).isSome=false:=by cases hm:midx l x with | none=>rfl | some k=>rw [hm] at h;cases h
   rw [midx_snoc_no this]
   split<;>rfl
theorem mget_snoc {tr:List (Int×Int)} {x y c:Int} (hn:(mget tr y).isSome=false):mget (tr++[(y,c)]) x=if x=y then some c else mget tr x:=by
 by_cases e:x=y
 ·subst e
  rw [if_pos rfl]
  have h1:=midx_snoc_no (y:=x) (c:=c) (show (midx tr x).isSome=false by rw [← mget_idx];exact hn)
  unfold mget
  rw [h1,if_pos rfl]
  simp only [Option.map_some,Option.some.injEq]
  rw [getD_end]
 ·rw [if_neg e]
  cases hm:(midx tr x).isSome with
  | true =>
   have h1:=midx_app (us:=[(y,c)]) hm
   unfold mget
   rw [h1]
   cases hk:midx tr x with
   | none=>rfl
   | some k=>simp only [Option.map_some,Option.some.injEq];rw [getD_app (midx_some hk).1]
  | false =>
   have h1:=midx_snoc_no (y:=y) (c:=c) hm
   unfold mget
   rw [h1,if_neg e]
   cases hk:midx tr x with
   | none=>rfl
   | some k=>rw [hk] at hm;cases hm
theorem byL_set {sz y c:Int} {tr:List (Int×Int)} (hy:0≤y∧y < sz) (hn:(mget tr y).isSome=false):(byL sz tr).set y.toNat c=byL sz (tr++[(y,c)]):=by
 apply List.ext_getElem
 ·rw [List.length_set,byL_len,byL_len]
 ·intro i h1 h2
  rw [List.getElem_set]
  rw [byL_get,byL_get,mget_snoc hn]
  by_cases e:y.toNat=i
  ·rw [if_pos e,if_pos (by omega)];rfl
  ·rw [if_neg e,if_neg (by omega)]
theorem byL_zero {sz s:Int}:List.replicate sz.toNat (-1)=byL sz [(s,-1)]:=by
 unfold byL
 apply List.ext_getElem
 ·simp
 ·intro i h1 h2
  rw [List.getElem_replicate,List.getElem_map,List.getElem_range]
  unfold mget midx
  by_cases e:((i:Nat):Int)=s
  ·rw [decide_eq_true e];rfl
  ·rw [decide_eq_false e];rfl
theorem mfR_at2 {g:T26} {s t:Int} {i:Nat} (h:hasL (fsts (srch g.2 (flIt g.2 s t i) s)) t=false) (hi:i≤200):(flIt g.2 s t i,fsts (srch g.2 (flIt g.2 s t i) s))=mfR g s t:=mfR_at (by rw [mpI_some,← hasL_fst];exact h) hi
theorem fnd_suc2 {es:List T58} {s t:Int} {i:Nat} (h:hasL (fsts (srch es (flIt es s t i) s)) t=true) (hj:∀ j,j < i→fndB es s t j=true):∀ j,j < i+1→fndB es s t j=true:=fnd_suc (by rw [mpI_some,← hasL_fst];exact h) hj
def inTo (n i:Nat):List Int:=List.replicate i (-1)++List.replicate (n - i) 0
theorem inTo_len {n i:Nat} (h:i≤n):(inTo n i).length=n:=by simp [inTo];omega
theorem inTo_set {n i:Nat} (h:i < n):(inTo n i).set i (-1)=inTo n (i+1):=by
 unfold inTo
 rw [List.set_append_right _ _ (by simp),List.length_replicate,Nat.sub_self,show n - i=(n - (i+1))+1 by omega,List.replicate_succ,List.set_cons_zero,List.replicate_succ' (n:=i)]
 simp
theorem inTo_all {n i:Nat} (h:n=i):inTo n i=List.replicate n (-1):=by subst h;unfold inTo;simp
def fwL (es:List T58) (f:List Int) (a:Int) (tr:List (Int×Int)) (j:Nat):List (Int×Int):=(List.take j (flt (fun e=>decide (e.1=a)) es es.length)).foldl (fwS es f a) tr
def bwL (es:List T58) (f:List Int) (a:Int) (tr:List (Int×Int)) (j:Nat):List (Int×Int):=(List.take j (flt (fun e=>decide (e.2.1=a)) es es.length)).foldl (bwS es f a) tr
theorem ftake {es:List T58} {p:T58→Bool} {j:Nat} (h:j < (fltL p es es.length).length):List.take (j+1) (flt p es es.length)=List.take j (flt p es es.length)++[((fltL p es es.length).getD j 0).toNat]:=by
 have hl:j < (flt p es es.length).length:=by unfold fltL at h;rwa [List.length_map] at h
 rw [(fltL_at h).1,Int.toNat_natCast]
 exact take_snoc hl
theorem fwL_succ {es:List T58} {f:List Int} {a:Int} {tr:List (Int×Int)} {j:Nat} (h:j < (efL es a).length):fwL es f a tr (j+1)=fwS es f a (fwL es f a tr j) ((efL es a).getD j 0).toNat:=by
 unfold fwL efL
 rw [ftake h,List.foldl_append];rfl
theorem bwL_succ {es:List T58} {f:List Int} {a:Int} {tr:List (Int×Int)} {j:Nat} (h:j < (etL es a).length):bwL es f a tr (j+1)=bwS es f a (bwL es f a tr j) ((etL es a).getD j 0).toNat:=by
 unfold bwL etL
 rw [ftake h,List.foldl_append];rfl
theorem fold_flt {α:Type} {p:Nat→Bool} {g:α→Nat→α} (h:∀ x k,p k=false→g x k=x):∀ (l:List Nat) (x:α),(l.filter p).foldl g x=l.foldl g x
 | [],_=>rfl
 | k :: l, x => by
  cases hk:p k with
  | true=>rw [List.filter_cons_of_pos hk];exact fold_flt h l _
  | false=>rw [List.filter_cons_of_neg (by rw [hk];decide)];show _=l.foldl g (g x k);rw [h x k hk];exact fold_flt h l x
theorem fwL_all {es:List T58} {f:List Int} {a:Int} {tr:List (Int×Int)} {j:Nat} (h:(efL es a).length≤j):fwL es f a tr j=fwTo es f a tr es.length:=by
 have hl:(flt (fun e=>decide (e.1=a)) es es.length).length≤j:=by unfold efL fltL at h;rwa [List.length_map] at h
 unfold fwL
 rw [List.take_of_length_le hl]
 exact fold_flt (p:=fun k=>decide ((edg es k).1=a)) (fun x k hk=>if_neg fun e=>of_decide_eq_false hk e.1.1) _ _
theorem bwL_all {es:List T58} {f:List Int} {a:Int} {tr:List (Int×Int)} {j:Nat} (h:(etL es a).length≤j):bwL es f a tr j=bwTo es f a tr es.length:=by
 have hl:(flt (fun e=>decide (e.2.1=a)) es es.length).length≤j:=by unfold etL fltL at h;rwa [List.length_map] at h
 unfold bwL
 rw [List.take_of_length_le hl]
 exact fold_flt (p:=fun k=>decide ((edg es k).2.1=a)) (fun x k hk=>if_neg fun e=>of_decide_eq_false hk e.1.1) _ _
theorem efL_at {es:List T58} {a:Int} {j:Nat} (h:j < (efL es a).length):0≤(efL es a).getD j 0∧(efL es a).getD j 0 < ((es.length:Nat):Int)∧(edg es ((efL es a).getD j 0).toNat).1=a:=by
 have h1:=fltL_at h
 unfold efL
 rw [h1.1,Int.toNat_natCast]
 exact ⟨by omega,by omega,of_decide_eq_true h1.2.2⟩
theorem etL_at {es:List T58} {a:Int} {j:Nat} (h:j < (etL es a).length):0≤(etL es a).getD j 0∧(etL es a).getD j 0 < ((es.length:Nat):Int)∧(edg es ((etL es a).getD j 0).toNat).2.1=a:=by
 have h1:=fltL_at h
 unfold etL
 rw [h1.1,Int.toNat_natCast]
 exact ⟨by omega,by omega,of_decide_eq_true h1.2.2⟩
theorem efL_len (es:List T58) (a:Int):(efL es a).length≤es.length:=fltL_len _ _ _
theorem etL_len (es:List T58) (a:Int):(etL es a).length≤es.length:=fltL_len _ _ _
theorem fwL_good {es:List T58} {f:List Int} {sz s a:Int} {tr:List (Int×Int)} (hE:EOK es sz) (h:Good es f sz s tr) (ha:InT tr a):∀ j,j≤(efL es a).length→Good es f sz s (fwL es f a tr j)∧InT (fwL es f a tr j) a
 | 0,_=>⟨h,ha⟩
 | j + 1, hj => by
  obtain ⟨h1,h2⟩:=fwL_good hE h ha j (by omega)
  have h3:=efL_at (es:=es) (a:=a) (j:=j) (by omega)
  rw [fwL_succ (by omega)]
  obtain ⟨g1,g2,_⟩:=fwS_good hE (show ((efL es a).getD j 0).toNat < es.length by omega) h1 h2
  exact ⟨g1,g2⟩
theorem bwL_good {es:List T58} {f:List Int} {sz s a:Int} {tr:List (Int×Int)} (hE:EOK es sz) (h:Good es f sz s tr) (ha:InT tr a):∀ j,j≤(etL es a).length→Good es f sz s (bwL es f a tr j)∧InT (bwL es f a tr j) a
 | 0,_=>⟨h,ha⟩
 | j + 1, hj => by
  obtain ⟨h1,h2⟩:=bwL_good hE h ha j (by omega)
  have h3:=etL_at (es:=es) (a:=a) (j:=j) (by omega)
  rw [bwL_succ (by omega)]
  obtain ⟨g1,g2,_⟩:=bwS_good hE (show ((etL es a).getD j 0).toNat < es.length by omega) h1 h2
  exact ⟨g1,g2⟩
theorem fwS_y {es:List T58} {f:List Int} {a:Int} {tr:List (Int×Int)} {k:Nat} (h1:(edg es k).1=a) (h2:f.getD k 0 < (edg es k).2.2) (h3:(mget tr (edg es k).2.1).isSome=false):fwS es f a tr k=tr++[((edg es k).2.1,(k:Int))]:=if_pos ⟨⟨h1,h2⟩,h3⟩
theorem bwS_y {es:List T58} {f:List Int} {a:Int} {tr:List (Int×Int)} {k:Nat} (h1:(edg es k).2.1=a) (h2:0 < f.getD k 0) (h3:(mget tr (edg es k).1).isSome=false):bwS es f a tr k=tr++[((edg es k).1,((es.length:Nat):Int)+(k:Int))]:=if_pos ⟨⟨h1,h2⟩,h3⟩
theorem fl_y {es:List T58} {f:List Int} {sz a:Int} {T:List (Int×Int)} {j:Nat} (hE:EOK es sz) (hj:j < (efL es a).length) (h2:f.getD ((efL es a).getD j 0).toNat 0 < (edg es ((efL es a).getD j 0).toNat).2.2) (h3:hasL (fsts (fwL es f a T j)) (edg es ((efL es a).getD j 0).toNat).2.1=false):fsts (fwL es f a T j)++[(edg es ((efL es a).getD j 0).toNat).2.1]=fsts (fwL es f a T (j+1))∧(byL sz (fwL es f a T j)).set ((edg es ((efL es a).getD j 0).toNat).2.1).toNat ((efL es a).getD j 0)=byL sz (fwL es f a T (j+1)):=by
 rw [hasL_fst] at h3
 have h4:=efL_at hj
 have e:fwL es f a T (j+1)=fwL es f a T j++[((edg es ((efL es a).getD j 0).toNat).2.1,(efL es a).getD j 0)]:=by
  rw [fwL_succ hj]
  rw [fwS_y h4.2.2 h2 h3,Int.toNat_of_nonneg h4.1]
 rw [e,fsts_snoc]
 exact ⟨rfl,byL_set (hE.ed _ (by omega)).2.1 h3⟩
theorem fl_n {es:List T58} {f:List Int} {a:Int} {T:List (Int×Int)} {j:Nat} (hj:j < (efL es a).length) (h:¬ f.getD ((efL es a).getD j 0).toNat 0 < (edg es ((efL es a).getD j 0).toNat).2.2∨hasL (fsts (fwL es f a T j)) (edg es ((efL es a).getD j 0).toNat).2.1=true):fwL es f a T (j+1)=fwL es f a T j:=by
 rw [hasL_fst] at h
 rw [fwL_succ hj]
 refine if_neg ?_
 rintro ⟨⟨h1,h2⟩,h3⟩
 rcases h with h | h
 ·exact h h2
 ·rw [h3] at h;cases h
theorem bl_y {es:List T58} {f:List Int} {sz a:Int} {T:List (Int×Int)} {j:Nat} (hE:EOK es sz) (hj:j < (etL es a).length) (h2:f.getD ((etL es a).getD j 0).toNat 0 > 0) (h3:hasL (fsts (bwL es f a T j)) (edg es ((etL es a).getD j 0).toNat).1=false):fsts (bwL es f a T j)++[(edg es ((etL es a).getD j 0).toNat).1]=fsts (bwL es f a T (j+1))∧(byL sz (bwL es f a T j)).set ((edg es ((etL es a).getD j 0).toNat).1).toNat (((es.length:Nat):Int)+(etL es a).getD j 0)=byL sz (bwL es f a T (j+1)):=by
 rw [hasL_fst] at h3
 have h4:=etL_at hj
 have e:bwL es f a T (j+1)=bwL es f a T j++[((edg es ((etL es a).getD j 0).toNat).1,((es.length:Nat):Int)+(etL es a).getD j 0)]:=by
  rw [bwL_succ hj]
  rw [bwS_y h4.2.2 h2 h3,Int.toNat_of_nonneg h4.1]
 rw [e,fsts_snoc]
 exact ⟨rfl,byL_set (hE.ed _ (by omega)).1 h3⟩
theorem bl_n {es:List T58} {f:List Int} {a:Int} {T:List (Int×Int)} {j:Nat} (hj:j < (etL es a).length) (h:¬ f.getD ((etL es a).getD j 0).toNat 0 > 0∨hasL (fsts (bwL es f a T j)) (edg es ((etL es a).getD j 0).toNat).1=true):bwL es f a T (j+1)=bwL es f a T j:=by
 rw [hasL_fst] at h
 rw [bwL_succ hj]
 refine if_neg ?_
 rintro ⟨⟨h1,h2⟩,h3⟩
 rcases h with h | h
 ·exact h h2
 ·rw [h3] at h;cases h
theorem by_code {es:List T58} {f:List Int} {sz s t:Int} {tr:List (Int×Int)} {j:Nat} {q:List Int×Int} (hE:EOK es sz) (hG:Good es f sz s tr) (h:TpOK es f s t tr j q) (hq:¬ q.2=s) :
  (0≤q.2∧q.2 < sz)∧(byL sz tr).getD q.2.toNat 0=(mget tr q.2).getD 0∧(0≤(mget tr q.2).getD 0∧(mget tr q.2).getD 0 < 2*((es.length:Nat):Int))∧∀ k,0≤q.1.getD k 0∧q.1.getD k 0≤8:=by
 obtain ⟨p,hp,hpq,_,_⟩:=h.pos
 have hr:=hG.rg p hp
 rw [hpq] at hr
 refine ⟨hr,?_,?_,cap_at hE h.cap⟩
 ·rw [byL_at hr]
  rcases (tp_step hE hG h hq).2 with ⟨k,h1,_⟩ | ⟨k,h1,_⟩<;>rw [h1]<;>rfl
 ·rcases (tp_step hE hG h hq).2 with ⟨k,h1,h2,_⟩ | ⟨k,h1,h2,_⟩<;>rw [h1]<;>simp only [Option.getD_some]<;>omega
def S_cmp_Compare_int_:Sum:={ fid:=51,dom:=[(.int 3),(.int 3)],cod:=[(.int 3)],dp:=true,fz:=false,pre:=fun x=>True,g:=fun x=>((cmpI x.1 x.2.1),()) }
def S_cmp_Compare_int__tab:List (Nat×Sum):=[(52,S_cmp_isNaN_int_)]
theorem S_cmp_Compare_int__ok:FnOK Try.prog 51 S_cmp_Compare_int_:=by
 refine at_enter 20 (fun x=>⟨[(0,aI x.1),(1,aI x.2.1)],[]⟩) Try.func51 rfl (by kernel_rfl) (fun x=>rfl) ?_
 rintro w0 Z0 ⟨x0,x1,u⟩ a w
 revert x0 x1
 intro (x0:Int) (x1:Int) hpre hlens h
 have hT:TabOK Try.prog w0 [] S_cmp_Compare_int__tab:=(.cons S_cmp_isNaN_int__ok .nil)
 refine wp_seq ?_
 refine at_regq [] { ts:=[0,1,4],os:=[] } [] gamOK hT h (by kernel_rfl) trivial fun a w h=>then_normal (wp_seq ?_)
 refine at_regq [] { ts:=[0,1,4,5],os:=[] } [True] gamOK hT h (by kernel_rfl) ⟨trivial,trivial⟩ fun a w h=>then_normal (wp_seq ?_)
 refine at_regq [] { ts:=[0,1,4,5,6],os:=[] } [True] gamOK hT h (by kernel_rfl) ⟨trivial,trivial⟩ fun a w h=>then_normal (wp_seq (wp_seq ?_))
 refine at_regq [] { ts:=[0,1,4,6,11],os:=[] } [] gamOK hT h (by kernel_rfl) trivial fun a w h=>then_normal ?_
 refine at_test ((D_cmp_isNaN_int_ x0)) h (by kernel_rfl) (fun h1=>?_) (fun h1=>?_)
 ·refine wp_seq (wp_seq ?_)
  refine at_regq [] { ts:=[0,1,4,6,12],os:=[] } [] gamOK hT h (by kernel_rfl) trivial fun a w h=>then_normal ?_
  refine at_test ((D_cmp_isNaN_int_ x1)) h (by kernel_rfl) (fun h2=>?_) (fun h2=>?_)
  ·refine wp_seq ?_
   refine at_regq [] { ts:=[0,1,4,6],os:=[] } [] gamOK hT h (by kernel_rfl) trivial fun a w h=>then_normal (wp_ret (then_ret (then_ret ?_)))
   exact at_return (0,()) [] h (by kernel_rfl) trivial (congrArg (fun z=>(z,())) (show (0)=cmpI x0 x1 from by (unfold cmpI;simp_all [D_cmp_isNaN_int_];try omega)))
  ·refine wp_skip (then_normal (wp_seq ?_))
   refine at_regq [] { ts:=[0,1,4,6],os:=[] } [] gamOK hT h (by kernel_rfl) trivial fun a w h=>then_normal (wp_ret (then_ret ?_))
   exact at_return ((-1),()) [] h (by kernel_rfl) trivial (congrArg (fun z=>(z,())) (show ((-1))=cmpI x0 x1 from by (unfold cmpI;simp_all [D_cmp_isNaN_int_];try omega)))
 ·refine wp_skip (then_normal (wp_seq (wp_seq ?_)))
  refine at_regq [] { ts:=[0,1,4,13],os:=[] } [] gamOK hT h (by kernel_rfl) trivial fun a w h=>then_normal ?_
  refine at_test ((D_cmp_isNaN_int_ x1)) h (by kernel_rfl) (fun h3=>?_) (fun h3=>?_)
  ·refine wp_seq ?_
   refine at_regq [] { ts:=[0,1,4],os:=[] } [] gamOK hT h (by kernel_rfl) trivial fun a w h=>then_normal (wp_ret (then_ret ?_))
   exact at_return (1,()) [] h (by kernel_rfl) trivial (congrArg (fun z=>(z,())) (show (1)=cmpI x0 x1 from by (unfold cmpI;simp_all [D_cmp_isNaN_int_];try omega)))
  ·refine wp_skip (then_normal (wp_seq (wp_seq ?_)))
   refine at_regq [] { ts:=[0,1,4,16],os:=[] } [] gamOK hT h (by kernel_rfl) trivial fun a w h=>then_normal ?_
   refine at_test (decide (x0 < x1)) h (by kernel_rfl) (fun h4=>?_) (fun h4=>?_)
   ·replace h4 : x0 < x1 := of_decide_eq_true h4
    refine wp_seq ?_
    refine at_regq [] { ts:=[0,1,4],os:=[] } [] gamOK hT h (by kernel_rfl) trivial fun a w h=>then_normal (wp_ret (then_ret ?_))
    exact at_return ((-1),()) [] h (by kernel_rfl) trivial (congrArg (fun z=>(z,())) (show ((-1))=cmpI x0 x1 from by (unfold cmpI;simp_all [D_cmp_isNaN_int_];try omega)))
   ·replace h4 : ¬ (x0 < x1) := of_decide_eq_false h4
    refine wp_skip (then_normal (wp_seq (wp_seq ?_)))
    refine at_regq [] { ts:=[4,19],os:=[] } [] gamOK hT h (by kernel_rfl) trivial fun a w h=>then_normal ?_
    refine at_test (decide (x0 > x1)) h (by kernel_rfl) (fun h5=>?_) (fun h5=>?_)
    ·replace h5 : x0 > x1 := of_decide_eq_true h5
     refine wp_seq ?_
     refine at_regq [] { ts:=[4],os:=[] } [] gamOK hT h (by kernel_rfl) trivial fun a w h=>then_normal (wp_ret (then_ret ?_))
     exact at_return (1,()) [] h (by kernel_rfl) trivial (congrArg (fun z=>(z,())) (show (1)=cmpI x0 x1 from by (unfold cmpI;simp_all [D_cmp_isNaN_int_];try omega)))
    ·replace h5 : ¬ (x0 > x1) := of_decide_eq_false h5
     refine wp_skip (then_normal (wp_seq ?_))
     refine at_regq [] { ts:=[4],os:=[] } [] gamOK hT h (by kernel_rfl) trivial fun a w h=>then_normal (wp_ret ?_)
     exact at_return (0,()) [] h (by kernel_rfl) trivial (congrArg (fun z=>(z,())) (show (0)=cmpI x0 x1 from by (unfold cmpI;simp_all [D_cmp_isNaN_int_];try omega)))

abbrev Q_cmp_Or_int_:=(fun (x0:(List Int))=>Sh.fit s29 x0)
def S_cmp_Or_int_:Sum:={ fid:=50,dom:=[s29],cod:=[(.int 3)],dp:=true,fz:=false,pre:=fun x=>Q_cmp_Or_int_ x.1,g:=fun x=>((orF x.1),()) }
def S_cmp_Or_int__tab:List (Nat×Sum):=[]
theorem S_cmp_Or_int__ok:FnOK Try.prog 50 S_cmp_Or_int_:=by
 refine at_enter 18 (fun x=>⟨[(0,aF (.int 3) x.1)],[]⟩) Try.func50 rfl (by kernel_rfl) (fun x=>rfl) ?_
 rintro w0 Z0 ⟨x0,u⟩ a w
 revert x0
 intro (x0:(List Int)) hpre hlens h
 replace hpre:Q_cmp_Or_int_ x0:=hpre
 have hT:TabOK Try.prog w0 [] S_cmp_Or_int__tab:=.nil
 have hf0:Sh.fit s29 x0:=hpre
 have hn0_1:List.length x0≤1073741824:=hf0.1
 refine wp_seq ?_
 refine at_regq [] { ts:=[0,2],os:=[] } [] gamOK hT h (by kernel_rfl) trivial fun a w h=>then_normal (wp_seq ?_)
 refine at_regq [] { ts:=[0,2,3],os:=[] } [] gamOK hT h (by kernel_rfl) trivial fun a w h=>then_normal (wp_seq (wp_seq ?_))
 refine at_regq [] { ts:=[2,3,6,7,8],os:=[] } [] gamOK hT h (by kernel_rfl) trivial fun a w h=>then_normal (wp_block ?_)
 replace h:=at_out (σ':=⟨[(2,aI 0),(3,aI 0),(6,aF (.int 3) x0),(7,aI ((List.length x0:Nat):Int)),(8,aI 0)],[]⟩) { ts:=[2,3,6,7,8],os:=[] } h (by kernel_rfl)
 refine at_loop (fun i:Nat=>(⟨[(2,aI 0),(3,aI 0),(6,aF (.int 3) x0),(7,aI ((List.length x0:Nat):Int)),(8,aI ((i:Nat):Int))],[]⟩:St)) (fun i=>(i≤List.length x0∧∀ j,j < i→x0.getD j 0=0)) (fun i=>List.length x0 - i) (0) h (st_congr1 (fun (d0:Int)=>(⟨[(2,aI 0),(3,aI 0),(6,aF (.int 3) x0),(7,aI ((List.length x0:Nat):Int)),(8,aI d0)],[]⟩:St)) (show (0:Int)=(((0):Nat):Int) from by first | with_reducible rfl | (rfl) | rfl)) (by exact ⟨Nat.zero_le _,fun j h=>absurd h (by omega)⟩) ?_
 intro i a w hok0 h
 refine wp_seq ?_
 refine at_regq [] { ts:=[2,3,6,7,8,9],os:=[] } [] gamOK hT h (by kernel_rfl) trivial fun a w h=>then_normal (wp_seq ?_)
 refine at_test (decide (((i:Nat):Int) < ((List.length x0:Nat):Int))) h (by kernel_rfl) (fun h1=>?_) (fun h1=>?_)
 ·replace h1 : ((i : Nat) : Int) < ((List.length x0 : Nat) : Int) := of_decide_eq_true h1
  refine wp_skip (then_normal (wp_seq (wp_block (wp_seq ?_))))
  refine at_regq [] { ts:=[2,3,5,6,7,8],os:=[] } [(0:Int)≤((i:Nat):Int)∧((i:Nat):Int) < ((List.length x0:Nat):Int)] gamOK hT h (by kernel_rfl) ⟨(by refine ⟨?_,?_⟩<;>(first | omega | (simp only [lsA];omega) | (simp<;>omega))),trivial⟩ fun a w h=>then_normal (wp_seq ?_)
  refine at_regq [] { ts:=[2,3,5,6,7,8,14],os:=[] } [] gamOK hT h (by kernel_rfl) trivial fun a w h=>then_normal ?_
  refine at_test (!decide ((x0.getD i 0)=0)) h (by kernel_rfl) (fun h2=>?_) (fun h2=>?_)
  ·replace h2 : ¬ ((x0.getD i 0) = 0) := of_decide_eq_false (notT h2)
   refine wp_seq ?_
   refine at_regq [] { ts:=[2,3,6,7,8],os:=[] } [] gamOK hT h (by kernel_rfl) trivial fun a w h=>then_normal (wp_ret (in_ret (then_ret (then_ret (in_ret (then_ret ?_))))))
   exact at_return ((x0.getD i 0),()) [] h (by kernel_rfl) trivial (congrArg (fun z=>(z,())) (show ((x0.getD i 0))=orF x0 from by first | exact orF_at (by omega) hok0.2 (by first | assumption | omega) | exact orF_no (by omega) hok0.2))
  ·replace h2 : (x0.getD i 0) = 0 := of_decide_eq_true (notF h2)
   refine wp_skip (in_normal (then_normal ?_))
   refine at_regq [{ nw:=true }] { ts:=[2,3,6,7,8],os:=[] } [I64 (((i:Nat):Int)+1)] gamOK hT h (by kernel_rfl) ⟨⟨by first | omega | (simp only [lsA];omega) | (simp<;>omega),by first | omega | (simp only [lsA];omega) | (simp<;>omega)⟩,trivial⟩ fun a w h=>?_
   replace h:=at_out (σ':=⟨[(2,aI 0),(3,aI 0),(6,aF (.int 3) x0),(7,aI ((List.length x0:Nat):Int)),(8,aI (((i:Nat):Int)+1))],[]⟩) { ts:=[2,3,6,7,8],os:=[] } h (by kernel_rfl)
   exact ⟨i+1,at_eq h (st_congr1 (fun (d0:Int)=>(⟨[(2,aI 0),(3,aI 0),(6,aF (.int 3) x0),(7,aI ((List.length x0:Nat):Int)),(8,aI d0)],[]⟩:St)) (show (((i:Nat):Int)+1:Int)=(((i+1):Nat):Int) from by first | with_reducible rfl | (omega) | rfl)),(by exact ⟨by omega,fun j hj=>(Nat.lt_or_ge j i).elim (fun h9=>hok0.2 j h9) (fun h9=>by have e:j=i:=(by omega);subst e;first | assumption | omega)⟩),(by omega)⟩
 ·replace h1 : ¬ (((i : Nat) : Int) < ((List.length x0 : Nat) : Int)) := of_decide_eq_false h1
  refine wp_exit (then_exit (then_exit (in_hit (then_normal (wp_seq ?_)))))
  refine at_regq [] { ts:=[2],os:=[] } [] gamOK hT h (by kernel_rfl) trivial fun a w h=>then_normal (wp_ret ?_)
  exact at_return (0,()) [] h (by kernel_rfl) trivial (congrArg (fun z=>(z,())) (show (0)=orF x0 from by first | exact orF_at (by omega) hok0.2 (by first | assumption | omega) | exact orF_no (by omega) hok0.2))

def S_impl_compareEdges:Sum:={ fid:=45,dom:=[s58,s58],cod:=[(.int 3)],dp:=true,fz:=false,pre:=fun x=>True,g:=fun x=>((cmpE x.1 x.2.1),()) }
def S_impl_compareEdges_tab:List (Nat×Sum):=[(51,S_cmp_Compare_int_),(50,S_cmp_Or_int_)]
theorem S_impl_compareEdges_ok:FnOK Try.prog 45 S_impl_compareEdges:=by
 refine at_enter 17 (fun x=>⟨[(0,aG [cI x.1.1,cI x.1.2.1,cI x.1.2.2]),(1,aG [cI x.2.1.1,cI x.2.1.2.1,cI x.2.1.2.2])],[]⟩) Try.func45 rfl (by kernel_rfl) (fun x=>rfl) ?_
 rintro w0 Z0 ⟨x0,x1,u⟩ a w
 revert x0 x1
 intro (x0:T58) (x1:T58) hpre hlens h
 have hT:TabOK Try.prog w0 [] S_impl_compareEdges_tab:=(.cons S_cmp_Compare_int__ok (.cons S_cmp_Or_int__ok .nil))
 refine wp_seq ?_
 refine at_regq [{ ids:=[1] },{ ids:=[2] }] { ts:=[2,3,4],os:=[1,2] } [] gamOK hT h (by kernel_rfl) trivial fun a w h=>then_normal (wp_seq ?_)
 refine at_anyq [{},{},{},{},{},{},{},{},{},{},{ ids:=[3] },{},{}] { ts:=[4],os:=[] } [True,True,Q_cmp_Or_int_ ([(cmpI x0.1 x1.1),(cmpI x0.2.1 x1.2.1)])] gamOK hT mixed h (by kernel_rfl) ⟨trivial,trivial,(by exact ⟨show 2≤1073741824 by decide,fun _ _=>trivial⟩),trivial⟩ fun a w h=>then_normal (wp_ret ?_)
 exact at_return ((orF ([(cmpI x0.1 x1.1),(cmpI x0.2.1 x1.2.1)])),()) [] h (by kernel_rfl) trivial (congrArg (fun z=>(z,())) (show ((orF ([(cmpI x0.1 x1.1),(cmpI x0.2.1 x1.2.1)])))=cmpE x0 x1 from by exact orF_two _ _))

def S_spec_l21Less:Sum:={ fid:=38,dom:=[s58,s58],cod:=[(.bool 4)],dp:=true,fz:=false,pre:=fun x=>True,g:=fun x=>((lessE x.1 x.2.1),()) }
def S_spec_l21Less_tab:List (Nat×Sum):=[]
theorem S_spec_l21Less_ok:FnOK Try.prog 38 S_spec_l21Less:=by
 refine at_enter 24 (fun x=>⟨[(0,aG [cI x.1.1,cI x.1.2.1,cI x.1.2.2]),(1,aG [cI x.2.1.1,cI x.2.1.2.1,cI x.2.1.2.2])],[]⟩) Try.func38 rfl (by kernel_rfl) (fun x=>rfl) ?_
 rintro w0 Z0 ⟨x0,x1,u⟩ a w
 revert x0 x1
 intro (x0:T58) (x1:T58) hpre hlens h
 have hT:TabOK Try.prog w0 [] S_spec_l21Less_tab:=.nil
 refine wp_seq ?_
 refine at_regq [{ ids:=[1] },{ ids:=[2] }] { ts:=[2,3,4],os:=[1,2] } [] gamOK hT h (by kernel_rfl) trivial fun a w h=>then_normal (wp_seq ?_)
 by_cases h1:x0.1 < x1.1
 ·refine at_regq [{}, {}, {}, {}, { hint := some (aB true) }] { ts := [4], os := [] } [(AV.p (.c (.v (.bool (decide (x0.1 < x1.1))))) = AV.p (.c (.v (.bool true))))] gamOK hT h (by kernel_rfl) ⟨hint_bool (decide_eq_true h1), trivial⟩ fun a w h => then_normal (wp_ret ?_)
  exact at_return (true,()) [] h (by kernel_rfl) trivial (congrArg (fun z=>(z,())) (show (true)=lessE x0 x1 from by (unfold lessE;simp_all;try omega)))
 ·by_cases h2 : x0.1 = x1.1
  ·refine at_regq [{}, {}, {}, {}, { hint := some (aB false) }, {}, {}, {}, {}, {}, { hint := some (aB true) }] { ts := [4], os := [] } [(AV.p (.c (.v (.bool (decide (x0.1 < x1.1))))) = AV.p (.c (.v (.bool false)))), (AV.p (.c (.v (.bool (decide (x0.1 = x1.1))))) = AV.p (.c (.v (.bool true))))] gamOK hT h (by kernel_rfl) ⟨hint_bool (decide_eq_false h1), hint_bool (decide_eq_true h2), trivial⟩ fun a w h => then_normal (wp_ret ?_)
   exact at_return (decide (x0.2.1 < x1.2.1),()) [] h (by kernel_rfl) trivial (congrArg (fun z=>(z,())) (show (decide (x0.2.1 < x1.2.1))=lessE x0 x1 from by (unfold lessE;simp_all;try omega)))
  ·refine at_regq [{}, {}, {}, {}, { hint := some (aB false) }, {}, {}, {}, {}, {}, { hint := some (aB false) }] { ts := [4], os := [] } [(AV.p (.c (.v (.bool (decide (x0.1 < x1.1))))) = AV.p (.c (.v (.bool false)))), (AV.p (.c (.v (.bool (decide (x0.1 = x1.1))))) = AV.p (.c (.v (.bool false))))] gamOK hT h (by kernel_rfl) ⟨hint_bool (decide_eq_false h1), hint_bool (decide_eq_false h2), trivial⟩ fun a w h => then_normal (wp_ret ?_)
   exact at_return (false,()) [] h (by kernel_rfl) trivial (congrArg (fun z=>(z,())) (show (false)=lessE x0 x1 from by (unfold lessE;simp_all;try omega)))

def D__impl_Graph_hasNode:=(fun (g:T26) (v:Int)=>inR v 0 (g.1 - 1))
abbrev Q__impl_Graph_hasNode:=(fun (x0:T26) (x1:Int)=>Sh.fit s26 x0∧(0≤x0.1∧x0.1≤100))
def S__impl_Graph_hasNode:Sum:={ fid:=44,dom:=[s26,(.int 3)],cod:=[(.bool 4)],dp:=true,fz:=false,pre:=fun x=>Q__impl_Graph_hasNode x.1 x.2.1,g:=fun x=>((D__impl_Graph_hasNode x.1 x.2.1),()) }
def S__impl_Graph_hasNode_tab:List (Nat×Sum):=[(35,S_impl_InRange)]
theorem S__impl_Graph_hasNode_ok:FnOK Try.prog 44 S__impl_Graph_hasNode:=by
 refine at_enter 10 (fun x=>⟨[(0,aG [cI x.1.1,.ro s58 x.1.2]),(1,aI x.2.1)],[]⟩) Try.func44 rfl (by kernel_rfl) (fun x=>rfl) ?_
 rintro w0 Z0 ⟨x0,x1,u⟩ a w
 revert x0 x1
 intro (x0:T26) (x1:Int) hpre hlens h
 replace hpre:Q__impl_Graph_hasNode x0 x1:=hpre
 have hT:TabOK Try.prog w0 [] S__impl_Graph_hasNode_tab:=(.cons S_impl_InRange_ok .nil)
 obtain ⟨hf0,hpx⟩:=hpre
 have hn0_1:List.length x0.2≤1073741824:=hf0.2.1
 refine wp_seq ?_
 refine at_regq [{ ids:=[1] }] { ts:=[1,2,4],os:=[1] } [] gamOK hT h (by kernel_rfl) trivial fun a w h=>then_normal (wp_seq ?_)
 refine at_regq [{},{},{},{ nw:=true }] { ts:=[4],os:=[] } [I64 (x0.1 - 1),True] gamOK hT h (by kernel_rfl) ⟨⟨by first | omega | (simp only [lsA];omega) | (simp<;>omega),by first | omega | (simp only [lsA];omega) | (simp<;>omega)⟩,trivial,trivial⟩ fun a w h=>then_normal (wp_ret ?_)
 exact at_return ((inR x1 0 (x0.1 - 1)),()) [] h (by kernel_rfl) trivial (congrArg (fun z=>(z,())) (show ((inR x1 0 (x0.1 - 1)))=D__impl_Graph_hasNode x0 x1 from by unfold D__impl_Graph_hasNode;rfl))

abbrev Q_impl_IsValidGraph:=(fun (x0:T26)=>Sh.fit s26 x0)
def S_impl_IsValidGraph:Sum:={ fid:=30,dom:=[s26],cod:=[(.bool 4)],dp:=true,fz:=false,pre:=fun x=>Q_impl_IsValidGraph x.1,g:=fun x=>((validGr x.1),()) }
def S_impl_IsValidGraph_tab:List (Nat×Sum):=[(35,S_impl_InRange),(44,S__impl_Graph_hasNode),(45,S_impl_compareEdges)]
theorem S_impl_IsValidGraph_ok:FnOK Try.prog 30 S_impl_IsValidGraph:=by
 refine at_enter 64 (fun x=>⟨[(0,aG [cI x.1.1,.ro s58 x.1.2])],[]⟩) Try.func30 rfl (by kernel_rfl) (fun x=>rfl) ?_
 rintro w0 Z0 ⟨x0,u⟩ a w
 revert x0
 intro (x0:T26) hpre hlens h
 replace hpre:Q_impl_IsValidGraph x0:=hpre
 have hT:TabOK Try.prog w0 [] S_impl_IsValidGraph_tab:=(.cons S_impl_InRange_ok (.cons S__impl_Graph_hasNode_ok (.cons S_impl_compareEdges_ok .nil)))
 have hf0:Sh.fit s26 x0:=hpre
 have hn0_1:List.length x0.2≤1073741824:=hf0.2.1
 refine wp_seq ?_
 refine at_regq [{ ids:=[1] }] { ts:=[1,2],os:=[1] } [] gamOK hT h (by kernel_rfl) trivial fun a w h=>then_normal (wp_seq (wp_seq ?_))
 rcases Bool.eq_false_or_eq_true (!(inR x0.1 1 8)) with h1 | h1
 ·have hzh1 : (inR x0.1 1 8) = false := notT h1
  have hvh1:=inR_f (notT h1)
  refine at_regq [{},{},{},{ hint:=some (aB true) }] { ts:=[1,2,14],os:=[1] } [True,(AV.p (.c (.v (.bool (!(inR x0.1 1 8)))))=AV.p (.c (.v (.bool true))))] gamOK hT h (by kernel_rfl) ⟨trivial,hint_bool (h1),trivial⟩ fun a w h=>then_normal ?_
  refine at_test true h (by kernel_rfl) (fun hh=>?_) (fun hh=>nomatch hh)
  refine wp_seq ?_
  refine at_regq [] { ts:=[1,2],os:=[1] } [] gamOK hT h (by kernel_rfl) trivial fun a w h=>then_normal (wp_ret (then_ret ?_))
  exact at_return (false,()) [] h (by kernel_rfl) trivial (congrArg (fun z=>(z,())) (show (false)=validGr x0 from by first | exact validGr_n (by first | (left;assumption) | (right;left;omega) | (right;right;assumption)) | (rw [← validGr_y (by assumption) (by omega)];first | assumption | (symm;assumption) | exact (by assumption:_=_).symm)))
 ·have hzh1 : (inR x0.1 1 8) = true := notF h1
  have hvh1:=inR_t (notF h1)
  have hsz:=inR_t (show inR x0.1 1 8=true from by assumption)
  refine at_regq [{},{},{},{ hint:=some (aB false) }] { ts:=[1,2,14],os:=[1] } [True,(AV.p (.c (.v (.bool (!(inR x0.1 1 8)))))=AV.p (.c (.v (.bool false))))] gamOK hT h (by kernel_rfl) ⟨trivial,hint_bool (h1),trivial⟩ fun a w h=>then_normal ?_
  refine at_test (decide (((List.length x0.2:Nat):Int) > 20)) h (by kernel_rfl) (fun h2=>?_) (fun h2=>?_)
  ·replace h2 : ((List.length x0.2 : Nat) : Int) > 20 := of_decide_eq_true h2
   refine wp_seq ?_
   refine at_regq [] { ts:=[1,2],os:=[1] } [] gamOK hT h (by kernel_rfl) trivial fun a w h=>then_normal (wp_ret (then_ret ?_))
   exact at_return (false,()) [] h (by kernel_rfl) trivial (congrArg (fun z=>(z,())) (show (false)=validGr x0 from by first | exact validGr_n (by first | (left;assumption) | (right;left;omega) | (right;right;assumption)) | (rw [← validGr_y (by assumption) (by omega)];first | assumption | (symm;assumption) | exact (by assumption:_=_).symm)))
  ·replace h2 : ¬ (((List.length x0.2 : Nat) : Int) > 20) := of_decide_eq_false h2
   refine wp_skip (then_normal (wp_seq (wp_seq ?_)))
   refine at_regq [] { ts:=[1,2,16,17,18],os:=[1] } [] gamOK hT h (by kernel_rfl) trivial fun a w h=>then_normal (wp_block ?_)
   replace h:=at_out (σ':=⟨[(1,aP 1 0),(2,aB false),(16,aF s58 x0.2),(17,aI ((List.length x0.2:Nat):Int)),(18,aI 0)],[(1,oX 26 [cI x0.1,.ro s58 x0.2])]⟩) { ts:=[1,2,16,17,18],os:=[1] } h (by kernel_rfl)
   refine at_loop (fun i:Nat=>(⟨[(1,aP 1 0),(2,aB false),(16,aF s58 x0.2),(17,aI ((List.length x0.2:Nat):Int)),(18,aI ((i:Nat):Int))],[(1,oX 26 [cI x0.1,.ro s58 x0.2])]⟩:St)) (fun i=>(i≤(List.length x0.2)∧allN (gB x0) i=true)) (fun i=>(List.length x0.2) - i) (0) h (st_congr1 (fun (d0:Int)=>(⟨[(1,aP 1 0),(2,aB false),(16,aF s58 x0.2),(17,aI ((List.length x0.2:Nat):Int)),(18,aI d0)],[(1,oX 26 [cI x0.1,.ro s58 x0.2])]⟩:St)) (show (0:Int)=(((0):Nat):Int) from by first | with_reducible rfl | (rfl) | rfl)) (by exact ⟨Nat.zero_le _,rfl⟩) ?_
   intro i a w hok0 h
   refine wp_seq ?_
   refine at_regq [] { ts:=[1,2,16,17,18,19],os:=[1] } [] gamOK hT h (by kernel_rfl) trivial fun a w h=>then_normal (wp_seq ?_)
   refine at_test (decide (((i:Nat):Int) < ((List.length x0.2:Nat):Int))) h (by kernel_rfl) (fun h3=>?_) (fun h3=>?_)
   ·replace h3 : ((i : Nat) : Int) < ((List.length x0.2 : Nat) : Int) := of_decide_eq_true h3
    refine wp_skip (then_normal (wp_seq (wp_block (wp_seq ?_))))
    refine at_regq [{},{},{},{ ids:=[2] }] { ts:=[1,2,3,4,16,17,18],os:=[1,2] } [(0:Int)≤((i:Nat):Int)∧((i:Nat):Int) < ((List.length x0.2:Nat):Int)] gamOK hT h (by kernel_rfl) ⟨(by refine ⟨?_,?_⟩<;>(first | omega | (simp only [lsA];omega) | (simp<;>omega))),trivial⟩ fun a w h=>then_normal (wp_seq ?_)
    rcases Bool.eq_false_or_eq_true (!(inR (x0.2.getD i (0,(0,0))).1 0 (x0.1 - 1))) with h4 | h4
    ·have hzh4 : (inR (x0.2.getD i (0, (0, 0))).1 0 (x0.1 - 1)) = false := notT h4
     have hvh4:=inR_f (notT h4)
     refine at_anyq [{},{},{},{},{ hint:=some (aB true) },{},{},{},{},{},{},{},{},{},{},{},{},{},{},{},{},{},{},{},{},{},{},{},{},{},{},{},{},{},{},{},{},{},{},{}] { ts:=[1,2,16,17,18,29,30,31,32,33,36,37,38,39,40,43,44,45,46,49,50,51,52,53,54,55,56,57,58,59,60,61,62],os:=[1] } [Q__impl_Graph_hasNode x0 (x0.2.getD i (0,(0,0))).1,(AV.p (.c (.v (.bool (!(inR (x0.2.getD i (0,(0,0))).1 0 (x0.1 - 1))))))=AV.p (.c (.v (.bool true))))] gamOK hT mixed h (by kernel_rfl) ⟨(by exact ⟨hf0,by omega⟩),hint_bool (h4),trivial⟩ fun a w h=>then_normal ?_
     refine at_test true h (by kernel_rfl) (fun hh=>?_) (fun hh=>nomatch hh)
     refine wp_seq ?_
     refine at_regq [] { ts:=[1,2,16,17,18,29,30,31,32,33,36,37,38,39,40,43,44,45,46,49,50,51,52,53,54,55,56,57,58,59,60,61],os:=[1] } [] gamOK hT h (by kernel_rfl) trivial fun a w h=>then_normal (wp_ret (in_ret (then_ret ?_)))
     have hs5:(allN (gB x0) (List.length x0.2))=false:=by exact allN_at (i:=i) (by omega) (by exact gB_f (by first | (left;assumption) | (right;left;assumption) | (right;right;left;assumption) | (right;right;right;left;assumption) | (right;right;right;right;exact ⟨by omega,Bool.eq_false_iff.2 fun e=>(by have e9:=cmpE_lt.2 e;dsimp only [edg] at e9;omega)⟩)))
     refine then_ret (in_ret (then_ret ?_))
     exact at_return (false,()) [] h (by kernel_rfl) trivial (congrArg (fun z=>(z,())) (show (false)=validGr x0 from by first | exact validGr_n (by first | (left;assumption) | (right;left;omega) | (right;right;assumption)) | (rw [← validGr_y (by assumption) (by omega)];first | assumption | (symm;assumption) | exact (by assumption:_=_).symm)))
    ·have hzh4 : (inR (x0.2.getD i (0, (0, 0))).1 0 (x0.1 - 1)) = true := notF h4
     have hvh4:=inR_t (notF h4)
     rcases Bool.eq_false_or_eq_true (!(inR (x0.2.getD i (0,(0,0))).2.1 0 (x0.1 - 1))) with h6 | h6
     ·have hzh6 : (inR (x0.2.getD i (0, (0, 0))).2.1 0 (x0.1 - 1)) = false := notT h6
      have hvh6:=inR_f (notT h6)
      refine at_anyq [{},{},{},{},{ hint:=some (aB false) },{},{},{},{},{},{ hint:=some (aB true) },{},{},{},{},{},{},{},{},{},{},{},{},{},{},{},{},{},{},{},{},{},{},{},{},{},{},{},{},{}] { ts:=[1,2,16,17,18,29,30,31,32,33,36,37,38,39,40,43,44,45,46,49,50,51,52,53,54,55,56,57,58,59,60,61,62],os:=[1,2] } [Q__impl_Graph_hasNode x0 (x0.2.getD i (0,(0,0))).1,(AV.p (.c (.v (.bool (!(inR (x0.2.getD i (0,(0,0))).1 0 (x0.1 - 1))))))=AV.p (.c (.v (.bool false)))),Q__impl_Graph_hasNode x0 (x0.2.getD i (0,(0,0))).2.1,(AV.p (.c (.v (.bool (!(inR (x0.2.getD i (0,(0,0))).2.1 0 (x0.1 - 1))))))=AV.p (.c (.v (.bool true))))] gamOK hT mixed h (by kernel_rfl) ⟨(by exact ⟨hf0,by omega⟩),hint_bool (h4),(by exact ⟨hf0,by omega⟩),hint_bool (h6),trivial⟩ fun a w h=>then_normal ?_
      refine at_test true h (by kernel_rfl) (fun hh=>?_) (fun hh=>nomatch hh)
      refine wp_seq ?_
      refine at_regq [] { ts:=[1,2,16,17,18,29,30,31,32,33,36,37,38,39,40,43,44,45,46,49,50,51,52,53,54,55,56,57,58,59,60,61],os:=[1,2] } [] gamOK hT h (by kernel_rfl) trivial fun a w h=>then_normal (wp_ret (in_ret (then_ret ?_)))
      have hs7:(allN (gB x0) (List.length x0.2))=false:=by exact allN_at (i:=i) (by omega) (by exact gB_f (by first | (left;assumption) | (right;left;assumption) | (right;right;left;assumption) | (right;right;right;left;assumption) | (right;right;right;right;exact ⟨by omega,Bool.eq_false_iff.2 fun e=>(by have e9:=cmpE_lt.2 e;dsimp only [edg] at e9;omega)⟩)))
      refine then_ret (in_ret (then_ret ?_))
      exact at_return (false,()) [] h (by kernel_rfl) trivial (congrArg (fun z=>(z,())) (show (false)=validGr x0 from by first | exact validGr_n (by first | (left;assumption) | (right;left;omega) | (right;right;assumption)) | (rw [← validGr_y (by assumption) (by omega)];first | assumption | (symm;assumption) | exact (by assumption:_=_).symm)))
     ·have hzh6 : (inR (x0.2.getD i (0, (0, 0))).2.1 0 (x0.1 - 1)) = true := notF h6
      have hvh6:=inR_t (notF h6)
      by_cases h8:(x0.2.getD i (0,(0,0))).1=(x0.2.getD i (0,(0,0))).2.1
      ·refine at_anyq [{}, {}, {}, {}, { hint := some (aB false) }, {}, {}, {}, {}, {}, { hint := some (aB false) }, {}, {}, {}, {}, {}, {}, { hint := some (aB true) }, {}, {}, {}, {}, {}, {}, {}, {}, {}, {}, {}, {}, {}, {}, {}, {}, {}, {}, {}, {}, {}, {}] { ts := [1, 2, 16, 17, 18, 29, 30, 31, 32, 33, 36, 37, 38, 39, 40, 43, 44, 45, 46, 49, 50, 51, 52, 53, 54, 55, 56, 57, 58, 59, 60, 61, 62], os := [1, 2] } [Q__impl_Graph_hasNode x0 (x0.2.getD i (0, (0, 0))).1, (AV.p (.c (.v (.bool (!(inR (x0.2.getD i (0, (0, 0))).1 0 (x0.1 - 1)))))) = AV.p (.c (.v (.bool false)))), Q__impl_Graph_hasNode x0 (x0.2.getD i (0, (0, 0))).2.1, (AV.p (.c (.v (.bool (!(inR (x0.2.getD i (0, (0, 0))).2.1 0 (x0.1 - 1)))))) = AV.p (.c (.v (.bool false)))), (AV.p (.c (.v (.bool (decide ((x0.2.getD i (0, (0, 0))).1 = (x0.2.getD i (0, (0, 0))).2.1))))) = AV.p (.c (.v (.bool true))))] gamOK hT mixed h (by kernel_rfl) ⟨(by exact ⟨hf0, by omega⟩), hint_bool (h4), (by exact ⟨hf0, by omega⟩), hint_bool (h6), hint_bool (decide_eq_true h8), trivial⟩ fun a w h => then_normal ?_
       refine at_test true h (by kernel_rfl) (fun hh=>?_) (fun hh=>nomatch hh)
       refine wp_seq ?_
       refine at_regq [] { ts:=[1,2,16,17,18,29,30,31,32,33,36,37,38,39,40,43,44,45,46,49,50,51,52,53,54,55,56,57,58,59,60,61],os:=[1,2] } [] gamOK hT h (by kernel_rfl) trivial fun a w h=>then_normal (wp_ret (in_ret (then_ret ?_)))
       have hs9:(allN (gB x0) (List.length x0.2))=false:=by exact allN_at (i:=i) (by omega) (by exact gB_f (by first | (left;assumption) | (right;left;assumption) | (right;right;left;assumption) | (right;right;right;left;assumption) | (right;right;right;right;exact ⟨by omega,Bool.eq_false_iff.2 fun e=>(by have e9:=cmpE_lt.2 e;dsimp only [edg] at e9;omega)⟩)))
       refine then_ret (in_ret (then_ret ?_))
       exact at_return (false,()) [] h (by kernel_rfl) trivial (congrArg (fun z=>(z,())) (show (false)=validGr x0 from by first | exact validGr_n (by first | (left;assumption) | (right;left;omega) | (right;right;assumption)) | (rw [← validGr_y (by assumption) (by omega)];first | assumption | (symm;assumption) | exact (by assumption:_=_).symm)))
      ·rcases Bool.eq_false_or_eq_true (!(inR (x0.2.getD i (0, (0, 0))).2.2 1 8)) with h10 | h10
       ·have hzh10 : (inR (x0.2.getD i (0, (0, 0))).2.2 1 8) = false := notT h10
        have hvh10:=inR_f (notT h10)
        refine at_anyq [{},{},{},{},{ hint:=some (aB false) },{},{},{},{},{},{ hint:=some (aB false) },{},{},{},{},{},{},{ hint:=some (aB false) },{},{},{},{},{},{ hint:=some (aB true) },{},{},{},{},{},{},{},{},{},{},{},{},{},{},{},{}] { ts:=[1,2,16,17,18,29,30,31,32,33,36,37,38,39,40,43,44,45,46,49,50,51,52,53,54,55,56,57,58,59,60,61,62],os:=[1,2] } [Q__impl_Graph_hasNode x0 (x0.2.getD i (0,(0,0))).1,(AV.p (.c (.v (.bool (!(inR (x0.2.getD i (0,(0,0))).1 0 (x0.1 - 1))))))=AV.p (.c (.v (.bool false)))),Q__impl_Graph_hasNode x0 (x0.2.getD i (0,(0,0))).2.1,(AV.p (.c (.v (.bool (!(inR (x0.2.getD i (0,(0,0))).2.1 0 (x0.1 - 1))))))=AV.p (.c (.v (.bool false)))),(AV.p (.c (.v (.bool (decide ((x0.2.getD i (0,(0,0))).1=(x0.2.getD i (0,(0,0))).2.1)))))=AV.p (.c (.v (.bool false)))),True,(AV.p (.c (.v (.bool (!(inR (x0.2.getD i (0,(0,0))).2.2 1 8)))))=AV.p (.c (.v (.bool true))))] gamOK hT mixed h (by kernel_rfl) ⟨(by exact ⟨hf0,by omega⟩),hint_bool (h4),(by exact ⟨hf0,by omega⟩),hint_bool (h6),hint_bool (decide_eq_false h8),trivial,hint_bool (h10),trivial⟩ fun a w h=>then_normal ?_
        refine at_test true h (by kernel_rfl) (fun hh=>?_) (fun hh=>nomatch hh)
        refine wp_seq ?_
        refine at_regq [] { ts:=[1,2,16,17,18,29,30,31,32,33,36,37,38,39,40,43,44,45,46,49,50,51,52,53,54,55,56,57,58,59,60,61],os:=[1,2] } [] gamOK hT h (by kernel_rfl) trivial fun a w h=>then_normal (wp_ret (in_ret (then_ret ?_)))
        have hs11:(allN (gB x0) (List.length x0.2))=false:=by exact allN_at (i:=i) (by omega) (by exact gB_f (by first | (left;assumption) | (right;left;assumption) | (right;right;left;assumption) | (right;right;right;left;assumption) | (right;right;right;right;exact ⟨by omega,Bool.eq_false_iff.2 fun e=>(by have e9:=cmpE_lt.2 e;dsimp only [edg] at e9;omega)⟩)))
        refine then_ret (in_ret (then_ret ?_))
        exact at_return (false,()) [] h (by kernel_rfl) trivial (congrArg (fun z=>(z,())) (show (false)=validGr x0 from by first | exact validGr_n (by first | (left;assumption) | (right;left;omega) | (right;right;assumption)) | (rw [← validGr_y (by assumption) (by omega)];first | assumption | (symm;assumption) | exact (by assumption:_=_).symm)))
       ·have hzh10 : (inR (x0.2.getD i (0, (0, 0))).2.2 1 8) = true := notF h10
        have hvh10:=inR_t (notF h10)
        by_cases h12:((i:Nat):Int) > 0
        ·refine at_anyq [{}, {}, {}, {}, { hint := some (aB false) }, {}, {}, {}, {}, {}, { hint := some (aB false) }, {}, {}, {}, {}, {}, {}, { hint := some (aB false) }, {}, {}, {}, {}, {}, { hint := some (aB false) }, {}, {}, {}, { hint := some (aB true) }, {}, {}, {}, {}, { nw := true }, {}, {}, {}, {}, {}, {}, {}] { ts := [1, 2, 16, 17, 18, 29, 30, 31, 32, 33, 36, 37, 38, 39, 40, 43, 44, 45, 46, 49, 50, 51, 52, 53, 54, 55, 56, 57, 58, 59, 60, 61, 62], os := [1, 2] } [Q__impl_Graph_hasNode x0 (x0.2.getD i (0, (0, 0))).1, (AV.p (.c (.v (.bool (!(inR (x0.2.getD i (0, (0, 0))).1 0 (x0.1 - 1)))))) = AV.p (.c (.v (.bool false)))), Q__impl_Graph_hasNode x0 (x0.2.getD i (0, (0, 0))).2.1, (AV.p (.c (.v (.bool (!(inR (x0.2.getD i (0, (0, 0))).2.1 0 (x0.1 - 1)))))) = AV.p (.c (.v (.bool false)))), (AV.p (.c (.v (.bool (decide ((x0.2.getD i (0, (0, 0))).1 = (x0.2.getD i (0, (0, 0))).2.1))))) = AV.p (.c (.v (.bool false)))), True, (AV.p (.c (.v (.bool (!(inR (x0.2.getD i (0, (0, 0))).2.2 1 8))))) = AV.p (.c (.v (.bool false)))), (AV.p (.c (.v (.bool (decide (((i : Nat) : Int) > 0))))) = AV.p (.c (.v (.bool true)))), I64 (((i : Nat) : Int) - 1), (0 : Int) ≤ ((i : Nat) : Int) - 1 ∧ ((i : Nat) : Int) - 1 < ((List.length x0.2 : Nat) : Int), True] gamOK hT mixed h (by kernel_rfl) ⟨(by exact ⟨hf0, by omega⟩), hint_bool (h4), (by exact ⟨hf0, by omega⟩), hint_bool (h6), hint_bool (decide_eq_false h8), trivial, hint_bool (h10), hint_bool (decide_eq_true h12), ⟨by first | omega | (simp only [lsA]; omega) | (simp <;> omega), by first | omega | (simp only [lsA]; omega) | (simp <;> omega)⟩, (by refine ⟨?_, ?_⟩ <;> (first | omega | (simp only [lsA]; omega) | (simp <;> omega))), trivial, trivial⟩ fun a w h => then_normal ?_
         refine at_test (decide ((cmpE (x0.2.getD ((((i:Nat):Int) - 1).toNat) (0,(0,0))) (x0.2.getD i (0,(0,0))))≥0)) h (by kernel_rfl) (fun h13=>?_) (fun h13=>?_)
         ·replace h13 : (cmpE (x0.2.getD ((((i : Nat) : Int) - 1).toNat) (0, (0, 0))) (x0.2.getD i (0, (0, 0)))) ≥ 0 := of_decide_eq_true h13
          refine wp_seq ?_
          refine at_regq [] { ts:=[1,2,16,17,18,29,30,31,32,33,36,37,38,39,40,43,44,45,46,49,50,51,52,53,54,55,56,57,58,59,60,61],os:=[1,2] } [] gamOK hT h (by kernel_rfl) trivial fun a w h=>then_normal (wp_ret (in_ret (then_ret ?_)))
          have hs14:(allN (gB x0) (List.length x0.2))=false:=by exact allN_at (i:=i) (by omega) (by exact gB_f (by first | (left;assumption) | (right;left;assumption) | (right;right;left;assumption) | (right;right;right;left;assumption) | (right;right;right;right;exact ⟨by omega,Bool.eq_false_iff.2 fun e=>(by have e9:=cmpE_lt.2 e;dsimp only [edg] at e9;omega)⟩)))
          refine then_ret (in_ret (then_ret ?_))
          exact at_return (false,()) [] h (by kernel_rfl) trivial (congrArg (fun z=>(z,())) (show (false)=validGr x0 from by first | exact validGr_n (by first | (left;assumption) | (right;left;omega) | (right;right;assumption)) | (rw [← validGr_y (by assumption) (by omega)];first | assumption | (symm;assumption) | exact (by assumption:_=_).symm)))
         ·replace h13 : ¬ ((cmpE (x0.2.getD ((((i : Nat) : Int) - 1).toNat) (0, (0, 0))) (x0.2.getD i (0, (0, 0)))) ≥ 0) := of_decide_eq_false h13
          refine wp_skip (in_normal (then_normal ?_))
          refine at_regq [{ nw:=true }] { ts:=[1,2,16,17,18,29,30,31,32,33,36,37,38,39,40,43,44,45,46,49,50,51,52,53,54,55,56,57,58,59,60,61],os:=[1,2] } [I64 (((i:Nat):Int)+1)] gamOK hT h (by kernel_rfl) ⟨⟨by first | omega | (simp only [lsA];omega) | (simp<;>omega),by first | omega | (simp only [lsA];omega) | (simp<;>omega)⟩,trivial⟩ fun a w h=>?_
          replace h:=at_out (σ':=⟨[(1,aP 1 0),(2,aB false),(16,aF s58 x0.2),(17,aI ((List.length x0.2:Nat):Int)),(18,aI (((i:Nat):Int)+1))],[(1,oX 26 [cI x0.1,.ro s58 x0.2])]⟩) { ts:=[1,2,16,17,18],os:=[1] } h (by kernel_rfl)
          exact ⟨i+1,at_eq h (st_congr1 (fun (d0:Int)=>(⟨[(1,aP 1 0),(2,aB false),(16,aF s58 x0.2),(17,aI ((List.length x0.2:Nat):Int)),(18,aI d0)],[(1,oX 26 [cI x0.1,.ro s58 x0.2])]⟩:St)) (show (((i:Nat):Int)+1:Int)=(((i+1):Nat):Int) from by first | with_reducible rfl | (omega) | rfl)),(by exact ⟨by omega,allN_succ hok0.2 (by exact gB_t (by assumption) (by assumption) (by assumption) (by assumption) (by first | (left;omega) | (right;exact cmpE_lt.1 (by dsimp only [edg];omega))))⟩),(by omega)⟩
        ·refine at_anyq [{}, {}, {}, {}, { hint := some (aB false) }, {}, {}, {}, {}, {}, { hint := some (aB false) }, {}, {}, {}, {}, {}, {}, { hint := some (aB false) }, {}, {}, {}, {}, {}, { hint := some (aB false) }, {}, {}, {}, { hint := some (aB false) }, {}, {}, {}, {}, {}, {}, {}, {}, {}, {}, {}, {}] { ts := [1, 2, 16, 17, 18, 29, 30, 31, 32, 33, 36, 37, 38, 39, 40, 43, 44, 45, 46, 49, 50, 51, 52, 53, 54, 55, 56, 57, 58, 59, 60, 61, 62], os := [1, 2] } [Q__impl_Graph_hasNode x0 (x0.2.getD i (0, (0, 0))).1, (AV.p (.c (.v (.bool (!(inR (x0.2.getD i (0, (0, 0))).1 0 (x0.1 - 1)))))) = AV.p (.c (.v (.bool false)))), Q__impl_Graph_hasNode x0 (x0.2.getD i (0, (0, 0))).2.1, (AV.p (.c (.v (.bool (!(inR (x0.2.getD i (0, (0, 0))).2.1 0 (x0.1 - 1)))))) = AV.p (.c (.v (.bool false)))), (AV.p (.c (.v (.bool (decide ((x0.2.getD i (0, (0, 0))).1 = (x0.2.getD i (0, (0, 0))).2.1))))) = AV.p (.c (.v (.bool false)))), True, (AV.p (.c (.v (.bool (!(inR (x0.2.getD i (0, (0, 0))).2.2 1 8))))) = AV.p (.c (.v (.bool false)))), (AV.p (.c (.v (.bool (decide (((i : Nat) : Int) > 0))))) = AV.p (.c (.v (.bool false))))] gamOK hT mixed h (by kernel_rfl) ⟨(by exact ⟨hf0, by omega⟩), hint_bool (h4), (by exact ⟨hf0, by omega⟩), hint_bool (h6), hint_bool (decide_eq_false h8), trivial, hint_bool (h10), hint_bool (decide_eq_false h12), trivial⟩ fun a w h => then_normal ?_
         refine at_test false h (by kernel_rfl) (fun hh=>nomatch hh) (fun hh=>?_)
         refine wp_skip (in_normal (then_normal ?_))
         refine at_regq [{ nw:=true }] { ts:=[1,2,16,17,18,29,30,31,32,33,36,37,38,39,40,43,44,45,46,49,50,51,52,53,54,55,56,57,58,59,60,61],os:=[1,2] } [I64 (((i:Nat):Int)+1)] gamOK hT h (by kernel_rfl) ⟨⟨by first | omega | (simp only [lsA];omega) | (simp<;>omega),by first | omega | (simp only [lsA];omega) | (simp<;>omega)⟩,trivial⟩ fun a w h=>?_
         replace h:=at_out (σ':=⟨[(1,aP 1 0),(2,aB false),(16,aF s58 x0.2),(17,aI ((List.length x0.2:Nat):Int)),(18,aI (((i:Nat):Int)+1))],[(1,oX 26 [cI x0.1,.ro s58 x0.2])]⟩) { ts:=[1,2,16,17,18],os:=[1] } h (by kernel_rfl)
         exact ⟨i+1,at_eq h (st_congr1 (fun (d0:Int)=>(⟨[(1,aP 1 0),(2,aB false),(16,aF s58 x0.2),(17,aI ((List.length x0.2:Nat):Int)),(18,aI d0)],[(1,oX 26 [cI x0.1,.ro s58 x0.2])]⟩:St)) (show (((i:Nat):Int)+1:Int)=(((i+1):Nat):Int) from by first | with_reducible rfl | (omega) | rfl)),(by exact ⟨by omega,allN_succ hok0.2 (by exact gB_t (by assumption) (by assumption) (by assumption) (by assumption) (by first | (left;omega) | (right;exact cmpE_lt.1 (by dsimp only [edg];omega))))⟩),(by omega)⟩
   ·replace h3 : ¬ (((i : Nat) : Int) < ((List.length x0.2 : Nat) : Int)) := of_decide_eq_false h3
    refine wp_exit (then_exit ?_)
    have hs15:(allN (gB x0) (List.length x0.2))=true:=by exact allN_eq (by omega) hok0.1 hok0.2
    refine then_exit (in_hit (then_normal (wp_seq ?_)))
    refine at_regq [] { ts:=[2],os:=[] } [] gamOK hT h (by kernel_rfl) trivial fun a w h=>then_normal (wp_ret ?_)
    exact at_return (true,()) [] h (by kernel_rfl) trivial (congrArg (fun z=>(z,())) (show (true)=validGr x0 from by first | exact validGr_n (by first | (left;assumption) | (right;left;omega) | (right;right;assumption)) | (rw [← validGr_y (by assumption) (by omega)];first | assumption | (symm;assumption) | exact (by assumption:_=_).symm)))

end Go.Proofs.Ytmcpigcpachdkaa
