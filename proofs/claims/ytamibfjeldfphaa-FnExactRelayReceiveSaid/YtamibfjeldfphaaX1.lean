/- The walks of the functions that the law reaches: each summary holds. No condition. -/
import Derived.Test.YtamibfjeldfphaaPV
import Derived.Test.YtamibfjeldfphaaLA
import Derived.Test.YtamibfjeldfphaaProg
namespace Go.Proofs.Ytamibfjeldfphaa
open Go.RowKit
set_option linter.unusedVariables false
set_option linter.unusedSimpArgs false
abbrev s22:Sh:=.sl 22 (.int 3)
abbrev s66:Sh:=.sl 66 s22
abbrev s95:Sh:=.st 95 (.pair (.int 3) s66)
abbrev T95:Type:=(Int×(List (List Int)))
abbrev s50:Sh:=.st 50 (.pair (.int 3) (.pair s22 s22))
abbrev T50:Type:=(Int×((List Int)×(List Int)))
abbrev s77:Sh:=.sl 77 s50
abbrev s79:Sh:=.st 79 (.pair (.int 3) (.pair (.int 3) (.pair (.int 3) (.pair s77 (.int 3)))))
abbrev T79:Type:=(Int×(Int×(Int×((List T50)×Int))))
abbrev s44:Sh:=.sl 44 s79
abbrev s46:Sh:=.st 46 (.pair (.int 3) s44)
abbrev T46:Type:=(Int×(List T79))
abbrev s41:Sh:=.st 41 (.pair (.int 3) (.pair s22 s22))
abbrev T41:Type:=(Int×((List Int)×(List Int)))
abbrev s120:Sh:=.sl 120 s41
abbrev s122:Sh:=.st 122 (.pair (.int 3) (.pair (.int 3) (.pair (.int 3) (.pair s120 (.int 3)))))
abbrev T122:Type:=(Int×(Int×(Int×((List T41)×Int))))
abbrev s37:Sh:=.sl 37 s122
abbrev s39:Sh:=.st 39 (.pair (.int 3) s37)
abbrev T39:Type:=(Int×(List T122))
def gam:Gam:=[(22,(.int 3),8),(66,s22,24),(77,s50,56),(44,s79,56)]
theorem gamOK:GamOK Try.prog gam:=(.cons (Elem.of (.int .i64 0) Try.underlying22 (by kernel_rfl) rfl (by decide) (by decide)) (.cons (Elem.of (.slice none 0 0) Try.underlying66 (by kernel_rfl) rfl (by decide) (by decide)) (.cons (Elem.of (.agg #[(.int .i64 0),(.slice none 0 0),(.slice none 0 0)]) Try.underlying77 (by kernel_rfl) rfl (by decide) (by decide)) (.cons (Elem.of (.agg #[(.int .i64 0),(.int .i64 0),(.int .i64 0),(.slice none 0 0),(.int .i64 0)]) Try.underlying44 (by kernel_rfl) rfl (by decide) (by decide)) .nil))))
theorem mixed:Try.prog.follows .mixedOrders=true:=by kernel_rfl
theorem lsA {α:Type}:(∀ xs ys:List α,(xs++ys).length=xs.length+ys.length)∧(∀ (x:α) (xs:List α),(x::xs).length=xs.length+1)∧(([]:List α).length=0)∧(∀ (xs:List α) (i:Nat) (a:α),(xs.set i a).length=xs.length)∧(∀ (xs:List α) (n:Nat),(xs.take n).length=min n xs.length)∧(∀ (xs:List α) (n:Nat),(xs.drop n).length=xs.length - n)∧(∀ (n:Nat) (a:α),(List.replicate n a).length=n):=⟨fun _ _=>List.length_append,fun _ _=>rfl,rfl,fun _ _ _=>List.length_set,fun _ _=>List.length_take,fun _ _=>List.length_drop,fun _ _=>List.length_replicate⟩
def inR (n lo hi:Int):Bool:=decide (lo≤n∧n≤hi)
theorem inR_t {n a b:Int} (h:inR n a b=true):a≤n∧n≤b:=of_decide_eq_true h
theorem inR_f {n a b:Int} (h:inR n a b=false):n < a∨b < n:=by have:=of_decide_eq_false h;omega
theorem inR_true {n a b:Int} (h:a≤n∧n≤b):inR n a b=true:=decide_eq_true h
def lenOK {α:Type} (xs:List α):Prop:=xs.length≤1073741824
def idL {α:Type} (xs:List α):List α:=xs
section
variable {α β:Type}
def noneTo (p:α→Bool) (xs:List α) (z:α) (i:Nat):Prop:=∀ j,j < i→p (xs.getD j z)=false
def idxF (p:α→Bool):List α→Int
 | []=>-1
 | x::l=>if p x=true then 0 else if idxF p l < 0 then -1 else idxF p l+1
theorem noneTo_zero {p:α→Bool} {xs:List α} {z:α}:noneTo p xs z 0:=fun j h=>by omega
theorem noneTo_succ {p:α→Bool} {xs:List α} {z:α} {i:Nat} (h:noneTo p xs z i) (k:p (xs.getD i z)=false):noneTo p xs z (i+1):=fun j hj=>by
 by_cases e:j=i
 ·subst e;exact k
 ·exact h j (by omega)
theorem idxF_at {p:α→Bool} {z:α}:∀ {xs:List α} {i:Nat},i < xs.length→noneTo p xs z i→p (xs.getD i z)=true→idxF p xs=i
 | [],_,h,_,_=>by simp at h
 | x :: l, 0, _, _, k => by
  have k:p x=true:=k
  simp [idxF,k]
 | x :: l, i + 1, h, hn, k => by
  have h0:p x=false:=hn 0 (by omega)
  have:=idxF_at (xs:=l) (i:=i) (by simpa using h) (fun j hj=>by have:=hn (j+1) (by omega);simpa using this) (by simpa using k)
  simp only [idxF,h0,this]
  rw [if_neg (by decide),if_neg (by omega)]
  omega
theorem idxF_none {p:α→Bool} {z:α}:∀ {xs:List α} {i:Nat},xs.length≤i→noneTo p xs z i→idxF p xs=-1
 | [],_,_,_=>rfl
 | x::l,0,h,_=>by simp at h
 | x :: l, i + 1, h, hn => by
  have h0:p x=false:=hn 0 (by omega)
  have:=idxF_none (xs:=l) (i:=i) (by simpa using h) (fun j hj=>by have:=hn (j+1) (by omega);simpa using this)
  simp [idxF,h0,this]
theorem idxF_pos {p:α→Bool}:∀ {xs:List α},0≤idxF p xs↔xs.any p=true
 | []=>by simp [idxF]
 | x :: l => by
  have:=idxF_pos (xs:=l) (p:=p)
  simp only [idxF,List.any_cons,Bool.or_eq_true,← this]
  by_cases hx:p x=true
  ·simp [hx]
  ·rw [if_neg hx]
   split
   ·rename_i h; constructor
    ·intro h';omega
    ·rintro (h' | h')
     ·exact absurd h' hx
     ·omega
   ·rename_i h; constructor
    ·intro h';right;omega
    ·intro _;omega
theorem idxF_any {p:α→Bool} {xs:List α}:decide (idxF p xs≥0)=xs.any p:=by
 rw [Bool.eq_iff_iff,decide_eq_true_iff];exact idxF_pos
def allTo2 (e:α→β→Bool) (xs:List α) (ys:List β) (z:α) (y:β) (i:Nat):Prop:=∀ j,j < i→e (xs.getD j z) (ys.getD j y)=true
def eqF (e:α→β→Bool):List α→List β→Bool
 | [],[]=>true
 | x::l,y::l'=>e x y && eqF e l l'
 | _,_=>false
theorem allTo2_zero {e:α→β→Bool} {xs:List α} {ys:List β} {z:α} {y:β}:allTo2 e xs ys z y 0:=fun j h=>by omega
theorem allTo2_succ {e:α→β→Bool} {xs:List α} {ys:List β} {z:α} {y:β} {i:Nat} (h:allTo2 e xs ys z y i) (k:e (xs.getD i z) (ys.getD i y)=true):allTo2 e xs ys z y (i+1):=fun j hj=>by
 by_cases e:j=i
 ·subst e;exact k
 ·exact h j (by omega)
theorem eqF_len {e:α→β→Bool}:∀ {xs:List α} {ys:List β},xs.length≠ys.length→eqF e xs ys=false
 | [],[],h=>absurd rfl h
 | [],_::_,_=>rfl
 | _::_,[],_=>rfl
 | _::l,_::l',h=>by simp only [eqF];rw [eqF_len (xs:=l) (ys:=l') (by simpa using h),Bool.and_false]
theorem eqF_at {e:α→β→Bool} {z:α} {y:β}:∀ {xs:List α} {ys:List β} {i:Nat},i < xs.length→i < ys.length→e (xs.getD i z) (ys.getD i y)=false→eqF e xs ys=false
 | x :: l, y' :: l', 0, _, _, h => by
  have h:e x y'=false:=h
  simp [eqF,h]
 | x::l,y'::l',i+1,h1,h2,h=>by simp only [eqF];rw [eqF_at (xs:=l) (ys:=l') (i:=i) (by simpa using h1) (by simpa using h2) (by simpa using h),Bool.and_false]
 | [],_,_,h1,_,_=>by simp at h1
 | _::_,[],_,_,h2,_=>by simp at h2
theorem eqF_all {e:α→β→Bool} {z:α} {y:β}:∀ {xs:List α} {ys:List β} {i:Nat},xs.length=ys.length→xs.length≤i→allTo2 e xs ys z y i→eqF e xs ys=true
 | [],[],_,_,_,_=>rfl
 | [],_::_,_,h,_,_=>by simp at h
 | _::_,[],_,h,_,_=>by simp at h
 | x::l,y'::l',0,_,h,_=>by simp at h
 | x :: l, y' :: l', i + 1, h, hi, ha => by
  have h0:e x y'=true:=ha 0 (by omega)
  simp only [eqF]
  rw [h0,eqF_all (xs:=l) (ys:=l') (i:=i) (by simpa using h) (by simpa using hi) (fun j hj=>by have:=ha (j+1) (by omega);simpa using this)]
  rfl
def allTo1 (p:α→Bool) (xs:List α) (z:α) (i:Nat):Prop:=∀ j,j < i→p (xs.getD j z)=true
theorem allTo1_zero {p:α→Bool} {xs:List α} {z:α}:allTo1 p xs z 0:=fun j h=>by omega
theorem allTo1_succ {p:α→Bool} {xs:List α} {z:α} {i:Nat} (h:allTo1 p xs z i) (k:p (xs.getD i z)=true):allTo1 p xs z (i+1):=fun j hj=>by
 by_cases e:j=i
 ·subst e;exact k
 ·exact h j (by omega)
theorem all_at {p:α→Bool} {xs:List α} {z:α} {i:Nat} (h:i < xs.length) (k:p (xs.getD i z)=false):xs.all p=false:=by
 rw [Bool.eq_false_iff];intro ha
 have:=List.all_eq_true.1 ha _ (getD_mem (z:=z) h)
 rw [k] at this;cases this
theorem all_of {p:α→Bool} {xs:List α} {z:α} {i:Nat} (h:xs.length≤i) (k:allTo1 p xs z i):xs.all p=true:=by
 rw [List.all_eq_true];intro x hx
 obtain ⟨j,hj,rfl⟩:=List.getElem_of_mem hx
 have:=k j (by omega)
 rwa [getD_of_lt hj] at this
def foldTo (f:β→α→β) (b:β) (xs:List α) (i:Nat):β:=(xs.take i).foldl f b
theorem foldTo_zero {f:β→α→β} {b:β} {xs:List α}:foldTo f b xs 0=b:=rfl
theorem foldTo_succ {f:β→α→β} {b:β} {xs:List α} {i:Nat} (z:α) (h:i < xs.length):foldTo f b xs (i+1)=f (foldTo f b xs i) (xs.getD i z):=by
 unfold foldTo;rw [take_snoc (z:=z) h,List.foldl_append];rfl
theorem foldTo_all {f:β→α→β} {b:β} {xs:List α} {i:Nat} (h:xs.length≤i):foldTo f b xs i=xs.foldl f b:=by unfold foldTo;rw [take_all h]
end
theorem beqT {a b:Bool} (h:a=b):(a==b)=true:=by subst h;simp
section
variable {α β:Type}
theorem any_at {p:α→Bool} {xs:List α} {z:α} {i:Nat} (h:i < xs.length) (k:p (xs.getD i z)=true):xs.any p=true:=List.any_eq_true.2 ⟨_,getD_mem h,k⟩
theorem any_of {p:α→Bool} {xs:List α} {z:α} {i:Nat} (h:xs.length≤i) (k:noneTo p xs z i):xs.any p=false:=by
 rw [Bool.eq_false_iff];intro ha
 obtain ⟨x,hx,hp⟩:=List.any_eq_true.1 ha
 obtain ⟨j,hj,rfl⟩:=List.getElem_of_mem hx
 have:=k j (by omega)
 rw [getD_of_lt hj,hp] at this;cases this
def allN (P:Nat→Bool):Nat→Bool
 | 0=>true
 | n+1=>allN P n && P n
theorem allN_succ {P:Nat→Bool} {i:Nat} (h:allN P i=true) (k:P i=true):allN P (i+1)=true:=by simp [allN,h,k]
theorem allN_iff {P:Nat→Bool}:∀ {n:Nat},allN P n=true↔∀ j,j < n→P j=true
 | 0=>by simp [allN]
 | n + 1 => by
  simp only [allN,Bool.and_eq_true,allN_iff (n:=n)]
  constructor
  ·rintro ⟨h1, h2⟩ j hj
   by_cases e:j=n
   ·rw [e];exact h2
   ·exact h1 j (by omega)
  ·intro h;exact ⟨fun j hj=>h j (by omega),h n (by omega)⟩
theorem allN_eq {P:Nat→Bool} {i n:Nat} (h:n≤i) (h':i≤n) (k:allN P i=true):allN P n=true:=by rw [show n=i by omega];exact k
theorem allN_at {P:Nat→Bool} {i n:Nat} (h:i < n) (k:P i=false):allN P n=false:=by
 rw [Bool.eq_false_iff];intro ha
 rw [allN_iff.1 ha i h] at k;cases k
theorem map_snoc {f:α→β} {xs:List α} {i:Nat} {z:α} (h:i < xs.length):(xs.take (i+1)).map f=(xs.take i).map f++[f (xs.getD i z)]:=by rw [take_snoc (z:=z) h,List.map_append];rfl
theorem filter_snoc_t {p:α→Bool} {xs:List α} {i:Nat} {z:α} (h:i < xs.length) (k:p (xs.getD i z)=true):(xs.take (i+1)).filter p=(xs.take i).filter p++[xs.getD i z]:=by rw [take_snoc (z:=z) h,List.filter_append,List.filter_cons_of_pos k];rfl
theorem filter_snoc_f {p:α→Bool} {xs:List α} {i:Nat} {z:α} (h:i < xs.length) (k:p (xs.getD i z)=false):(xs.take (i+1)).filter p=(xs.take i).filter p:=by rw [take_snoc (z:=z) h,List.filter_append,List.filter_cons_of_neg (by rw [k];decide)];simp
theorem len_filter_take {p:α→Bool} {xs:List α} (i:Nat):((xs.take i).filter p).length≤xs.length:=Nat.le_trans (List.length_filter_le _ _) (by simp;omega)
theorem len_take_le {xs:List α} (i:Nat):(xs.take i).length≤xs.length:=by simp;omega
end
def S_slices_Clone_S_int_int_:Sum:={ fid:=69,dom:=[s22],cod:=[s22],dp:=true,fz:=false,pre:=fun x=>(lenOK (α:=Int)) x.1,g:=fun x=>(((idL (α:=Int)) x.1),()) }
def S_slices_Clone_S_int_int__tab:List (Nat×Sum):=[]
theorem S_slices_Clone_S_int_int__ok:FnOK Try.prog 69 S_slices_Clone_S_int_int_:=by
 refine at_enter 8 (fun x=>⟨[(0,aF (.int 3) x.1)],[]⟩) Try.func69 rfl (by kernel_rfl) (fun x=>rfl) ?_
 rintro w0 Z0 ⟨x0,u⟩ a w
 revert x0
 intro (x0:(List Int)) hpre hlens h
 replace hpre:(lenOK (α:=Int)) x0:=hpre
 have hl1:List.length x0≤9223372036854775807:=hlens.1.1
 have hT:TabOK Try.prog S_slices_Clone_S_int_int__tab:=.nil
 have hp:List.length x0≤1073741824:=hpre
 refine wp_seq ?_
 refine at_regq [] { ts:=[0,2],os:=[] } [] gamOK hT h (by kernel_rfl) trivial fun a w h=>then_normal (wp_seq (wp_seq ?_))
 refine at_regq [] { ts:=[0,2,4],os:=[] } [] gamOK hT h (by kernel_rfl) trivial fun a w h=>then_normal ?_
 refine at_nil (List.length x0) h (by kernel_rfl) (fun h1=>?_) ?_
 ·refine wp_seq ?_
  refine at_regq [] { ts:=[0,2],os:=[] } [] gamOK hT h (by kernel_rfl) trivial fun a w h=>then_normal (wp_ret (then_ret ?_))
  exact at_return (([]:List Int),()) [] h (by kernel_rfl) trivial (congrArg (fun z=>(z,())) (show (([]:List Int))=(idL (α:=Int)) x0 from by (show []=x0;exact (List.eq_nil_of_length_eq_zero h1).symm)))
 ·refine wp_skip (then_normal (wp_seq ?_))
  refine at_regq [{ ids:=[1] },{},{ ids:=[2] }] { ts:=[2],os:=[2] } [(List.length ([]:List Int)+List.length x0)*8≤140737488355328] gamOK hT h (by kernel_rfl) ⟨(by first | omega | (simp only [lsA];omega) | (simp<;>omega)),trivial⟩ fun a w h=>then_normal (wp_ret ?_)
  exact at_return ((([]:List Int)++x0),()) [] h (by kernel_rfl) trivial (congrArg (fun z=>(z,())) (show ((([]:List Int)++x0))=(idL (α:=Int)) x0 from by (show []++x0=x0;rfl)))

def S_impl_InRange:Sum:={ fid:=73,dom:=[(.int 3),(.int 3),(.int 3)],cod:=[(.bool 4)],dp:=true,fz:=false,pre:=fun x=>True,g:=fun x=>((inR x.1 x.2.1 x.2.2.1),()) }
def S_impl_InRange_tab:List (Nat×Sum):=[]
theorem S_impl_InRange_ok:FnOK Try.prog 73 S_impl_InRange:=by
 refine at_enter 15 (fun x=>⟨[(0,aI x.1),(1,aI x.2.1),(2,aI x.2.2.1)],[]⟩) Try.func73 rfl (by kernel_rfl) (fun x=>rfl) ?_
 rintro w0 Z0 ⟨x0,x1,x2,u⟩ a w
 revert x0 x1 x2
 intro (x0:Int) (x1:Int) (x2:Int) hpre hlens h
 have hT:TabOK Try.prog S_impl_InRange_tab:=.nil
 refine wp_seq ?_
 refine at_regq [] { ts:=[0,1,2,6],os:=[] } [] gamOK hT h (by kernel_rfl) trivial fun a w h=>then_normal (wp_seq ?_)
 by_cases h1:x1≤x0
 ·refine at_regq [{}, {}, { hint := some (aB true) }] { ts := [6], os := [] } [(AV.p (.c (.v (.bool (decide (x1 ≤ x0))))) = AV.p (.c (.v (.bool true))))] gamOK hT h (by kernel_rfl) ⟨hint_bool (decide_eq_true h1), trivial⟩ fun a w h => then_normal (wp_ret ?_)
  exact at_return (decide (x0≤x2),()) [] h (by kernel_rfl) trivial (congrArg (fun z=>(z,())) (show (decide (x0≤x2))=inR x0 x1 x2 from by (unfold inR;simp [*];done)))
 ·refine at_regq [{}, {}, { hint := some (aB false) }] { ts := [6], os := [] } [(AV.p (.c (.v (.bool (decide (x1 ≤ x0))))) = AV.p (.c (.v (.bool false))))] gamOK hT h (by kernel_rfl) ⟨hint_bool (decide_eq_false h1), trivial⟩ fun a w h => then_normal (wp_ret ?_)
  exact at_return (false,()) [] h (by kernel_rfl) trivial (congrArg (fun z=>(z,())) (show (false)=inR x0 x1 x2 from by (unfold inR;simp [*];done)))

def S_spec_l1In:Sum:={ fid:=59,dom:=[(.int 3),(.int 3),(.int 3)],cod:=[(.bool 4)],dp:=true,fz:=false,pre:=fun x=>True,g:=fun x=>((inR x.1 x.2.1 x.2.2.1),()) }
def S_spec_l1In_tab:List (Nat×Sum):=[]
theorem S_spec_l1In_ok:FnOK Try.prog 59 S_spec_l1In:=by
 refine at_enter 15 (fun x=>⟨[(0,aI x.1),(1,aI x.2.1),(2,aI x.2.2.1)],[]⟩) Try.func59 rfl (by kernel_rfl) (fun x=>rfl) ?_
 rintro w0 Z0 ⟨x0,x1,x2,u⟩ a w
 revert x0 x1 x2
 intro (x0:Int) (x1:Int) (x2:Int) hpre hlens h
 have hT:TabOK Try.prog S_spec_l1In_tab:=.nil
 refine wp_seq ?_
 refine at_regq [] { ts:=[0,1,2,6],os:=[] } [] gamOK hT h (by kernel_rfl) trivial fun a w h=>then_normal (wp_seq ?_)
 by_cases h1:x0≥x1
 ·refine at_regq [{}, {}, { hint := some (aB true) }] { ts := [6], os := [] } [(AV.p (.c (.v (.bool (decide (x0 ≥ x1))))) = AV.p (.c (.v (.bool true))))] gamOK hT h (by kernel_rfl) ⟨hint_bool (decide_eq_true h1), trivial⟩ fun a w h => then_normal (wp_ret ?_)
  exact at_return (decide (x0≤x2),()) [] h (by kernel_rfl) trivial (congrArg (fun z=>(z,())) (show (decide (x0≤x2))=inR x0 x1 x2 from by (unfold inR;first | (simp only [ge_iff_le] at *;simp [*];done) | (rw [decide_eq_false];omega))))
 ·refine at_regq [{}, {}, { hint := some (aB false) }] { ts := [6], os := [] } [(AV.p (.c (.v (.bool (decide (x0 ≥ x1))))) = AV.p (.c (.v (.bool false))))] gamOK hT h (by kernel_rfl) ⟨hint_bool (decide_eq_false h1), trivial⟩ fun a w h => then_normal (wp_ret ?_)
  exact at_return (false,()) [] h (by kernel_rfl) trivial (congrArg (fun z=>(z,())) (show (false)=inR x0 x1 x2 from by (unfold inR;first | (simp only [ge_iff_le] at *;simp [*];done) | (rw [decide_eq_false];omega))))

def isEl (x0:Int):Bool:=(inR x0 0 1018)
def S_impl_IsElement:Sum:={ fid:=143,dom:=[(.int 3)],cod:=[(.bool 4)],dp:=true,fz:=false,pre:=fun x=>True,g:=fun x=>((isEl x.1),()) }
def S_impl_IsElement_tab:List (Nat×Sum):=[(73,S_impl_InRange)]
theorem S_impl_IsElement_ok:FnOK Try.prog 143 S_impl_IsElement:=by
 refine at_enter 5 (fun x=>⟨[(0,aI x.1)],[]⟩) Try.func143 rfl (by kernel_rfl) (fun x=>rfl) ?_
 rintro w0 Z0 ⟨x0,u⟩ a w
 revert x0
 intro (x0:Int) hpre hlens h
 have hT:TabOK Try.prog S_impl_IsElement_tab:=(.cons S_impl_InRange_ok .nil)
 refine wp_seq ?_
 refine at_regq [] { ts:=[0,2],os:=[] } [] gamOK hT h (by kernel_rfl) trivial fun a w h=>then_normal (wp_seq ?_)
 refine at_regq [] { ts:=[2],os:=[] } [True] gamOK hT h (by kernel_rfl) ⟨trivial,trivial⟩ fun a w h=>then_normal (wp_ret ?_)
 exact at_return ((inR x0 0 1018),()) [] h (by kernel_rfl) trivial (congrArg (fun z=>(z,())) (show ((inR x0 0 1018))=isEl x0 from by rfl))
theorem isEl_t {x:Int} (h:isEl x=true):0≤x∧x≤1018:=inR_t h

def S_spec_IsElement:Sum:={ fid:=153,dom:=[(.int 3)],cod:=[(.bool 4)],dp:=true,fz:=false,pre:=fun x=>True,g:=fun x=>((isEl x.1),()) }
def S_spec_IsElement_tab:List (Nat×Sum):=[(59,S_spec_l1In)]
theorem S_spec_IsElement_ok:FnOK Try.prog 153 S_spec_IsElement:=by
 refine at_enter 5 (fun x=>⟨[(0,aI x.1)],[]⟩) Try.func153 rfl (by kernel_rfl) (fun x=>rfl) ?_
 rintro w0 Z0 ⟨x0,u⟩ a w
 revert x0
 intro (x0:Int) hpre hlens h
 have hT:TabOK Try.prog S_spec_IsElement_tab:=(.cons S_spec_l1In_ok .nil)
 refine wp_seq ?_
 refine at_regq [] { ts:=[0,2],os:=[] } [] gamOK hT h (by kernel_rfl) trivial fun a w h=>then_normal (wp_seq ?_)
 refine at_regq [] { ts:=[2],os:=[] } [True] gamOK hT h (by kernel_rfl) ⟨trivial,trivial⟩ fun a w h=>then_normal (wp_ret ?_)
 exact at_return ((inR x0 0 1018),()) [] h (by kernel_rfl) trivial (congrArg (fun z=>(z,())) (show ((inR x0 0 1018))=isEl x0 from by first | rfl | (unfold isEl;rfl;done) | (unfold isEl;simp_all)))

def S_laws_eqIntS:Sum:={ fid:=34,dom:=[s22,s22],cod:=[(.bool 4)],dp:=true,fz:=false,pre:=fun x=>True,g:=fun x=>(((Sh.eqB s22) x.1 x.2.1),()) }
def S_laws_eqIntS_tab:List (Nat×Sum):=[]
theorem S_laws_eqIntS_ok:FnOK Try.prog 34 S_laws_eqIntS:=by
 refine at_enter 26 (fun x=>⟨[(0,aF (.int 3) x.1),(1,aF (.int 3) x.2.1)],[]⟩) Try.func34 rfl (by kernel_rfl) (fun x=>rfl) ?_
 rintro w0 Z0 ⟨x0,x1,u⟩ a w
 revert x0 x1
 intro (x0:(List Int)) (x1:(List Int)) hpre hlens h
 have hl1:List.length x0≤9223372036854775807:=hlens.1.1
 have hl2:List.length x1≤9223372036854775807:=hlens.2.1.1
 have hT:TabOK Try.prog S_laws_eqIntS_tab:=.nil
 refine wp_seq ?_
 refine at_regq [] { ts:=[0,1,4],os:=[] } [] gamOK hT h (by kernel_rfl) trivial fun a w h=>then_normal (wp_seq (wp_seq ?_))
 refine at_regq [] { ts:=[0,1,4,10],os:=[] } [] gamOK hT h (by kernel_rfl) trivial fun a w h=>then_normal ?_
 refine at_test (!decide (((List.length x0:Nat):Int)=((List.length x1:Nat):Int))) h (by kernel_rfl) (fun h1=>?_) (fun h1=>?_)
 ·replace h1 : ¬ (((List.length x0 : Nat) : Int) = ((List.length x1 : Nat) : Int)) := of_decide_eq_false (notT h1)
  refine wp_seq ?_
  refine at_regq [] { ts:=[0,1,4],os:=[] } [] gamOK hT h (by kernel_rfl) trivial fun a w h=>then_normal (wp_ret (then_ret ?_))
  exact at_return (false,()) [] h (by kernel_rfl) trivial (congrArg (fun z=>(z,())) (show (false)=(Sh.eqB s22) x0 x1 from by exact (Sh.eqB_ne (fun e=>h1 (by rw [e]))).symm))
 ·replace h1 : ((List.length x0 : Nat) : Int) = ((List.length x1 : Nat) : Int) := of_decide_eq_true (notF h1)
  refine wp_skip (then_normal (wp_seq (wp_seq ?_)))
  refine at_regq [] { ts:=[0,1,4,5],os:=[] } [] gamOK hT h (by kernel_rfl) trivial fun a w h=>then_normal (wp_block ?_)
  replace h:=at_out (σ':=⟨[(0,aF (.int 3) x0),(1,aF (.int 3) x1),(4,aB false),(5,aI 0)],[]⟩) { ts:=[0,1,4,5],os:=[] } h (by kernel_rfl)
  refine at_loop (fun i:Nat=>(⟨[(0,aF (.int 3) x0),(1,aF (.int 3) x1),(4,aB false),(5,aI ((i:Nat):Int))],[]⟩:St)) (fun i=>(i≤List.length x0∧x0.take i=x1.take i)) (fun i=>List.length x0 - i) (0) h (st_congr1 (fun (d0:Int)=>(⟨[(0,aF (.int 3) x0),(1,aF (.int 3) x1),(4,aB false),(5,aI d0)],[]⟩:St)) (show (0:Int)=(((0):Nat):Int) from by first | with_reducible rfl | (rfl) | rfl)) (by exact ⟨Nat.zero_le _,rfl⟩) ?_
  intro i a w hok0 h
  refine wp_seq (wp_seq ?_)
  refine at_regq [] { ts:=[0,1,4,5,14],os:=[] } [] gamOK hT h (by kernel_rfl) trivial fun a w h=>then_normal ?_
  refine at_test (decide (((i:Nat):Int) < ((List.length x0:Nat):Int))) h (by kernel_rfl) (fun h2=>?_) (fun h2=>?_)
  ·replace h2 : ((i : Nat) : Int) < ((List.length x0 : Nat) : Int) := of_decide_eq_true h2
   refine wp_skip (then_normal (wp_seq (wp_block (wp_seq ?_))))
   refine at_anyq [{},{},{},{},{},{},{},{},{}] { ts:=[0,1,4,5,25],os:=[] } [(0:Int)≤((i:Nat):Int)∧((i:Nat):Int) < ((List.length x0:Nat):Int),(0:Int)≤((i:Nat):Int)∧((i:Nat):Int) < ((List.length x1:Nat):Int)] gamOK hT mixed h (by kernel_rfl) ⟨(by refine ⟨?_,?_⟩<;>(first | omega | (simp only [lsA];omega) | (simp<;>omega))),(by refine ⟨?_,?_⟩<;>(first | omega | (simp only [lsA];omega) | (simp<;>omega))),trivial⟩ fun a w h=>then_normal ?_
   refine at_test (!decide ((x0.getD i 0)=(x1.getD i 0))) h (by kernel_rfl) (fun h3=>?_) (fun h3=>?_)
   ·replace h3 : ¬ ((x0.getD i 0) = (x1.getD i 0)) := of_decide_eq_false (notT h3)
    refine wp_seq ?_
    refine at_regq [] { ts:=[0,1,4,5],os:=[] } [] gamOK hT h (by kernel_rfl) trivial fun a w h=>then_normal (wp_ret (in_ret (then_ret (then_ret (in_ret (then_ret ?_))))))
    exact at_return (false,()) [] h (by kernel_rfl) trivial (congrArg (fun z=>(z,())) (show (false)=(Sh.eqB s22) x0 x1 from by exact (Sh.eqB_ne (s:=s22) (fun e=>h3 (by rw [e]))).symm))
   ·replace h3 : (x0.getD i 0) = (x1.getD i 0) := of_decide_eq_true (notF h3)
    refine wp_skip (in_normal (then_normal ?_))
    refine at_regq [{},{ nw:=true }] { ts:=[0,1,4,5],os:=[] } [I64 (((i:Nat):Int)+1)] gamOK hT h (by kernel_rfl) ⟨⟨by first | omega | (simp only [lsA];omega) | (simp<;>omega),by first | omega | (simp only [lsA];omega) | (simp<;>omega)⟩,trivial⟩ fun a w h=>?_
    replace h:=at_out (σ':=⟨[(0,aF (.int 3) x0),(1,aF (.int 3) x1),(4,aB false),(5,aI (((i:Nat):Int)+1))],[]⟩) { ts:=[0,1,4,5],os:=[] } h (by kernel_rfl)
    exact ⟨i+1,at_eq h (st_congr1 (fun (d0:Int)=>(⟨[(0,aF (.int 3) x0),(1,aF (.int 3) x1),(4,aB false),(5,aI d0)],[]⟩:St)) (show (((i:Nat):Int)+1:Int)=(((i+1):Nat):Int) from by first | with_reducible rfl | (omega) | rfl)),(by exact ⟨by omega,eqTo_step (z:=0) (by omega) (by omega) hok0.2 h3⟩),(by omega)⟩
  ·replace h2 : ¬ (((i : Nat) : Int) < ((List.length x0 : Nat) : Int)) := of_decide_eq_false h2
   refine wp_exit (then_exit (then_exit (in_hit (then_normal (wp_seq ?_)))))
   refine at_regq [] { ts:=[4],os:=[] } [] gamOK hT h (by kernel_rfl) trivial fun a w h=>then_normal (wp_ret ?_)
   exact at_return (true,()) [] h (by kernel_rfl) trivial (congrArg (fun z=>(z,())) (show (true)=(Sh.eqB s22) x0 x1 from by (have e:=hok0.2;rw [take_all (by omega),take_all (by omega)] at e;exact ((Sh.eqB_iff s22).2 e).symm)))

def S_laws_eqCodedPacket:Sum:={ fid:=19,dom:=[s50,s50],cod:=[(.bool 4)],dp:=true,fz:=false,pre:=fun x=>True,g:=fun x=>(((Sh.eqB s50) x.1 x.2.1),()) }
def S_laws_eqCodedPacket_tab:List (Nat×Sum):=[(34,S_laws_eqIntS)]
theorem S_laws_eqCodedPacket_ok:FnOK Try.prog 19 S_laws_eqCodedPacket:=by
 refine at_enter 22 (fun x=>⟨[(0,aG [cI x.1.1,.ro (.int 3) x.1.2.1,.ro (.int 3) x.1.2.2]),(1,aG [cI x.2.1.1,.ro (.int 3) x.2.1.2.1,.ro (.int 3) x.2.1.2.2])],[]⟩) Try.func19 rfl (by kernel_rfl) (fun x=>rfl) ?_
 rintro w0 Z0 ⟨x0,x1,u⟩ a w
 revert x0 x1
 intro (x0:T50) (x1:T50) hpre hlens h
 have hl1:List.length x0.2.1≤9223372036854775807:=hlens.1.2.1.1
 have hl2:List.length x0.2.2≤9223372036854775807:=hlens.1.2.2.1
 have hl3:List.length x1.2.1≤9223372036854775807:=hlens.2.1.2.1.1
 have hl4:List.length x1.2.2≤9223372036854775807:=hlens.2.1.2.2.1
 have hT:TabOK Try.prog S_laws_eqCodedPacket_tab:=(.cons S_laws_eqIntS_ok .nil)
 refine wp_seq ?_
 refine at_regq [{ ids:=[1] },{ ids:=[2] }] { ts:=[2,3,4],os:=[1,2] } [] gamOK hT h (by kernel_rfl) trivial fun a w h=>then_normal (wp_seq (wp_seq ?_))
 refine at_regq [] { ts:=[2,3,4,9],os:=[1,2] } [] gamOK hT h (by kernel_rfl) trivial fun a w h=>then_normal ?_
 refine at_test (!decide (x0.1=x1.1)) h (by kernel_rfl) (fun h1=>?_) (fun h1=>?_)
 ·replace h1 : ¬ (x0.1 = x1.1) := of_decide_eq_false (notT h1)
  refine wp_seq ?_
  refine at_regq [] { ts:=[2,3,4],os:=[1,2] } [] gamOK hT h (by kernel_rfl) trivial fun a w h=>then_normal (wp_ret (then_ret ?_))
  exact at_return (false,()) [] h (by kernel_rfl) trivial (congrArg (fun z=>(z,())) (show (false)=(Sh.eqB s50) x0 x1 from by exact (Sh.eqB_ne (s:=s50) (fun e=>h1 (congrArg (fun (y:T50)=>y.1) e))).symm))
 ·replace h1 : x0.1 = x1.1 := of_decide_eq_true (notF h1)
  refine wp_skip (then_normal (wp_seq (wp_seq ?_)))
  refine at_regq [] { ts:=[2,3,4,15],os:=[1,2] } [True] gamOK hT h (by kernel_rfl) ⟨trivial,trivial⟩ fun a w h=>then_normal ?_
  refine at_test (!((Sh.eqB s22) x0.2.1 x1.2.1)) h (by kernel_rfl) (fun h2=>?_) (fun h2=>?_)
  ·replace h2 : ((Sh.eqB s22) x0.2.1 x1.2.1) = false := notT h2
   refine wp_seq ?_
   refine at_regq [] { ts:=[2,3,4],os:=[1,2] } [] gamOK hT h (by kernel_rfl) trivial fun a w h=>then_normal (wp_ret (then_ret ?_))
   exact at_return (false,()) [] h (by kernel_rfl) trivial (congrArg (fun z=>(z,())) (show (false)=(Sh.eqB s50) x0 x1 from by exact (Sh.eqB_ne (s:=s50) (fun e=>Sh.of_eqB_ne h2 (congrArg (fun (y:T50)=>y.2.1) e))).symm))
  ·replace h2 : ((Sh.eqB s22) x0.2.1 x1.2.1) = true := notF h2
   refine wp_skip (then_normal (wp_seq (wp_seq ?_)))
   refine at_regq [] { ts:=[4,21],os:=[] } [True] gamOK hT h (by kernel_rfl) ⟨trivial,trivial⟩ fun a w h=>then_normal ?_
   refine at_test (!((Sh.eqB s22) x0.2.2 x1.2.2)) h (by kernel_rfl) (fun h3=>?_) (fun h3=>?_)
   ·replace h3 : ((Sh.eqB s22) x0.2.2 x1.2.2) = false := notT h3
    refine wp_seq ?_
    refine at_regq [] { ts:=[4],os:=[] } [] gamOK hT h (by kernel_rfl) trivial fun a w h=>then_normal (wp_ret (then_ret ?_))
    exact at_return (false,()) [] h (by kernel_rfl) trivial (congrArg (fun z=>(z,())) (show (false)=(Sh.eqB s50) x0 x1 from by exact (Sh.eqB_ne (s:=s50) (fun e=>Sh.of_eqB_ne h3 (congrArg (fun (y:T50)=>y.2.2) e))).symm))
   ·replace h3 : ((Sh.eqB s22) x0.2.2 x1.2.2) = true := notF h3
    refine wp_skip (then_normal (wp_seq ?_))
    refine at_regq [] { ts:=[4],os:=[] } [] gamOK hT h (by kernel_rfl) trivial fun a w h=>then_normal (wp_ret ?_)
    exact at_return (true,()) [] h (by kernel_rfl) trivial (congrArg (fun z=>(z,())) (show (true)=(Sh.eqB s50) x0 x1 from by exact ((Sh.eqB_iff s50).2 (Prod.ext h1 (Prod.ext (Sh.of_eqB h2) (Sh.of_eqB h3)))).symm))

def S_laws_eqCodedPacketS:Sum:={ fid:=137,dom:=[s77,s77],cod:=[(.bool 4)],dp:=true,fz:=false,pre:=fun x=>True,g:=fun x=>(((Sh.eqB s77) x.1 x.2.1),()) }
def S_laws_eqCodedPacketS_tab:List (Nat×Sum):=[(19,S_laws_eqCodedPacket)]
theorem S_laws_eqCodedPacketS_ok:FnOK Try.prog 137 S_laws_eqCodedPacketS:=by
 refine at_enter 27 (fun x=>⟨[(0,aF s50 x.1),(1,aF s50 x.2.1)],[]⟩) Try.func137 rfl (by kernel_rfl) (fun x=>rfl) ?_
 rintro w0 Z0 ⟨x0,x1,u⟩ a w
 revert x0 x1
 intro (x0:(List T50)) (x1:(List T50)) hpre hlens h
 have hl1:List.length x0≤9223372036854775807:=hlens.1.1
 have hl2:List.length x1≤9223372036854775807:=hlens.2.1.1
 have hT:TabOK Try.prog S_laws_eqCodedPacketS_tab:=(.cons S_laws_eqCodedPacket_ok .nil)
 refine wp_seq ?_
 refine at_regq [] { ts:=[0,1,4],os:=[] } [] gamOK hT h (by kernel_rfl) trivial fun a w h=>then_normal (wp_seq (wp_seq ?_))
 refine at_regq [] { ts:=[0,1,4,10],os:=[] } [] gamOK hT h (by kernel_rfl) trivial fun a w h=>then_normal ?_
 refine at_test (!decide (((List.length x0:Nat):Int)=((List.length x1:Nat):Int))) h (by kernel_rfl) (fun h1=>?_) (fun h1=>?_)
 ·replace h1 : ¬ (((List.length x0 : Nat) : Int) = ((List.length x1 : Nat) : Int)) := of_decide_eq_false (notT h1)
  refine wp_seq ?_
  refine at_regq [] { ts:=[0,1,4],os:=[] } [] gamOK hT h (by kernel_rfl) trivial fun a w h=>then_normal (wp_ret (then_ret ?_))
  exact at_return (false,()) [] h (by kernel_rfl) trivial (congrArg (fun z=>(z,())) (show (false)=(Sh.eqB s77) x0 x1 from by exact (Sh.eqB_ne (fun e=>h1 (by rw [e]))).symm))
 ·replace h1 : ((List.length x0 : Nat) : Int) = ((List.length x1 : Nat) : Int) := of_decide_eq_true (notF h1)
  refine wp_skip (then_normal (wp_seq (wp_seq ?_)))
  refine at_regq [] { ts:=[0,1,4,5],os:=[] } [] gamOK hT h (by kernel_rfl) trivial fun a w h=>then_normal (wp_block ?_)
  replace h:=at_out (σ':=⟨[(0,aF s50 x0),(1,aF s50 x1),(4,aB false),(5,aI 0)],[]⟩) { ts:=[0,1,4,5],os:=[] } h (by kernel_rfl)
  refine at_loop (fun i:Nat=>(⟨[(0,aF s50 x0),(1,aF s50 x1),(4,aB false),(5,aI ((i:Nat):Int))],[]⟩:St)) (fun i=>(i≤List.length x0∧x0.take i=x1.take i)) (fun i=>List.length x0 - i) (0) h (st_congr1 (fun (d0:Int)=>(⟨[(0,aF s50 x0),(1,aF s50 x1),(4,aB false),(5,aI d0)],[]⟩:St)) (show (0:Int)=(((0):Nat):Int) from by first | with_reducible rfl | (rfl) | rfl)) (by exact ⟨Nat.zero_le _,rfl⟩) ?_
  intro i a w hok0 h
  refine wp_seq (wp_seq ?_)
  refine at_regq [] { ts:=[0,1,4,5,14],os:=[] } [] gamOK hT h (by kernel_rfl) trivial fun a w h=>then_normal ?_
  refine at_test (decide (((i:Nat):Int) < ((List.length x0:Nat):Int))) h (by kernel_rfl) (fun h2=>?_) (fun h2=>?_)
  ·replace h2 : ((i : Nat) : Int) < ((List.length x0 : Nat) : Int) := of_decide_eq_true h2
   refine wp_skip (then_normal (wp_seq (wp_block (wp_seq ?_))))
   refine at_anyq [{},{},{},{},{},{},{},{},{},{}] { ts:=[0,1,4,5,26],os:=[] } [(0:Int)≤((i:Nat):Int)∧((i:Nat):Int) < ((List.length x0:Nat):Int),(0:Int)≤((i:Nat):Int)∧((i:Nat):Int) < ((List.length x1:Nat):Int),True] gamOK hT mixed h (by kernel_rfl) ⟨(by refine ⟨?_,?_⟩<;>(first | omega | (simp only [lsA];omega) | (simp<;>omega))),(by refine ⟨?_,?_⟩<;>(first | omega | (simp only [lsA];omega) | (simp<;>omega))),trivial,trivial⟩ fun a w h=>then_normal ?_
   refine at_test (!((Sh.eqB s50) (x0.getD i (0,([],[]))) (x1.getD i (0,([],[]))))) h (by kernel_rfl) (fun h3=>?_) (fun h3=>?_)
   ·replace h3 : ((Sh.eqB s50) (x0.getD i (0, ([], []))) (x1.getD i (0, ([], [])))) = false := notT h3
    refine wp_seq ?_
    refine at_regq [] { ts:=[0,1,4,5],os:=[] } [] gamOK hT h (by kernel_rfl) trivial fun a w h=>then_normal (wp_ret (in_ret (then_ret (then_ret (in_ret (then_ret ?_))))))
    exact at_return (false,()) [] h (by kernel_rfl) trivial (congrArg (fun z=>(z,())) (show (false)=(Sh.eqB s77) x0 x1 from by exact (Sh.eqB_ne (s:=s77) (fun e=>Sh.of_eqB_ne h3 (by rw [e]))).symm))
   ·replace h3 : ((Sh.eqB s50) (x0.getD i (0, ([], []))) (x1.getD i (0, ([], [])))) = true := notF h3
    refine wp_skip (in_normal (then_normal ?_))
    refine at_regq [{},{ nw:=true }] { ts:=[0,1,4,5],os:=[] } [I64 (((i:Nat):Int)+1)] gamOK hT h (by kernel_rfl) ⟨⟨by first | omega | (simp only [lsA];omega) | (simp<;>omega),by first | omega | (simp only [lsA];omega) | (simp<;>omega)⟩,trivial⟩ fun a w h=>?_
    replace h:=at_out (σ':=⟨[(0,aF s50 x0),(1,aF s50 x1),(4,aB false),(5,aI (((i:Nat):Int)+1))],[]⟩) { ts:=[0,1,4,5],os:=[] } h (by kernel_rfl)
    exact ⟨i+1,at_eq h (st_congr1 (fun (d0:Int)=>(⟨[(0,aF s50 x0),(1,aF s50 x1),(4,aB false),(5,aI d0)],[]⟩:St)) (show (((i:Nat):Int)+1:Int)=(((i+1):Nat):Int) from by first | with_reducible rfl | (omega) | rfl)),(by exact ⟨by omega,eqTo_step (z:=(0,([],[]))) (by omega) (by omega) hok0.2 (Sh.of_eqB h3)⟩),(by omega)⟩
  ·replace h2 : ¬ (((i : Nat) : Int) < ((List.length x0 : Nat) : Int)) := of_decide_eq_false h2
   refine wp_exit (then_exit (then_exit (in_hit (then_normal (wp_seq ?_)))))
   refine at_regq [] { ts:=[4],os:=[] } [] gamOK hT h (by kernel_rfl) trivial fun a w h=>then_normal (wp_ret ?_)
   exact at_return (true,()) [] h (by kernel_rfl) trivial (congrArg (fun z=>(z,())) (show (true)=(Sh.eqB s77) x0 x1 from by (have e:=hok0.2;rw [take_all (by omega),take_all (by omega)] at e;exact ((Sh.eqB_iff s77).2 e).symm)))

def S_laws_eqRecoder:Sum:={ fid:=97,dom:=[s79,s79],cod:=[(.bool 4)],dp:=true,fz:=false,pre:=fun x=>True,g:=fun x=>(((Sh.eqB s79) x.1 x.2.1),()) }
def S_laws_eqRecoder_tab:List (Nat×Sum):=[(137,S_laws_eqCodedPacketS)]
theorem S_laws_eqRecoder_ok:FnOK Try.prog 97 S_laws_eqRecoder:=by
 refine at_enter 31 (fun x=>⟨[(0,aG [cI x.1.1,cI x.1.2.1,cI x.1.2.2.1,.ro s50 x.1.2.2.2.1,cI x.1.2.2.2.2]),(1,aG [cI x.2.1.1,cI x.2.1.2.1,cI x.2.1.2.2.1,.ro s50 x.2.1.2.2.2.1,cI x.2.1.2.2.2.2])],[]⟩) Try.func97 rfl (by kernel_rfl) (fun x=>rfl) ?_
 rintro w0 Z0 ⟨x0,x1,u⟩ a w
 revert x0 x1
 intro (x0:T79) (x1:T79) hpre hlens h
 have hl1:List.length x0.2.2.2.1≤9223372036854775807:=hlens.1.2.2.2.1.1
 have hl2:List.length x1.2.2.2.1≤9223372036854775807:=hlens.2.1.2.2.2.1.1
 have hT:TabOK Try.prog S_laws_eqRecoder_tab:=(.cons S_laws_eqCodedPacketS_ok .nil)
 refine wp_seq ?_
 refine at_regq [{ ids:=[1] },{ ids:=[2] }] { ts:=[2,3,4],os:=[1,2] } [] gamOK hT h (by kernel_rfl) trivial fun a w h=>then_normal (wp_seq (wp_seq ?_))
 refine at_regq [] { ts:=[2,3,4,9],os:=[1,2] } [] gamOK hT h (by kernel_rfl) trivial fun a w h=>then_normal ?_
 refine at_test (!decide (x0.1=x1.1)) h (by kernel_rfl) (fun h1=>?_) (fun h1=>?_)
 ·replace h1 : ¬ (x0.1 = x1.1) := of_decide_eq_false (notT h1)
  refine wp_seq ?_
  refine at_regq [] { ts:=[2,3,4],os:=[1,2] } [] gamOK hT h (by kernel_rfl) trivial fun a w h=>then_normal (wp_ret (then_ret ?_))
  exact at_return (false,()) [] h (by kernel_rfl) trivial (congrArg (fun z=>(z,())) (show (false)=(Sh.eqB s79) x0 x1 from by exact (Sh.eqB_ne (s:=s79) (fun e=>h1 (congrArg (fun (y:T79)=>y.1) e))).symm))
 ·replace h1 : x0.1 = x1.1 := of_decide_eq_true (notF h1)
  refine wp_skip (then_normal (wp_seq (wp_seq ?_)))
  refine at_regq [] { ts:=[2,3,4,14],os:=[1,2] } [] gamOK hT h (by kernel_rfl) trivial fun a w h=>then_normal ?_
  refine at_test (!decide (x0.2.1=x1.2.1)) h (by kernel_rfl) (fun h2=>?_) (fun h2=>?_)
  ·replace h2 : ¬ (x0.2.1 = x1.2.1) := of_decide_eq_false (notT h2)
   refine wp_seq ?_
   refine at_regq [] { ts:=[2,3,4],os:=[1,2] } [] gamOK hT h (by kernel_rfl) trivial fun a w h=>then_normal (wp_ret (then_ret ?_))
   exact at_return (false,()) [] h (by kernel_rfl) trivial (congrArg (fun z=>(z,())) (show (false)=(Sh.eqB s79) x0 x1 from by exact (Sh.eqB_ne (s:=s79) (fun e=>h2 (congrArg (fun (y:T79)=>y.2.1) e))).symm))
  ·replace h2 : x0.2.1 = x1.2.1 := of_decide_eq_true (notF h2)
   refine wp_skip (then_normal (wp_seq (wp_seq ?_)))
   refine at_regq [] { ts:=[2,3,4,19],os:=[1,2] } [] gamOK hT h (by kernel_rfl) trivial fun a w h=>then_normal ?_
   refine at_test (!decide (x0.2.2.1=x1.2.2.1)) h (by kernel_rfl) (fun h3=>?_) (fun h3=>?_)
   ·replace h3 : ¬ (x0.2.2.1 = x1.2.2.1) := of_decide_eq_false (notT h3)
    refine wp_seq ?_
    refine at_regq [] { ts:=[2,3,4],os:=[1,2] } [] gamOK hT h (by kernel_rfl) trivial fun a w h=>then_normal (wp_ret (then_ret ?_))
    exact at_return (false,()) [] h (by kernel_rfl) trivial (congrArg (fun z=>(z,())) (show (false)=(Sh.eqB s79) x0 x1 from by exact (Sh.eqB_ne (s:=s79) (fun e=>h3 (congrArg (fun (y:T79)=>y.2.2.1) e))).symm))
   ·replace h3 : x0.2.2.1 = x1.2.2.1 := of_decide_eq_true (notF h3)
    refine wp_skip (then_normal (wp_seq (wp_seq ?_)))
    refine at_regq [] { ts:=[2,3,4,25],os:=[1,2] } [True] gamOK hT h (by kernel_rfl) ⟨trivial,trivial⟩ fun a w h=>then_normal ?_
    refine at_test (!((Sh.eqB s77) x0.2.2.2.1 x1.2.2.2.1)) h (by kernel_rfl) (fun h4=>?_) (fun h4=>?_)
    ·replace h4 : ((Sh.eqB s77) x0.2.2.2.1 x1.2.2.2.1) = false := notT h4
     refine wp_seq ?_
     refine at_regq [] { ts:=[2,3,4],os:=[1,2] } [] gamOK hT h (by kernel_rfl) trivial fun a w h=>then_normal (wp_ret (then_ret ?_))
     exact at_return (false,()) [] h (by kernel_rfl) trivial (congrArg (fun z=>(z,())) (show (false)=(Sh.eqB s79) x0 x1 from by exact (Sh.eqB_ne (s:=s79) (fun e=>Sh.of_eqB_ne h4 (congrArg (fun (y:T79)=>y.2.2.2.1) e))).symm))
    ·replace h4 : ((Sh.eqB s77) x0.2.2.2.1 x1.2.2.2.1) = true := notF h4
     refine wp_skip (then_normal (wp_seq (wp_seq ?_)))
     refine at_regq [] { ts:=[4,30],os:=[] } [] gamOK hT h (by kernel_rfl) trivial fun a w h=>then_normal ?_
     refine at_test (!decide (x0.2.2.2.2=x1.2.2.2.2)) h (by kernel_rfl) (fun h5=>?_) (fun h5=>?_)
     ·replace h5 : ¬ (x0.2.2.2.2 = x1.2.2.2.2) := of_decide_eq_false (notT h5)
      refine wp_seq ?_
      refine at_regq [] { ts:=[4],os:=[] } [] gamOK hT h (by kernel_rfl) trivial fun a w h=>then_normal (wp_ret (then_ret ?_))
      exact at_return (false,()) [] h (by kernel_rfl) trivial (congrArg (fun z=>(z,())) (show (false)=(Sh.eqB s79) x0 x1 from by exact (Sh.eqB_ne (s:=s79) (fun e=>h5 (congrArg (fun (y:T79)=>y.2.2.2.2) e))).symm))
     ·replace h5 : x0.2.2.2.2 = x1.2.2.2.2 := of_decide_eq_true (notF h5)
      refine wp_skip (then_normal (wp_seq ?_))
      refine at_regq [] { ts:=[4],os:=[] } [] gamOK hT h (by kernel_rfl) trivial fun a w h=>then_normal (wp_ret ?_)
      exact at_return (true,()) [] h (by kernel_rfl) trivial (congrArg (fun z=>(z,())) (show (true)=(Sh.eqB s79) x0 x1 from by exact ((Sh.eqB_iff s79).2 (Prod.ext h1 (Prod.ext h2 (Prod.ext h3 (Prod.ext (Sh.of_eqB h4) h5))))).symm))

def S_laws_eqRecoderS:Sum:={ fid:=52,dom:=[s44,s44],cod:=[(.bool 4)],dp:=true,fz:=false,pre:=fun x=>True,g:=fun x=>(((Sh.eqB s44) x.1 x.2.1),()) }
def S_laws_eqRecoderS_tab:List (Nat×Sum):=[(97,S_laws_eqRecoder)]
theorem S_laws_eqRecoderS_ok:FnOK Try.prog 52 S_laws_eqRecoderS:=by
 refine at_enter 27 (fun x=>⟨[(0,aF s79 x.1),(1,aF s79 x.2.1)],[]⟩) Try.func52 rfl (by kernel_rfl) (fun x=>rfl) ?_
 rintro w0 Z0 ⟨x0,x1,u⟩ a w
 revert x0 x1
 intro (x0:(List T79)) (x1:(List T79)) hpre hlens h
 have hl1:List.length x0≤9223372036854775807:=hlens.1.1
 have hl2:List.length x1≤9223372036854775807:=hlens.2.1.1
 have hT:TabOK Try.prog S_laws_eqRecoderS_tab:=(.cons S_laws_eqRecoder_ok .nil)
 refine wp_seq ?_
 refine at_regq [] { ts:=[0,1,4],os:=[] } [] gamOK hT h (by kernel_rfl) trivial fun a w h=>then_normal (wp_seq (wp_seq ?_))
 refine at_regq [] { ts:=[0,1,4,10],os:=[] } [] gamOK hT h (by kernel_rfl) trivial fun a w h=>then_normal ?_
 refine at_test (!decide (((List.length x0:Nat):Int)=((List.length x1:Nat):Int))) h (by kernel_rfl) (fun h1=>?_) (fun h1=>?_)
 ·replace h1 : ¬ (((List.length x0 : Nat) : Int) = ((List.length x1 : Nat) : Int)) := of_decide_eq_false (notT h1)
  refine wp_seq ?_
  refine at_regq [] { ts:=[0,1,4],os:=[] } [] gamOK hT h (by kernel_rfl) trivial fun a w h=>then_normal (wp_ret (then_ret ?_))
  exact at_return (false,()) [] h (by kernel_rfl) trivial (congrArg (fun z=>(z,())) (show (false)=(Sh.eqB s44) x0 x1 from by exact (Sh.eqB_ne (fun e=>h1 (by rw [e]))).symm))
 ·replace h1 : ((List.length x0 : Nat) : Int) = ((List.length x1 : Nat) : Int) := of_decide_eq_true (notF h1)
  refine wp_skip (then_normal (wp_seq (wp_seq ?_)))
  refine at_regq [] { ts:=[0,1,4,5],os:=[] } [] gamOK hT h (by kernel_rfl) trivial fun a w h=>then_normal (wp_block ?_)
  replace h:=at_out (σ':=⟨[(0,aF s79 x0),(1,aF s79 x1),(4,aB false),(5,aI 0)],[]⟩) { ts:=[0,1,4,5],os:=[] } h (by kernel_rfl)
  refine at_loop (fun i:Nat=>(⟨[(0,aF s79 x0),(1,aF s79 x1),(4,aB false),(5,aI ((i:Nat):Int))],[]⟩:St)) (fun i=>(i≤List.length x0∧x0.take i=x1.take i)) (fun i=>List.length x0 - i) (0) h (st_congr1 (fun (d0:Int)=>(⟨[(0,aF s79 x0),(1,aF s79 x1),(4,aB false),(5,aI d0)],[]⟩:St)) (show (0:Int)=(((0):Nat):Int) from by first | with_reducible rfl | (rfl) | rfl)) (by exact ⟨Nat.zero_le _,rfl⟩) ?_
  intro i a w hok0 h
  refine wp_seq (wp_seq ?_)
  refine at_regq [] { ts:=[0,1,4,5,14],os:=[] } [] gamOK hT h (by kernel_rfl) trivial fun a w h=>then_normal ?_
  refine at_test (decide (((i:Nat):Int) < ((List.length x0:Nat):Int))) h (by kernel_rfl) (fun h2=>?_) (fun h2=>?_)
  ·replace h2 : ((i : Nat) : Int) < ((List.length x0 : Nat) : Int) := of_decide_eq_true h2
   refine wp_skip (then_normal (wp_seq (wp_block (wp_seq ?_))))
   refine at_anyq [{},{},{},{},{},{},{},{},{},{}] { ts:=[0,1,4,5,26],os:=[] } [(0:Int)≤((i:Nat):Int)∧((i:Nat):Int) < ((List.length x0:Nat):Int),(0:Int)≤((i:Nat):Int)∧((i:Nat):Int) < ((List.length x1:Nat):Int),True] gamOK hT mixed h (by kernel_rfl) ⟨(by refine ⟨?_,?_⟩<;>(first | omega | (simp only [lsA];omega) | (simp<;>omega))),(by refine ⟨?_,?_⟩<;>(first | omega | (simp only [lsA];omega) | (simp<;>omega))),trivial,trivial⟩ fun a w h=>then_normal ?_
   refine at_test (!((Sh.eqB s79) (x0.getD i (0,(0,(0,([],0))))) (x1.getD i (0,(0,(0,([],0))))))) h (by kernel_rfl) (fun h3=>?_) (fun h3=>?_)
   ·replace h3 : ((Sh.eqB s79) (x0.getD i (0, (0, (0, ([], 0))))) (x1.getD i (0, (0, (0, ([], 0)))))) = false := notT h3
    refine wp_seq ?_
    refine at_regq [] { ts:=[0,1,4,5],os:=[] } [] gamOK hT h (by kernel_rfl) trivial fun a w h=>then_normal (wp_ret (in_ret (then_ret (then_ret (in_ret (then_ret ?_))))))
    exact at_return (false,()) [] h (by kernel_rfl) trivial (congrArg (fun z=>(z,())) (show (false)=(Sh.eqB s44) x0 x1 from by exact (Sh.eqB_ne (s:=s44) (fun e=>Sh.of_eqB_ne h3 (by rw [e]))).symm))
   ·replace h3 : ((Sh.eqB s79) (x0.getD i (0, (0, (0, ([], 0))))) (x1.getD i (0, (0, (0, ([], 0)))))) = true := notF h3
    refine wp_skip (in_normal (then_normal ?_))
    refine at_regq [{},{ nw:=true }] { ts:=[0,1,4,5],os:=[] } [I64 (((i:Nat):Int)+1)] gamOK hT h (by kernel_rfl) ⟨⟨by first | omega | (simp only [lsA];omega) | (simp<;>omega),by first | omega | (simp only [lsA];omega) | (simp<;>omega)⟩,trivial⟩ fun a w h=>?_
    replace h:=at_out (σ':=⟨[(0,aF s79 x0),(1,aF s79 x1),(4,aB false),(5,aI (((i:Nat):Int)+1))],[]⟩) { ts:=[0,1,4,5],os:=[] } h (by kernel_rfl)
    exact ⟨i+1,at_eq h (st_congr1 (fun (d0:Int)=>(⟨[(0,aF s79 x0),(1,aF s79 x1),(4,aB false),(5,aI d0)],[]⟩:St)) (show (((i:Nat):Int)+1:Int)=(((i+1):Nat):Int) from by first | with_reducible rfl | (omega) | rfl)),(by exact ⟨by omega,eqTo_step (z:=(0,(0,(0,([],0))))) (by omega) (by omega) hok0.2 (Sh.of_eqB h3)⟩),(by omega)⟩
  ·replace h2 : ¬ (((i : Nat) : Int) < ((List.length x0 : Nat) : Int)) := of_decide_eq_false h2
   refine wp_exit (then_exit (then_exit (in_hit (then_normal (wp_seq ?_)))))
   refine at_regq [] { ts:=[4],os:=[] } [] gamOK hT h (by kernel_rfl) trivial fun a w h=>then_normal (wp_ret ?_)
   exact at_return (true,()) [] h (by kernel_rfl) trivial (congrArg (fun z=>(z,())) (show (true)=(Sh.eqB s44) x0 x1 from by (have e:=hok0.2;rw [take_all (by omega),take_all (by omega)] at e;exact ((Sh.eqB_iff s44).2 e).symm)))

def S_laws_eqRelay:Sum:={ fid:=18,dom:=[s46,s46],cod:=[(.bool 4)],dp:=true,fz:=false,pre:=fun x=>True,g:=fun x=>(((Sh.eqB s46) x.1 x.2.1),()) }
def S_laws_eqRelay_tab:List (Nat×Sum):=[(52,S_laws_eqRecoderS)]
theorem S_laws_eqRelay_ok:FnOK Try.prog 18 S_laws_eqRelay:=by
 refine at_enter 16 (fun x=>⟨[(0,aG [cI x.1.1,.ro s79 x.1.2]),(1,aG [cI x.2.1.1,.ro s79 x.2.1.2])],[]⟩) Try.func18 rfl (by kernel_rfl) (fun x=>rfl) ?_
 rintro w0 Z0 ⟨x0,x1,u⟩ a w
 revert x0 x1
 intro (x0:T46) (x1:T46) hpre hlens h
 have hl1:List.length x0.2≤9223372036854775807:=hlens.1.2.1
 have hl2:List.length x1.2≤9223372036854775807:=hlens.2.1.2.1
 have hT:TabOK Try.prog S_laws_eqRelay_tab:=(.cons S_laws_eqRecoderS_ok .nil)
 refine wp_seq ?_
 refine at_regq [{ ids:=[1] },{ ids:=[2] }] { ts:=[2,3,4],os:=[1,2] } [] gamOK hT h (by kernel_rfl) trivial fun a w h=>then_normal (wp_seq (wp_seq ?_))
 refine at_regq [] { ts:=[2,3,4,9],os:=[1,2] } [] gamOK hT h (by kernel_rfl) trivial fun a w h=>then_normal ?_
 refine at_test (!decide (x0.1=x1.1)) h (by kernel_rfl) (fun h1=>?_) (fun h1=>?_)
 ·replace h1 : ¬ (x0.1 = x1.1) := of_decide_eq_false (notT h1)
  refine wp_seq ?_
  refine at_regq [] { ts:=[2,3,4],os:=[1,2] } [] gamOK hT h (by kernel_rfl) trivial fun a w h=>then_normal (wp_ret (then_ret ?_))
  exact at_return (false,()) [] h (by kernel_rfl) trivial (congrArg (fun z=>(z,())) (show (false)=(Sh.eqB s46) x0 x1 from by exact (Sh.eqB_ne (s:=s46) (fun e=>h1 (congrArg (fun (y:T46)=>y.1) e))).symm))
 ·replace h1 : x0.1 = x1.1 := of_decide_eq_true (notF h1)
  refine wp_skip (then_normal (wp_seq (wp_seq ?_)))
  refine at_regq [] { ts:=[4,15],os:=[] } [True] gamOK hT h (by kernel_rfl) ⟨trivial,trivial⟩ fun a w h=>then_normal ?_
  refine at_test (!((Sh.eqB s44) x0.2 x1.2)) h (by kernel_rfl) (fun h2=>?_) (fun h2=>?_)
  ·replace h2 : ((Sh.eqB s44) x0.2 x1.2) = false := notT h2
   refine wp_seq ?_
   refine at_regq [] { ts:=[4],os:=[] } [] gamOK hT h (by kernel_rfl) trivial fun a w h=>then_normal (wp_ret (then_ret ?_))
   exact at_return (false,()) [] h (by kernel_rfl) trivial (congrArg (fun z=>(z,())) (show (false)=(Sh.eqB s46) x0 x1 from by exact (Sh.eqB_ne (s:=s46) (fun e=>Sh.of_eqB_ne h2 (congrArg (fun (y:T46)=>y.2) e))).symm))
  ·replace h2 : ((Sh.eqB s44) x0.2 x1.2) = true := notF h2
   refine wp_skip (then_normal (wp_seq ?_))
   refine at_regq [] { ts:=[4],os:=[] } [] gamOK hT h (by kernel_rfl) trivial fun a w h=>then_normal (wp_ret ?_)
   exact at_return (true,()) [] h (by kernel_rfl) trivial (congrArg (fun z=>(z,())) (show (true)=(Sh.eqB s46) x0 x1 from by exact ((Sh.eqB_iff s46).2 (Prod.ext h1 (Sh.of_eqB h2))).symm))

def S_laws_heldIntS:Sum:={ fid:=40,dom:=[s22,(.int 3)],cod:=[(.int 3)],dp:=true,fz:=false,pre:=fun x=>(pMk s22) x.1 x.2.1,g:=fun x=>(((heldD s22) x.1 x.2.1),()) }
def S_laws_heldIntS_tab:List (Nat×Sum):=[]
theorem S_laws_heldIntS_ok:FnOK Try.prog 40 S_laws_heldIntS:=by
 refine at_enter 21 (fun x=>⟨[(0,aF (.int 3) x.1),(1,aI x.2.1)],[]⟩) Try.func40 rfl (by kernel_rfl) (fun x=>rfl) ?_
 rintro w0 Z0 ⟨x0,x1,u⟩ a w
 revert x0 x1
 intro (x0:(List Int)) (x1:Int) hpre hlens h
 replace hpre:(pMk s22) x0 x1:=hpre
 have hl1:List.length x0≤9223372036854775807:=hlens.1.1
 have hT:TabOK Try.prog S_laws_heldIntS_tab:=.nil
 have hp:0≤x1∧x1+((Sh.ct s22 x0:Nat):Int)≤4611686018427387904:=hpre
 have hct0:Sh.ct s22 x0=ctL (Sh.ct (.int 3)) x0:=rfl
 refine wp_seq ?_
 refine at_regq [] { ts:=[0,1,4],os:=[] } [] gamOK hT h (by kernel_rfl) trivial fun a w h=>then_normal (wp_seq (wp_seq ?_))
 refine at_regq [] { ts:=[0,1,4,5],os:=[] } [] gamOK hT h (by kernel_rfl) trivial fun a w h=>then_normal (wp_block ?_)
 replace h:=at_out (σ':=⟨[(0,aF (.int 3) x0),(1,aI x1),(4,aI 0),(5,aI 0)],[]⟩) { ts:=[0,1,4,5],os:=[] } h (by kernel_rfl)
 refine at_loop (fun i:Nat=>(⟨[(0,aF (.int 3) x0),(1,aI (x1+((ctL (Sh.ct (.int 3)) (List.take i x0):Nat):Int))),(4,aI 0),(5,aI ((i:Nat):Int))],[]⟩:St)) (fun i=>(i≤List.length x0∧mkL (Sh.mk (.int 3)) (Sh.ct (.int 3)) x1 (x0.take i)=x0.take i)) (fun i=>List.length x0 - i) (0) h (st_congr2 (fun (d0:Int) (d1:Int)=>(⟨[(0,aF (.int 3) x0),(1,aI d0),(4,aI 0),(5,aI d1)],[]⟩:St)) (show (x1:Int)=(x1+((ctL (Sh.ct (.int 3)) (List.take (0) x0):Nat):Int)) from by first | with_reducible rfl | (simp [ctL]) | rfl) (show (0:Int)=(((0):Nat):Int) from by first | with_reducible rfl | (simp [ctL]) | rfl)) (by exact ⟨Nat.zero_le _,by simp [mkL]⟩) ?_
 intro i a w hok0 h
 refine wp_seq (wp_seq ?_)
 refine at_regq [] { ts:=[0,1,4,5,9],os:=[] } [] gamOK hT h (by kernel_rfl) trivial fun a w h=>then_normal ?_
 refine at_test (decide (((i:Nat):Int) < ((List.length x0:Nat):Int))) h (by kernel_rfl) (fun h1=>?_) (fun h1=>?_)
 ·replace h1 : ((i : Nat) : Int) < ((List.length x0 : Nat) : Int) := of_decide_eq_true h1
  have hat:=ctL_at_le (c:=Sh.ct (.int 3)) (xs:=x0) (z:=0) (i:=i) (by omega)
  have hsu:=ctL_take_succ (c:=Sh.ct (.int 3)) (xs:=x0) (z:=0) (i:=i) (by omega)
  have hci:Sh.ct (.int 3) (x0.getD i 0)=1:=rfl
  refine wp_skip (then_normal (wp_seq (wp_block (wp_seq (wp_seq ?_)))))
  refine at_regq [] { ts:=[0,1,4,5,17],os:=[] } [(0:Int)≤((i:Nat):Int)∧((i:Nat):Int) < ((List.length x0:Nat):Int)] gamOK hT h (by kernel_rfl) ⟨(by refine ⟨?_,?_⟩<;>(first | omega | (simp only [lsA];omega) | (simp<;>omega))),trivial⟩ fun a w h=>then_normal ?_
  refine at_test (!decide ((x0.getD i 0)=(x1+((ctL (Sh.ct (.int 3)) (List.take i x0):Nat):Int)))) h (by kernel_rfl) (fun h2=>?_) (fun h2=>?_)
  ·replace h2 : ¬ ((x0.getD i 0) = (x1 + ((ctL (Sh.ct (.int 3)) (List.take i x0) : Nat) : Int))) := of_decide_eq_false (notT h2)
   refine wp_seq ?_
   refine at_regq [] { ts:=[0,1,4,5],os:=[] } [] gamOK hT h (by kernel_rfl) trivial fun a w h=>then_normal (wp_ret (then_ret (in_ret (then_ret (then_ret (in_ret (then_ret ?_)))))))
   exact at_return ((-1),()) [] h (by kernel_rfl) trivial (congrArg (fun z=>(z,())) (show ((-1))=(heldD s22) x0 x1 from by refine (heldD_no (s:=s22) (fun e=>?_)).symm;have e2:(x1+((ctL (Sh.ct (.int 3)) (List.take i x0):Nat):Int))=(x0.getD i 0):=congrArg (fun (y:Int)=>y) (mkL_get (z:=0) (i:=i) e (by omega));omega))
  ·replace h2 : (x0.getD i 0) = (x1 + ((ctL (Sh.ct (.int 3)) (List.take i x0) : Nat) : Int)) := of_decide_eq_true (notF h2)
   refine wp_skip (then_normal ?_)
   refine at_regq [{},{ nw:=true }] { ts:=[0,1,4,5],os:=[] } [I64 ((x1+((ctL (Sh.ct (.int 3)) (List.take i x0):Nat):Int))+1)] gamOK hT h (by kernel_rfl) ⟨⟨by first | omega | (simp only [lsA];omega) | (simp<;>omega),by first | omega | (simp only [lsA];omega) | (simp<;>omega)⟩,trivial⟩ fun a w h=>in_normal (then_normal ?_)
   refine at_regq [{},{ nw:=true }] { ts:=[0,1,4,5],os:=[] } [I64 (((i:Nat):Int)+1)] gamOK hT h (by kernel_rfl) ⟨⟨by first | omega | (simp only [lsA];omega) | (simp<;>omega),by first | omega | (simp only [lsA];omega) | (simp<;>omega)⟩,trivial⟩ fun a w h=>?_
   replace h:=at_out (σ':=⟨[(0,aF (.int 3) x0),(1,aI ((x1+((ctL (Sh.ct (.int 3)) (List.take i x0):Nat):Int))+1)),(4,aI 0),(5,aI (((i:Nat):Int)+1))],[]⟩) { ts:=[0,1,4,5],os:=[] } h (by kernel_rfl)
   exact ⟨i+1,at_eq h (st_congr2 (fun (d0:Int) (d1:Int)=>(⟨[(0,aF (.int 3) x0),(1,aI d0),(4,aI 0),(5,aI d1)],[]⟩:St)) (show ((x1+((ctL (Sh.ct (.int 3)) (List.take i x0):Nat):Int))+1:Int)=(x1+((ctL (Sh.ct (.int 3)) (List.take (i+1) x0):Nat):Int)) from by first | with_reducible rfl | (omega) | rfl) (show (((i:Nat):Int)+1:Int)=(((i+1):Nat):Int) from by first | with_reducible rfl | (omega) | rfl)),(by exact ⟨by omega,mkL_step (z:=0) (by omega) hok0.2 (by show ((x1+((ctL (Sh.ct (.int 3)) (List.take i x0):Nat):Int)):Int)=(x0.getD i 0);omega)⟩),(by omega)⟩
 ·replace h1 : ¬ (((i : Nat) : Int) < ((List.length x0 : Nat) : Int)) := of_decide_eq_false h1
  refine wp_exit (then_exit (then_exit (in_hit (then_normal (wp_seq ?_)))))
  refine at_regq [] { ts:=[4],os:=[] } [] gamOK hT h (by kernel_rfl) trivial fun a w h=>then_normal (wp_ret ?_)
  exact at_return ((x1+((ctL (Sh.ct (.int 3)) (List.take i x0):Nat):Int)),()) [] h (by kernel_rfl) trivial (congrArg (fun z=>(z,())) (show ((x1+((ctL (Sh.ct (.int 3)) (List.take i x0):Nat):Int)))=(heldD s22) x0 x1 from by have e:=hok0.2;rw [take_all (by omega)] at e;rw [heldD_pos (s:=s22) e,hct0,take_all (by omega)]))

def S_laws_heldCodedPacketS:Sum:={ fid:=99,dom:=[s77,(.int 3)],cod:=[(.int 3)],dp:=true,fz:=false,pre:=fun x=>(pMk s77) x.1 x.2.1,g:=fun x=>(((heldD s77) x.1 x.2.1),()) }
def S_laws_heldCodedPacketS_tab:List (Nat×Sum):=[(40,S_laws_heldIntS)]
theorem S_laws_heldCodedPacketS_ok:FnOK Try.prog 99 S_laws_heldCodedPacketS:=by
 refine at_enter 40 (fun x=>⟨[(0,aF s50 x.1),(1,aI x.2.1)],[]⟩) Try.func99 rfl (by kernel_rfl) (fun x=>rfl) ?_
 rintro w0 Z0 ⟨x0,x1,u⟩ a w
 revert x0 x1
 intro (x0:(List T50)) (x1:Int) hpre hlens h
 replace hpre:(pMk s77) x0 x1:=hpre
 have hl1:List.length x0≤9223372036854775807:=hlens.1.1
 have hT:TabOK Try.prog S_laws_heldCodedPacketS_tab:=(.cons S_laws_heldIntS_ok .nil)
 have hp:0≤x1∧x1+((Sh.ct s77 x0:Nat):Int)≤4611686018427387904:=hpre
 have hct0:Sh.ct s77 x0=ctL (Sh.ct s50) x0:=rfl
 refine wp_seq ?_
 refine at_regq [] { ts:=[0,1,4],os:=[] } [] gamOK hT h (by kernel_rfl) trivial fun a w h=>then_normal (wp_seq (wp_seq ?_))
 refine at_regq [] { ts:=[0,1,4,5],os:=[] } [] gamOK hT h (by kernel_rfl) trivial fun a w h=>then_normal (wp_block ?_)
 replace h:=at_out (σ':=⟨[(0,aF s50 x0),(1,aI x1),(4,aI 0),(5,aI 0)],[]⟩) { ts:=[0,1,4,5],os:=[] } h (by kernel_rfl)
 refine at_loop (fun i:Nat=>(⟨[(0,aF s50 x0),(1,aI (x1+((ctL (Sh.ct s50) (List.take i x0):Nat):Int))),(4,aI 0),(5,aI ((i:Nat):Int))],[]⟩:St)) (fun i=>(i≤List.length x0∧mkL (Sh.mk s50) (Sh.ct s50) x1 (x0.take i)=x0.take i)) (fun i=>List.length x0 - i) (0) h (st_congr2 (fun (d0:Int) (d1:Int)=>(⟨[(0,aF s50 x0),(1,aI d0),(4,aI 0),(5,aI d1)],[]⟩:St)) (show (x1:Int)=(x1+((ctL (Sh.ct s50) (List.take (0) x0):Nat):Int)) from by first | with_reducible rfl | (simp [ctL]) | rfl) (show (0:Int)=(((0):Nat):Int) from by first | with_reducible rfl | (simp [ctL]) | rfl)) (by exact ⟨Nat.zero_le _,by simp [mkL]⟩) ?_
 intro i a w hok0 h
 refine wp_seq (wp_seq ?_)
 refine at_regq [] { ts:=[0,1,4,5,9],os:=[] } [] gamOK hT h (by kernel_rfl) trivial fun a w h=>then_normal ?_
 refine at_test (decide (((i:Nat):Int) < ((List.length x0:Nat):Int))) h (by kernel_rfl) (fun h1=>?_) (fun h1=>?_)
 ·replace h1 : ((i : Nat) : Int) < ((List.length x0 : Nat) : Int) := of_decide_eq_true h1
  have hat:=ctL_at_le (c:=Sh.ct s50) (xs:=x0) (z:=(0,([],[]))) (i:=i) (by omega)
  have hsu:=ctL_take_succ (c:=Sh.ct s50) (xs:=x0) (z:=(0,([],[]))) (i:=i) (by omega)
  have hci:Sh.ct s50 (x0.getD i (0,([],[])))=(1+((Sh.ct s22 (x0.getD i (0,([],[]))).2.1)+(Sh.ct s22 (x0.getD i (0,([],[]))).2.2))):=rfl
  refine wp_skip (then_normal (wp_seq (wp_block (wp_seq (wp_seq ?_)))))
  refine at_regq [] { ts:=[0,1,4,5,18],os:=[] } [(0:Int)≤((i:Nat):Int)∧((i:Nat):Int) < ((List.length x0:Nat):Int)] gamOK hT h (by kernel_rfl) ⟨(by refine ⟨?_,?_⟩<;>(first | omega | (simp only [lsA];omega) | (simp<;>omega))),trivial⟩ fun a w h=>then_normal ?_
  refine at_test (!decide ((x0.getD i (0,([],[]))).1=(x1+((ctL (Sh.ct s50) (List.take i x0):Nat):Int)))) h (by kernel_rfl) (fun h2=>?_) (fun h2=>?_)
  ·replace h2 : ¬ ((x0.getD i (0, ([], []))).1 = (x1 + ((ctL (Sh.ct s50) (List.take i x0) : Nat) : Int))) := of_decide_eq_false (notT h2)
   refine wp_seq ?_
   refine at_regq [] { ts:=[0,1,4,5],os:=[] } [] gamOK hT h (by kernel_rfl) trivial fun a w h=>then_normal (wp_ret (then_ret (in_ret (then_ret (then_ret (in_ret (then_ret ?_)))))))
   exact at_return ((-1),()) [] h (by kernel_rfl) trivial (congrArg (fun z=>(z,())) (show ((-1))=(heldD s77) x0 x1 from by refine (heldD_no (s:=s77) (fun e=>?_)).symm;have e2:(x1+((ctL (Sh.ct s50) (List.take i x0):Nat):Int))=(x0.getD i (0,([],[]))).1:=congrArg (fun (y:T50)=>y.1) (mkL_get (z:=(0,([],[]))) (i:=i) e (by omega));omega))
  ·replace h2 : (x0.getD i (0, ([], []))).1 = (x1 + ((ctL (Sh.ct s50) (List.take i x0) : Nat) : Int)) := of_decide_eq_true (notF h2)
   refine wp_skip (then_normal (wp_seq ?_))
   refine at_regq [{},{ nw:=true }] { ts:=[0,1,4,5],os:=[] } [I64 ((x1+((ctL (Sh.ct s50) (List.take i x0):Nat):Int))+1)] gamOK hT h (by kernel_rfl) ⟨⟨by first | omega | (simp only [lsA];omega) | (simp<;>omega),by first | omega | (simp only [lsA];omega) | (simp<;>omega)⟩,trivial⟩ fun a w h=>then_normal (wp_seq ?_)
   refine at_regq [] { ts:=[0,1,4,5],os:=[] } [(0:Int)≤((i:Nat):Int)∧((i:Nat):Int) < ((List.length x0:Nat):Int),(pMk s22) (x0.getD i (0,([],[]))).2.1 ((x1+((ctL (Sh.ct s50) (List.take i x0):Nat):Int))+1)] gamOK hT h (by kernel_rfl) ⟨(by refine ⟨?_,?_⟩<;>(first | omega | (simp only [lsA];omega) | (simp<;>omega))),(by (first | (show (0:Int)≤_∧_+((Sh.ct _ _:Nat):Int)≤(4611686018427387904:Int);constructor<;>omega) | (show (0:Int)≤_∧_+((Sh.ctT _ _:Nat):Int)≤(4611686018427387904:Int);constructor<;>omega))),trivial⟩ fun a w h=>then_normal (wp_seq (wp_seq ?_))
   refine at_regq [] { ts:=[0,1,4,5,29],os:=[] } [] gamOK hT h (by kernel_rfl) trivial fun a w h=>then_normal ?_
   refine at_test (decide (((heldD s22) (x0.getD i (0,([],[]))).2.1 ((x1+((ctL (Sh.ct s50) (List.take i x0):Nat):Int))+1)) < 0)) h (by kernel_rfl) (fun h3=>?_) (fun h3=>?_)
   ·replace h3 : ((heldD s22) (x0.getD i (0, ([], []))).2.1 ((x1 + ((ctL (Sh.ct s50) (List.take i x0) : Nat) : Int)) + 1)) < 0 := of_decide_eq_true h3
    have hvh3:=heldD_neg (by omega) h3
    refine wp_seq ?_
    refine at_regq [] { ts:=[0,1,4,5],os:=[] } [] gamOK hT h (by kernel_rfl) trivial fun a w h=>then_normal (wp_ret (then_ret (in_ret (then_ret (then_ret (in_ret (then_ret ?_)))))))
    exact at_return ((-1),()) [] h (by kernel_rfl) trivial (congrArg (fun z=>(z,())) (show ((-1))=(heldD s77) x0 x1 from by refine (heldD_no (s:=s77) (fun e=>?_)).symm;have e2:Sh.mk s22 (x0.getD i (0,([],[]))).2.1 ((x1+((ctL (Sh.ct s50) (List.take i x0):Nat):Int))+((1:Nat):Int))=(x0.getD i (0,([],[]))).2.1:=congrArg (fun (y:T50)=>y.2.1) (mkL_get (z:=(0,([],[]))) (i:=i) e (by omega));exact hvh3 ((congrArg (fun k=>Sh.mk s22 (x0.getD i (0,([],[]))).2.1 k) (show (_:Int)=(x1+((ctL (Sh.ct s50) (List.take i x0):Nat):Int))+((1:Nat):Int) from by first | rfl | omega)).trans e2)))
   ·replace h3 : ¬ (((heldD s22) (x0.getD i (0, ([], []))).2.1 ((x1 + ((ctL (Sh.ct s50) (List.take i x0) : Nat) : Int)) + 1)) < 0) := of_decide_eq_false h3
    have hvh3:=heldD_val h3
    refine wp_skip (then_normal (wp_seq ?_))
    refine at_regq [] { ts:=[0,1,4,5],os:=[] } [(0:Int)≤((i:Nat):Int)∧((i:Nat):Int) < ((List.length x0:Nat):Int),(pMk s22) (x0.getD i (0,([],[]))).2.2 ((heldD s22) (x0.getD i (0,([],[]))).2.1 ((x1+((ctL (Sh.ct s50) (List.take i x0):Nat):Int))+1))] gamOK hT h (by kernel_rfl) ⟨(by refine ⟨?_,?_⟩<;>(first | omega | (simp only [lsA];omega) | (simp<;>omega))),(by (first | (show (0:Int)≤_∧_+((Sh.ct _ _:Nat):Int)≤(4611686018427387904:Int);constructor<;>omega) | (show (0:Int)≤_∧_+((Sh.ctT _ _:Nat):Int)≤(4611686018427387904:Int);constructor<;>omega))),trivial⟩ fun a w h=>then_normal (wp_seq ?_)
    refine at_regq [] { ts:=[0,1,4,5,38],os:=[] } [] gamOK hT h (by kernel_rfl) trivial fun a w h=>then_normal ?_
    refine at_test (decide (((heldD s22) (x0.getD i (0,([],[]))).2.2 ((heldD s22) (x0.getD i (0,([],[]))).2.1 ((x1+((ctL (Sh.ct s50) (List.take i x0):Nat):Int))+1))) < 0)) h (by kernel_rfl) (fun h4=>?_) (fun h4=>?_)
    ·replace h4 : ((heldD s22) (x0.getD i (0, ([], []))).2.2 ((heldD s22) (x0.getD i (0, ([], []))).2.1 ((x1 + ((ctL (Sh.ct s50) (List.take i x0) : Nat) : Int)) + 1))) < 0 := of_decide_eq_true h4
     have hvh4:=heldD_neg (by omega) h4
     refine wp_seq ?_
     refine at_regq [] { ts:=[0,1,4,5],os:=[] } [] gamOK hT h (by kernel_rfl) trivial fun a w h=>then_normal (wp_ret (in_ret (then_ret (then_ret (in_ret (then_ret ?_))))))
     exact at_return ((-1),()) [] h (by kernel_rfl) trivial (congrArg (fun z=>(z,())) (show ((-1))=(heldD s77) x0 x1 from by refine (heldD_no (s:=s77) (fun e=>?_)).symm;have e2:Sh.mk s22 (x0.getD i (0,([],[]))).2.2 ((x1+((ctL (Sh.ct s50) (List.take i x0):Nat):Int))+((1:Nat):Int)+(((Sh.ct s22 (x0.getD i (0,([],[]))).2.1):Nat):Int))=(x0.getD i (0,([],[]))).2.2:=congrArg (fun (y:T50)=>y.2.2) (mkL_get (z:=(0,([],[]))) (i:=i) e (by omega));exact hvh4 ((congrArg (fun k=>Sh.mk s22 (x0.getD i (0,([],[]))).2.2 k) (show (_:Int)=(x1+((ctL (Sh.ct s50) (List.take i x0):Nat):Int))+((1:Nat):Int)+(((Sh.ct s22 (x0.getD i (0,([],[]))).2.1):Nat):Int) from by first | rfl | omega)).trans e2)))
    ·replace h4 : ¬ (((heldD s22) (x0.getD i (0, ([], []))).2.2 ((heldD s22) (x0.getD i (0, ([], []))).2.1 ((x1 + ((ctL (Sh.ct s50) (List.take i x0) : Nat) : Int)) + 1))) < 0) := of_decide_eq_false h4
     have hvh4:=heldD_val h4
     refine wp_skip (in_normal (then_normal ?_))
     refine at_regq [{},{ nw:=true }] { ts:=[0,1,4,5],os:=[] } [I64 (((i:Nat):Int)+1)] gamOK hT h (by kernel_rfl) ⟨⟨by first | omega | (simp only [lsA];omega) | (simp<;>omega),by first | omega | (simp only [lsA];omega) | (simp<;>omega)⟩,trivial⟩ fun a w h=>?_
     replace h:=at_out (σ':=⟨[(0,aF s50 x0),(1,aI ((heldD s22) (x0.getD i (0,([],[]))).2.2 ((heldD s22) (x0.getD i (0,([],[]))).2.1 ((x1+((ctL (Sh.ct s50) (List.take i x0):Nat):Int))+1)))),(4,aI 0),(5,aI (((i:Nat):Int)+1))],[]⟩) { ts:=[0,1,4,5],os:=[] } h (by kernel_rfl)
     exact ⟨i+1,at_eq h (st_congr2 (fun (d0:Int) (d1:Int)=>(⟨[(0,aF s50 x0),(1,aI d0),(4,aI 0),(5,aI d1)],[]⟩:St)) (show (((heldD s22) (x0.getD i (0,([],[]))).2.2 ((heldD s22) (x0.getD i (0,([],[]))).2.1 ((x1+((ctL (Sh.ct s50) (List.take i x0):Nat):Int))+1))):Int)=(x1+((ctL (Sh.ct s50) (List.take (i+1) x0):Nat):Int)) from by first | with_reducible rfl | (omega) | rfl) (show (((i:Nat):Int)+1:Int)=(((i+1):Nat):Int) from by first | with_reducible rfl | (omega) | rfl)),(by exact ⟨by omega,mkL_step (z:=(0,([],[]))) (by omega) hok0.2 (Prod.ext (by show ((x1+((ctL (Sh.ct s50) (List.take i x0):Nat):Int)):Int)=(x0.getD i (0,([],[]))).1;omega) (Prod.ext ((congrArg (fun k=>Sh.mk s22 (x0.getD i (0,([],[]))).2.1 k) (show ((x1+((ctL (Sh.ct s50) (List.take i x0):Nat):Int))+((1:Nat):Int):Int)=_ from by first | rfl | omega)).trans hvh3.1) ((congrArg (fun k=>Sh.mk s22 (x0.getD i (0,([],[]))).2.2 k) (show ((x1+((ctL (Sh.ct s50) (List.take i x0):Nat):Int))+((1:Nat):Int)+(((Sh.ct s22 (x0.getD i (0,([],[]))).2.1):Nat):Int):Int)=_ from by first | rfl | omega)).trans hvh4.1)))⟩),(by omega)⟩
 ·replace h1 : ¬ (((i : Nat) : Int) < ((List.length x0 : Nat) : Int)) := of_decide_eq_false h1
  refine wp_exit (then_exit (then_exit (in_hit (then_normal (wp_seq ?_)))))
  refine at_regq [] { ts:=[4],os:=[] } [] gamOK hT h (by kernel_rfl) trivial fun a w h=>then_normal (wp_ret ?_)
  exact at_return ((x1+((ctL (Sh.ct s50) (List.take i x0):Nat):Int)),()) [] h (by kernel_rfl) trivial (congrArg (fun z=>(z,())) (show ((x1+((ctL (Sh.ct s50) (List.take i x0):Nat):Int)))=(heldD s77) x0 x1 from by have e:=hok0.2;rw [take_all (by omega)] at e;rw [heldD_pos (s:=s77) e,hct0,take_all (by omega)]))

def S_laws_heldRecoderS:Sum:={ fid:=54,dom:=[s44,(.int 3)],cod:=[(.int 3)],dp:=true,fz:=false,pre:=fun x=>(pMk s44) x.1 x.2.1,g:=fun x=>(((heldD s44) x.1 x.2.1),()) }
def S_laws_heldRecoderS_tab:List (Nat×Sum):=[(99,S_laws_heldCodedPacketS)]
theorem S_laws_heldRecoderS_ok:FnOK Try.prog 54 S_laws_heldRecoderS:=by
 refine at_enter 58 (fun x=>⟨[(0,aF s79 x.1),(1,aI x.2.1)],[]⟩) Try.func54 rfl (by kernel_rfl) (fun x=>rfl) ?_
 rintro w0 Z0 ⟨x0,x1,u⟩ a w
 revert x0 x1
 intro (x0:(List T79)) (x1:Int) hpre hlens h
 replace hpre:(pMk s44) x0 x1:=hpre
 have hl1:List.length x0≤9223372036854775807:=hlens.1.1
 have hT:TabOK Try.prog S_laws_heldRecoderS_tab:=(.cons S_laws_heldCodedPacketS_ok .nil)
 have hp:0≤x1∧x1+((Sh.ct s44 x0:Nat):Int)≤4611686018427387904:=hpre
 have hct0:Sh.ct s44 x0=ctL (Sh.ct s79) x0:=rfl
 refine wp_seq ?_
 refine at_regq [] { ts:=[0,1,4],os:=[] } [] gamOK hT h (by kernel_rfl) trivial fun a w h=>then_normal (wp_seq (wp_seq ?_))
 refine at_regq [] { ts:=[0,1,4,5],os:=[] } [] gamOK hT h (by kernel_rfl) trivial fun a w h=>then_normal (wp_block ?_)
 replace h:=at_out (σ':=⟨[(0,aF s79 x0),(1,aI x1),(4,aI 0),(5,aI 0)],[]⟩) { ts:=[0,1,4,5],os:=[] } h (by kernel_rfl)
 refine at_loop (fun i:Nat=>(⟨[(0,aF s79 x0),(1,aI (x1+((ctL (Sh.ct s79) (List.take i x0):Nat):Int))),(4,aI 0),(5,aI ((i:Nat):Int))],[]⟩:St)) (fun i=>(i≤List.length x0∧mkL (Sh.mk s79) (Sh.ct s79) x1 (x0.take i)=x0.take i)) (fun i=>List.length x0 - i) (0) h (st_congr2 (fun (d0:Int) (d1:Int)=>(⟨[(0,aF s79 x0),(1,aI d0),(4,aI 0),(5,aI d1)],[]⟩:St)) (show (x1:Int)=(x1+((ctL (Sh.ct s79) (List.take (0) x0):Nat):Int)) from by first | with_reducible rfl | (simp [ctL]) | rfl) (show (0:Int)=(((0):Nat):Int) from by first | with_reducible rfl | (simp [ctL]) | rfl)) (by exact ⟨Nat.zero_le _,by simp [mkL]⟩) ?_
 intro i a w hok0 h
 refine wp_seq (wp_seq ?_)
 refine at_regq [] { ts:=[0,1,4,5,9],os:=[] } [] gamOK hT h (by kernel_rfl) trivial fun a w h=>then_normal ?_
 refine at_test (decide (((i:Nat):Int) < ((List.length x0:Nat):Int))) h (by kernel_rfl) (fun h1=>?_) (fun h1=>?_)
 ·replace h1 : ((i : Nat) : Int) < ((List.length x0 : Nat) : Int) := of_decide_eq_true h1
  have hat:=ctL_at_le (c:=Sh.ct s79) (xs:=x0) (z:=(0,(0,(0,([],0))))) (i:=i) (by omega)
  have hsu:=ctL_take_succ (c:=Sh.ct s79) (xs:=x0) (z:=(0,(0,(0,([],0))))) (i:=i) (by omega)
  have hci:Sh.ct s79 (x0.getD i (0,(0,(0,([],0)))))=(1+(1+(1+((Sh.ct s77 (x0.getD i (0,(0,(0,([],0))))).2.2.2.1)+1)))):=rfl
  refine wp_skip (then_normal (wp_seq (wp_block (wp_seq (wp_seq ?_)))))
  refine at_regq [] { ts:=[0,1,4,5,18],os:=[] } [(0:Int)≤((i:Nat):Int)∧((i:Nat):Int) < ((List.length x0:Nat):Int)] gamOK hT h (by kernel_rfl) ⟨(by refine ⟨?_,?_⟩<;>(first | omega | (simp only [lsA];omega) | (simp<;>omega))),trivial⟩ fun a w h=>then_normal ?_
  refine at_test (!decide ((x0.getD i (0,(0,(0,([],0))))).1=(x1+((ctL (Sh.ct s79) (List.take i x0):Nat):Int)))) h (by kernel_rfl) (fun h2=>?_) (fun h2=>?_)
  ·replace h2 : ¬ ((x0.getD i (0, (0, (0, ([], 0))))).1 = (x1 + ((ctL (Sh.ct s79) (List.take i x0) : Nat) : Int))) := of_decide_eq_false (notT h2)
   refine wp_seq ?_
   refine at_regq [] { ts:=[0,1,4,5],os:=[] } [] gamOK hT h (by kernel_rfl) trivial fun a w h=>then_normal (wp_ret (then_ret (in_ret (then_ret (then_ret (in_ret (then_ret ?_)))))))
   exact at_return ((-1),()) [] h (by kernel_rfl) trivial (congrArg (fun z=>(z,())) (show ((-1))=(heldD s44) x0 x1 from by refine (heldD_no (s:=s44) (fun e=>?_)).symm;have e2:(x1+((ctL (Sh.ct s79) (List.take i x0):Nat):Int))=(x0.getD i (0,(0,(0,([],0))))).1:=congrArg (fun (y:T79)=>y.1) (mkL_get (z:=(0,(0,(0,([],0))))) (i:=i) e (by omega));omega))
  ·replace h2 : (x0.getD i (0, (0, (0, ([], 0))))).1 = (x1 + ((ctL (Sh.ct s79) (List.take i x0) : Nat) : Int)) := of_decide_eq_true (notF h2)
   refine wp_skip (then_normal (wp_seq ?_))
   refine at_regq [{},{ nw:=true }] { ts:=[0,1,4,5],os:=[] } [I64 ((x1+((ctL (Sh.ct s79) (List.take i x0):Nat):Int))+1)] gamOK hT h (by kernel_rfl) ⟨⟨by first | omega | (simp only [lsA];omega) | (simp<;>omega),by first | omega | (simp only [lsA];omega) | (simp<;>omega)⟩,trivial⟩ fun a w h=>then_normal (wp_seq (wp_seq ?_))
   refine at_regq [] { ts:=[0,1,4,5,27],os:=[] } [(0:Int)≤((i:Nat):Int)∧((i:Nat):Int) < ((List.length x0:Nat):Int)] gamOK hT h (by kernel_rfl) ⟨(by refine ⟨?_,?_⟩<;>(first | omega | (simp only [lsA];omega) | (simp<;>omega))),trivial⟩ fun a w h=>then_normal ?_
   refine at_test (!decide ((x0.getD i (0,(0,(0,([],0))))).2.1=(x1+((ctL (Sh.ct s79) (List.take i x0):Nat):Int))+1)) h (by kernel_rfl) (fun h3=>?_) (fun h3=>?_)
   ·replace h3 : ¬ ((x0.getD i (0, (0, (0, ([], 0))))).2.1 = (x1 + ((ctL (Sh.ct s79) (List.take i x0) : Nat) : Int)) + 1) := of_decide_eq_false (notT h3)
    refine wp_seq ?_
    refine at_regq [] { ts:=[0,1,4,5],os:=[] } [] gamOK hT h (by kernel_rfl) trivial fun a w h=>then_normal (wp_ret (then_ret (in_ret (then_ret (then_ret (in_ret (then_ret ?_)))))))
    exact at_return ((-1),()) [] h (by kernel_rfl) trivial (congrArg (fun z=>(z,())) (show ((-1))=(heldD s44) x0 x1 from by refine (heldD_no (s:=s44) (fun e=>?_)).symm;have e2:(x1+((ctL (Sh.ct s79) (List.take i x0):Nat):Int))+((1:Nat):Int)=(x0.getD i (0,(0,(0,([],0))))).2.1:=congrArg (fun (y:T79)=>y.2.1) (mkL_get (z:=(0,(0,(0,([],0))))) (i:=i) e (by omega));omega))
   ·replace h3 : (x0.getD i (0, (0, (0, ([], 0))))).2.1 = (x1 + ((ctL (Sh.ct s79) (List.take i x0) : Nat) : Int)) + 1 := of_decide_eq_true (notF h3)
    refine wp_skip (then_normal (wp_seq ?_))
    refine at_regq [{},{ nw:=true }] { ts:=[0,1,4,5],os:=[] } [I64 (((x1+((ctL (Sh.ct s79) (List.take i x0):Nat):Int))+1)+1)] gamOK hT h (by kernel_rfl) ⟨⟨by first | omega | (simp only [lsA];omega) | (simp<;>omega),by first | omega | (simp only [lsA];omega) | (simp<;>omega)⟩,trivial⟩ fun a w h=>then_normal (wp_seq (wp_seq ?_))
    refine at_regq [] { ts:=[0,1,4,5,36],os:=[] } [(0:Int)≤((i:Nat):Int)∧((i:Nat):Int) < ((List.length x0:Nat):Int)] gamOK hT h (by kernel_rfl) ⟨(by refine ⟨?_,?_⟩<;>(first | omega | (simp only [lsA];omega) | (simp<;>omega))),trivial⟩ fun a w h=>then_normal ?_
    refine at_test (!decide ((x0.getD i (0,(0,(0,([],0))))).2.2.1=((x1+((ctL (Sh.ct s79) (List.take i x0):Nat):Int))+1)+1)) h (by kernel_rfl) (fun h4=>?_) (fun h4=>?_)
    ·replace h4 : ¬ ((x0.getD i (0, (0, (0, ([], 0))))).2.2.1 = ((x1 + ((ctL (Sh.ct s79) (List.take i x0) : Nat) : Int)) + 1) + 1) := of_decide_eq_false (notT h4)
     refine wp_seq ?_
     refine at_regq [] { ts:=[0,1,4,5],os:=[] } [] gamOK hT h (by kernel_rfl) trivial fun a w h=>then_normal (wp_ret (then_ret (in_ret (then_ret (then_ret (in_ret (then_ret ?_)))))))
     exact at_return ((-1),()) [] h (by kernel_rfl) trivial (congrArg (fun z=>(z,())) (show ((-1))=(heldD s44) x0 x1 from by refine (heldD_no (s:=s44) (fun e=>?_)).symm;have e2:(x1+((ctL (Sh.ct s79) (List.take i x0):Nat):Int))+((1:Nat):Int)+((1:Nat):Int)=(x0.getD i (0,(0,(0,([],0))))).2.2.1:=congrArg (fun (y:T79)=>y.2.2.1) (mkL_get (z:=(0,(0,(0,([],0))))) (i:=i) e (by omega));omega))
    ·replace h4 : (x0.getD i (0, (0, (0, ([], 0))))).2.2.1 = ((x1 + ((ctL (Sh.ct s79) (List.take i x0) : Nat) : Int)) + 1) + 1 := of_decide_eq_true (notF h4)
     refine wp_skip (then_normal (wp_seq ?_))
     refine at_regq [{},{ nw:=true }] { ts:=[0,1,4,5],os:=[] } [I64 ((((x1+((ctL (Sh.ct s79) (List.take i x0):Nat):Int))+1)+1)+1)] gamOK hT h (by kernel_rfl) ⟨⟨by first | omega | (simp only [lsA];omega) | (simp<;>omega),by first | omega | (simp only [lsA];omega) | (simp<;>omega)⟩,trivial⟩ fun a w h=>then_normal (wp_seq ?_)
     refine at_regq [] { ts:=[0,1,4,5],os:=[] } [(0:Int)≤((i:Nat):Int)∧((i:Nat):Int) < ((List.length x0:Nat):Int),(pMk s77) (x0.getD i (0,(0,(0,([],0))))).2.2.2.1 ((((x1+((ctL (Sh.ct s79) (List.take i x0):Nat):Int))+1)+1)+1)] gamOK hT h (by kernel_rfl) ⟨(by refine ⟨?_,?_⟩<;>(first | omega | (simp only [lsA];omega) | (simp<;>omega))),(by (first | (show (0:Int)≤_∧_+((Sh.ct _ _:Nat):Int)≤(4611686018427387904:Int);constructor<;>omega) | (show (0:Int)≤_∧_+((Sh.ctT _ _:Nat):Int)≤(4611686018427387904:Int);constructor<;>omega))),trivial⟩ fun a w h=>then_normal (wp_seq (wp_seq ?_))
     refine at_regq [] { ts:=[0,1,4,5,47],os:=[] } [] gamOK hT h (by kernel_rfl) trivial fun a w h=>then_normal ?_
     refine at_test (decide (((heldD s77) (x0.getD i (0,(0,(0,([],0))))).2.2.2.1 ((((x1+((ctL (Sh.ct s79) (List.take i x0):Nat):Int))+1)+1)+1)) < 0)) h (by kernel_rfl) (fun h5=>?_) (fun h5=>?_)
     ·replace h5 : ((heldD s77) (x0.getD i (0, (0, (0, ([], 0))))).2.2.2.1 ((((x1 + ((ctL (Sh.ct s79) (List.take i x0) : Nat) : Int)) + 1) + 1) + 1)) < 0 := of_decide_eq_true h5
      have hvh5:=heldD_neg (by omega) h5
      refine wp_seq ?_
      refine at_regq [] { ts:=[0,1,4,5],os:=[] } [] gamOK hT h (by kernel_rfl) trivial fun a w h=>then_normal (wp_ret (then_ret (in_ret (then_ret (then_ret (in_ret (then_ret ?_)))))))
      exact at_return ((-1),()) [] h (by kernel_rfl) trivial (congrArg (fun z=>(z,())) (show ((-1))=(heldD s44) x0 x1 from by refine (heldD_no (s:=s44) (fun e=>?_)).symm;have e2:Sh.mk s77 (x0.getD i (0,(0,(0,([],0))))).2.2.2.1 ((x1+((ctL (Sh.ct s79) (List.take i x0):Nat):Int))+((1:Nat):Int)+((1:Nat):Int)+((1:Nat):Int))=(x0.getD i (0,(0,(0,([],0))))).2.2.2.1:=congrArg (fun (y:T79)=>y.2.2.2.1) (mkL_get (z:=(0,(0,(0,([],0))))) (i:=i) e (by omega));exact hvh5 ((congrArg (fun k=>Sh.mk s77 (x0.getD i (0,(0,(0,([],0))))).2.2.2.1 k) (show (_:Int)=(x1+((ctL (Sh.ct s79) (List.take i x0):Nat):Int))+((1:Nat):Int)+((1:Nat):Int)+((1:Nat):Int) from by first | rfl | omega)).trans e2)))
     ·replace h5 : ¬ (((heldD s77) (x0.getD i (0, (0, (0, ([], 0))))).2.2.2.1 ((((x1 + ((ctL (Sh.ct s79) (List.take i x0) : Nat) : Int)) + 1) + 1) + 1)) < 0) := of_decide_eq_false h5
      have hvh5:=heldD_val h5
      refine wp_skip (then_normal (wp_seq (wp_seq ?_)))
      refine at_regq [] { ts:=[0,1,4,5,54],os:=[] } [(0:Int)≤((i:Nat):Int)∧((i:Nat):Int) < ((List.length x0:Nat):Int)] gamOK hT h (by kernel_rfl) ⟨(by refine ⟨?_,?_⟩<;>(first | omega | (simp only [lsA];omega) | (simp<;>omega))),trivial⟩ fun a w h=>then_normal ?_
      refine at_test (!decide ((x0.getD i (0,(0,(0,([],0))))).2.2.2.2=((heldD s77) (x0.getD i (0,(0,(0,([],0))))).2.2.2.1 ((((x1+((ctL (Sh.ct s79) (List.take i x0):Nat):Int))+1)+1)+1)))) h (by kernel_rfl) (fun h6=>?_) (fun h6=>?_)
      ·replace h6 : ¬ ((x0.getD i (0, (0, (0, ([], 0))))).2.2.2.2 = ((heldD s77) (x0.getD i (0, (0, (0, ([], 0))))).2.2.2.1 ((((x1 + ((ctL (Sh.ct s79) (List.take i x0) : Nat) : Int)) + 1) + 1) + 1))) := of_decide_eq_false (notT h6)
       refine wp_seq ?_
       refine at_regq [] { ts:=[0,1,4,5],os:=[] } [] gamOK hT h (by kernel_rfl) trivial fun a w h=>then_normal (wp_ret (then_ret (in_ret (then_ret (then_ret (in_ret (then_ret ?_)))))))
       exact at_return ((-1),()) [] h (by kernel_rfl) trivial (congrArg (fun z=>(z,())) (show ((-1))=(heldD s44) x0 x1 from by refine (heldD_no (s:=s44) (fun e=>?_)).symm;have e2:(x1+((ctL (Sh.ct s79) (List.take i x0):Nat):Int))+((1:Nat):Int)+((1:Nat):Int)+((1:Nat):Int)+(((Sh.ct s77 (x0.getD i (0,(0,(0,([],0))))).2.2.2.1):Nat):Int)=(x0.getD i (0,(0,(0,([],0))))).2.2.2.2:=congrArg (fun (y:T79)=>y.2.2.2.2) (mkL_get (z:=(0,(0,(0,([],0))))) (i:=i) e (by omega));omega))
      ·replace h6 : (x0.getD i (0, (0, (0, ([], 0))))).2.2.2.2 = ((heldD s77) (x0.getD i (0, (0, (0, ([], 0))))).2.2.2.1 ((((x1 + ((ctL (Sh.ct s79) (List.take i x0) : Nat) : Int)) + 1) + 1) + 1)) := of_decide_eq_true (notF h6)
       refine wp_skip (then_normal ?_)
       refine at_regq [{},{ nw:=true }] { ts:=[0,1,4,5],os:=[] } [I64 (((heldD s77) (x0.getD i (0,(0,(0,([],0))))).2.2.2.1 ((((x1+((ctL (Sh.ct s79) (List.take i x0):Nat):Int))+1)+1)+1))+1)] gamOK hT h (by kernel_rfl) ⟨⟨by first | omega | (simp only [lsA];omega) | (simp<;>omega),by first | omega | (simp only [lsA];omega) | (simp<;>omega)⟩,trivial⟩ fun a w h=>in_normal (then_normal ?_)
       refine at_regq [{},{ nw:=true }] { ts:=[0,1,4,5],os:=[] } [I64 (((i:Nat):Int)+1)] gamOK hT h (by kernel_rfl) ⟨⟨by first | omega | (simp only [lsA];omega) | (simp<;>omega),by first | omega | (simp only [lsA];omega) | (simp<;>omega)⟩,trivial⟩ fun a w h=>?_
       replace h:=at_out (σ':=⟨[(0,aF s79 x0),(1,aI (((heldD s77) (x0.getD i (0,(0,(0,([],0))))).2.2.2.1 ((((x1+((ctL (Sh.ct s79) (List.take i x0):Nat):Int))+1)+1)+1))+1)),(4,aI 0),(5,aI (((i:Nat):Int)+1))],[]⟩) { ts:=[0,1,4,5],os:=[] } h (by kernel_rfl)
       exact ⟨i+1,at_eq h (st_congr2 (fun (d0:Int) (d1:Int)=>(⟨[(0,aF s79 x0),(1,aI d0),(4,aI 0),(5,aI d1)],[]⟩:St)) (show (((heldD s77) (x0.getD i (0,(0,(0,([],0))))).2.2.2.1 ((((x1+((ctL (Sh.ct s79) (List.take i x0):Nat):Int))+1)+1)+1))+1:Int)=(x1+((ctL (Sh.ct s79) (List.take (i+1) x0):Nat):Int)) from by first | with_reducible rfl | (omega) | rfl) (show (((i:Nat):Int)+1:Int)=(((i+1):Nat):Int) from by first | with_reducible rfl | (omega) | rfl)),(by exact ⟨by omega,mkL_step (z:=(0,(0,(0,([],0))))) (by omega) hok0.2 (Prod.ext (by show ((x1+((ctL (Sh.ct s79) (List.take i x0):Nat):Int)):Int)=(x0.getD i (0,(0,(0,([],0))))).1;omega) (Prod.ext (by show ((x1+((ctL (Sh.ct s79) (List.take i x0):Nat):Int))+((1:Nat):Int):Int)=(x0.getD i (0,(0,(0,([],0))))).2.1;omega) (Prod.ext (by show ((x1+((ctL (Sh.ct s79) (List.take i x0):Nat):Int))+((1:Nat):Int)+((1:Nat):Int):Int)=(x0.getD i (0,(0,(0,([],0))))).2.2.1;omega) (Prod.ext ((congrArg (fun k=>Sh.mk s77 (x0.getD i (0,(0,(0,([],0))))).2.2.2.1 k) (show ((x1+((ctL (Sh.ct s79) (List.take i x0):Nat):Int))+((1:Nat):Int)+((1:Nat):Int)+((1:Nat):Int):Int)=_ from by first | rfl | omega)).trans hvh5.1) (by show ((x1+((ctL (Sh.ct s79) (List.take i x0):Nat):Int))+((1:Nat):Int)+((1:Nat):Int)+((1:Nat):Int)+(((Sh.ct s77 (x0.getD i (0,(0,(0,([],0))))).2.2.2.1):Nat):Int):Int)=(x0.getD i (0,(0,(0,([],0))))).2.2.2.2;omega)))))⟩),(by omega)⟩
 ·replace h1 : ¬ (((i : Nat) : Int) < ((List.length x0 : Nat) : Int)) := of_decide_eq_false h1
  refine wp_exit (then_exit (then_exit (in_hit (then_normal (wp_seq ?_)))))
  refine at_regq [] { ts:=[4],os:=[] } [] gamOK hT h (by kernel_rfl) trivial fun a w h=>then_normal (wp_ret ?_)
  exact at_return ((x1+((ctL (Sh.ct s79) (List.take i x0):Nat):Int)),()) [] h (by kernel_rfl) trivial (congrArg (fun z=>(z,())) (show ((x1+((ctL (Sh.ct s79) (List.take i x0):Nat):Int)))=(heldD s44) x0 x1 from by have e:=hok0.2;rw [take_all (by omega)] at e;rw [heldD_pos (s:=s44) e,hct0,take_all (by omega)]))

def S_laws_heldRelay:Sum:={ fid:=22,dom:=[s46,(.int 3)],cod:=[(.int 3)],dp:=true,fz:=false,pre:=fun x=>(pMkT s46) x.1 x.2.1,g:=fun x=>(((heldDT s46) x.1 x.2.1),()) }
def S_laws_heldRelay_tab:List (Nat×Sum):=[(54,S_laws_heldRecoderS)]
theorem S_laws_heldRelay_ok:FnOK Try.prog 22 S_laws_heldRelay:=by
 refine at_enter 12 (fun x=>⟨[(0,aG [cI x.1.1,.ro s79 x.1.2]),(1,aI x.2.1)],[]⟩) Try.func22 rfl (by kernel_rfl) (fun x=>rfl) ?_
 rintro w0 Z0 ⟨x0,x1,u⟩ a w
 revert x0 x1
 intro (x0:T46) (x1:Int) hpre hlens h
 replace hpre:(pMkT s46) x0 x1:=hpre
 have hl1:List.length x0.2≤9223372036854775807:=hlens.1.2.1
 have hT:TabOK Try.prog S_laws_heldRelay_tab:=(.cons S_laws_heldRecoderS_ok .nil)
 have hp:0≤x1∧x1+((Sh.ctT s46 x0:Nat):Int)≤4611686018427387904:=hpre
 have hct0:Sh.ctT s46 x0=(0+(Sh.ct s44 x0.2)):=rfl
 refine wp_seq ?_
 refine at_regq [{ ids:=[1] }] { ts:=[1,2,4],os:=[1] } [] gamOK hT h (by kernel_rfl) trivial fun a w h=>then_normal (wp_seq ?_)
 refine at_regq [] { ts:=[1,4],os:=[] } [(pMk s44) x0.2 x1] gamOK hT h (by kernel_rfl) ⟨(by (first | (show (0:Int)≤_∧_+((Sh.ct _ _:Nat):Int)≤(4611686018427387904:Int);constructor<;>omega) | (show (0:Int)≤_∧_+((Sh.ctT _ _:Nat):Int)≤(4611686018427387904:Int);constructor<;>omega))),trivial⟩ fun a w h=>then_normal (wp_seq (wp_seq ?_))
 refine at_regq [] { ts:=[1,4,10],os:=[] } [] gamOK hT h (by kernel_rfl) trivial fun a w h=>then_normal ?_
 refine at_test (decide (((heldD s44) x0.2 x1) < 0)) h (by kernel_rfl) (fun h1=>?_) (fun h1=>?_)
 ·replace h1 : ((heldD s44) x0.2 x1) < 0 := of_decide_eq_true h1
  have hvh1:=heldD_neg (by omega) h1
  refine wp_seq ?_
  refine at_regq [] { ts:=[1,4],os:=[] } [] gamOK hT h (by kernel_rfl) trivial fun a w h=>then_normal (wp_ret (then_ret ?_))
  exact at_return ((-1),()) [] h (by kernel_rfl) trivial (congrArg (fun z=>(z,())) (show ((-1))=(heldDT s46) x0 x1 from by refine (heldDT_no (s:=s46) (fun e=>?_)).symm;have e2:Sh.mk s44 x0.2 (x1+((0:Nat):Int))=x0.2:=(congrArg (fun (y:T46)=>y.2) e);exact hvh1 ((congrArg (fun k=>Sh.mk s44 x0.2 k) (show (_:Int)=x1+((0:Nat):Int) from by first | rfl | omega)).trans e2)))
 ·replace h1 : ¬ (((heldD s44) x0.2 x1) < 0) := of_decide_eq_false h1
  have hvh1:=heldD_val h1
  refine wp_skip (then_normal (wp_seq ?_))
  refine at_regq [] { ts:=[4],os:=[] } [] gamOK hT h (by kernel_rfl) trivial fun a w h=>then_normal (wp_ret ?_)
  exact at_return (((heldD s44) x0.2 x1),()) [] h (by kernel_rfl) trivial (congrArg (fun z=>(z,())) (show (((heldD s44) x0.2 x1))=(heldDT s46) x0 x1 from by rw [heldDT_pos (s:=s46) (show Sh.mkT s46 x0 x1=x0 from (Prod.ext rfl ((congrArg (fun k=>Sh.mk s44 x0.2 k) (show (x1+((0:Nat):Int):Int)=_ from by first | rfl | omega)).trans hvh1.1)))];omega))

def S_laws_markIntS:Sum:={ fid:=37,dom:=[s22,(.int 3)],cod:=[(.int 3)],dp:=true,fz:=false,pre:=fun x=>(pMk s22) x.1 x.2.1,g:=fun x=>(((mkK s22) x.1 x.2.1),()),kinds:=[.io,.rd],upd:=fun x=>((Sh.mk s22) x.1 x.2.1,(x.2.1,())) }
def S_laws_markIntS_tab:List (Nat×Sum):=[]
theorem S_laws_markIntS_ok:FnOK Try.prog 37 S_laws_markIntS:=by
 refine at_enterI 19 [1] [2] (fun us x=>⟨[(0,aS 1),(1,aI x.2.1)],[(1,oR (.int 3) x.1),(2,oP 1 (S_laws_markIntS.hd us 0))]⟩) Try.func37 rfl (by kernel_rfl) (fun us x=>rfl) ?_
 rintro w0 Z0 us ⟨x0,x1,u⟩ L a w
 revert x0 x1
 intro (x0:(List Int)) (x1:Int) hio hpre hlens h
 replace h:At w0 Z0 L 19 ⟨[(0,aS 1),(1,aI x1)],[(1,oR (.int 3) x0),(2,oP 1 (S_laws_markIntS.hd us 0))]⟩ a w:=h
 replace hpre:(pMk s22) x0 x1:=hpre
 have hl1:List.length x0≤9223372036854775807:=hlens.1.1
 have hT:TabOK Try.prog S_laws_markIntS_tab:=.nil
 have hp:0≤x1∧x1+((Sh.ct s22 x0:Nat):Int)≤4611686018427387904:=hpre
 have hct0:Sh.ct s22 x0=ctL (Sh.ct (.int 3)) x0:=rfl
 refine wp_seq ?_
 refine at_regq [] { ts:=[0,1,4],os:=[1,2] } [] gamOK hT h (by kernel_rfl) trivial fun a w h=>then_normal (wp_seq (wp_seq ?_))
 refine at_regq [] { ts:=[0,1,4,5],os:=[1,2] } [] gamOK hT h (by kernel_rfl) trivial fun a w h=>then_normal (wp_block ?_)
 replace h:=at_out (σ':=⟨[(0,aS 1),(1,aI x1),(4,aI 0),(5,aI 0)],[(1,oR (.int 3) x0),(2,oP 1 (S_laws_markIntS.hd us 0))]⟩) { ts:=[0,1,4,5],os:=[1,2] } h (by kernel_rfl)
 refine at_loop (fun i:Nat=>(⟨[(0,aS 1),(1,aI (x1+((ctL (Sh.ct (.int 3)) (List.take i x0):Nat):Int))),(4,aI 0),(5,aI ((i:Nat):Int))],[(1,oR (.int 3) (mkAt (Sh.mk (.int 3)) (Sh.ct (.int 3)) x1 x0 i)),(2,oP 1 (S_laws_markIntS.hd us 0))]⟩:St)) (fun i=>i≤List.length x0) (fun i=>List.length x0 - i) (0) h (st_congr3 (fun (d0:List Int) (d1:Int) (d2:Int)=>(⟨[(0,aS 1),(1,aI d1),(4,aI 0),(5,aI d2)],[(1,oR (.int 3) d0),(2,oP 1 (S_laws_markIntS.hd us 0))]⟩:St)) (show (x0:List Int)=(mkAt (Sh.mk (.int 3)) (Sh.ct (.int 3)) x1 x0 (0)) from by first | with_reducible rfl | (first | exact mkAt_zero.symm | simp [ctL]) | rfl) (show (x1:Int)=(x1+((ctL (Sh.ct (.int 3)) (List.take (0) x0):Nat):Int)) from by first | with_reducible rfl | (first | exact mkAt_zero.symm | simp [ctL]) | rfl) (show (0:Int)=(((0):Nat):Int) from by first | with_reducible rfl | (first | exact mkAt_zero.symm | simp [ctL]) | rfl)) (by omega) ?_
 intro i a w hok0 h
 refine wp_seq (wp_seq ?_)
 refine at_regq [] { ts:=[0,1,4,5,9],os:=[1,2] } [] gamOK hT h (by kernel_rfl) trivial fun a w h=>then_normal ?_
 refine at_test (decide (((i:Nat):Int) < ((List.length (mkAt (Sh.mk (.int 3)) (Sh.ct (.int 3)) x1 x0 i):Nat):Int))) h (by kernel_rfl) (fun h1=>?_) (fun h1=>?_)
 ·replace h1 : ((i : Nat) : Int) < ((List.length (mkAt (Sh.mk (.int 3)) (Sh.ct (.int 3)) x1 x0 i) : Nat) : Int) := of_decide_eq_true h1
  have hml:List.length (mkAt (Sh.mk (.int 3)) (Sh.ct (.int 3)) x1 x0 i)=List.length x0:=mkAt_len
  rw [hml] at h1
  have hat:=ctL_at_le (c:=Sh.ct (.int 3)) (xs:=x0) (z:=0) (i:=i) (by omega)
  have hsu:=ctL_take_succ (c:=Sh.ct (.int 3)) (xs:=x0) (z:=0) (i:=i) (by omega)
  have hci:Sh.ct (.int 3) (x0.getD i 0)=1:=rfl
  have hge:List.getD (mkAt (Sh.mk (.int 3)) (Sh.ct (.int 3)) x1 x0 i) i 0=(x0.getD i 0):=mkAt_get (by omega)
  refine wp_skip (then_normal (wp_seq (wp_block (wp_seq ?_))))
  refine at_regq [] { ts:=[0,1,4,5],os:=[1,2] } [(0:Int)≤((i:Nat):Int)∧((i:Nat):Int) < ((List.length (mkAt (Sh.mk (.int 3)) (Sh.ct (.int 3)) x1 x0 i):Nat):Int),i < List.length (mkAt (Sh.mk (.int 3)) (Sh.ct (.int 3)) x1 x0 i)] gamOK hT h (by kernel_rfl) ⟨(by refine ⟨?_,?_⟩<;>(first | omega | ((try simp only [hge,mkK]);omega) | (simp only [lsA,mkAt_len];omega) | (simp;done) | (simp;omega))),(by first | omega | ((try simp only [hge,mkK]);omega) | (simp only [lsA,mkAt_len];omega) | (simp;done) | (simp;omega)),trivial⟩ fun a w h=>then_normal ?_
  refine at_regq [{},{ nw:=true }] { ts:=[0,1,4,5],os:=[1,2] } [I64 ((x1+((ctL (Sh.ct (.int 3)) (List.take i x0):Nat):Int))+1)] gamOK hT h (by kernel_rfl) ⟨⟨by first | omega | ((try simp only [hge,mkK]);omega) | (simp only [lsA,mkAt_len];omega) | (simp;done) | (simp;omega),by first | omega | ((try simp only [hge,mkK]);omega) | (simp only [lsA,mkAt_len];omega) | (simp;done) | (simp;omega)⟩,trivial⟩ fun a w h=>in_normal (then_normal ?_)
  refine at_regq [{},{ nw:=true }] { ts:=[0,1,4,5],os:=[1,2] } [I64 (((i:Nat):Int)+1)] gamOK hT h (by kernel_rfl) ⟨⟨by first | omega | ((try simp only [hge,mkK]);omega) | (simp only [lsA,mkAt_len];omega) | (simp;done) | (simp;omega),by first | omega | ((try simp only [hge,mkK]);omega) | (simp only [lsA,mkAt_len];omega) | (simp;done) | (simp;omega)⟩,trivial⟩ fun a w h=>?_
  replace h:=at_out (σ':=⟨[(0,aS 1),(1,aI ((x1+((ctL (Sh.ct (.int 3)) (List.take i x0):Nat):Int))+1)),(4,aI 0),(5,aI (((i:Nat):Int)+1))],[(1,oR (.int 3) (List.set (mkAt (Sh.mk (.int 3)) (Sh.ct (.int 3)) x1 x0 i) i (x1+((ctL (Sh.ct (.int 3)) (List.take i x0):Nat):Int)))),(2,oP 1 (S_laws_markIntS.hd us 0))]⟩) { ts:=[0,1,4,5],os:=[1,2] } h (by kernel_rfl)
  skip
  exact ⟨i+1,at_eq h (st_congr3 (fun (d0:List Int) (d1:Int) (d2:Int)=>(⟨[(0,aS 1),(1,aI d1),(4,aI 0),(5,aI d2)],[(1,oR (.int 3) d0),(2,oP 1 (S_laws_markIntS.hd us 0))]⟩:St)) (show ((List.set (mkAt (Sh.mk (.int 3)) (Sh.ct (.int 3)) x1 x0 i) i (x1+((ctL (Sh.ct (.int 3)) (List.take i x0):Nat):Int))):List Int)=(mkAt (Sh.mk (.int 3)) (Sh.ct (.int 3)) x1 x0 (i+1)) from by first | with_reducible rfl | (refine mkAt_set' (z:=0) (by omega) ?_;first | (simp only [hge,mkK];done) | ((try simp only [hge,mkK]);show _=Sh.mk (.int 3) (x0.getD i 0) _;exact (by show (_:Int)=_;first | rfl | omega))) | rfl) (show ((x1+((ctL (Sh.ct (.int 3)) (List.take i x0):Nat):Int))+1:Int)=(x1+((ctL (Sh.ct (.int 3)) (List.take (i+1) x0):Nat):Int)) from by first | with_reducible rfl | (((try simp only [hge,mkK]);omega)) | rfl) (show (((i:Nat):Int)+1:Int)=(((i+1):Nat):Int) from by first | with_reducible rfl | (omega) | rfl)),(by first | omega | (refine ⟨?_,?_⟩<;>omega)),(by omega)⟩
 ·replace h1 : ¬ (((i : Nat) : Int) < ((List.length (mkAt (Sh.mk (.int 3)) (Sh.ct (.int 3)) x1 x0 i) : Nat) : Int)) := of_decide_eq_false h1
  have hml:List.length (mkAt (Sh.mk (.int 3)) (Sh.ct (.int 3)) x1 x0 i)=List.length x0:=mkAt_len
  rw [hml] at h1
  refine wp_exit (then_exit (then_exit (in_hit (then_normal (wp_seq ?_)))))
  refine at_regq [] { ts:=[4],os:=[1,2] } [] gamOK hT h (by kernel_rfl) trivial fun a w h=>then_normal (wp_ret ?_)
  exact at_returnI (S:=S_laws_markIntS) (x:=(x0,x1,())) [1] [2] ((mkAt (Sh.mk (.int 3)) (Sh.ct (.int 3)) x1 x0 i),(x1,())) (some ((x1+((ctL (Sh.ct (.int 3)) (List.take i x0):Nat):Int)),())) [S_laws_markIntS.hd us 0=S_laws_markIntS.hd us 0] hio h (by kernel_rfl) ⟨rfl,trivial⟩ (by first | rfl | exact congrArg (fun (z:(List Int))=>(z,(x1,()))) (show ((mkAt (Sh.mk (.int 3)) (Sh.ct (.int 3)) x1 x0 i):(List Int))=(Sh.mk s22) x0 x1 from by exact mkAt_all (by omega))) (fun z e=>(Option.some.inj e) ▸ (congrArg (fun z=>(z,())) (show ((x1+((ctL (Sh.ct (.int 3)) (List.take i x0):Nat):Int)))=(mkK s22) x0 x1 from by (unfold mkK;rw [take_all (by omega)];rfl))))

def S_laws_markCodedPacket:Sum:={ fid:=21,dom:=[s50,(.int 3)],cod:=[(.int 3)],dp:=true,fz:=false,pre:=fun x=>(pMkT s50) x.1 x.2.1,g:=fun x=>(((mkKT s50) x.1 x.2.1),()),kinds:=[.io,.rd],upd:=fun x=>((Sh.mkT s50) x.1 x.2.1,(x.2.1,())) }
def S_laws_markCodedPacket_tab:List (Nat×Sum):=[(37,S_laws_markIntS)]
theorem S_laws_markCodedPacket_ok:FnOK Try.prog 21 S_laws_markCodedPacket:=by
 refine at_enterI 14 [1,2] [3,4] (fun us x=>⟨[(0,aG [cI x.1.1,.sl 1,.sl 2]),(1,aI x.2.1)],[(1,oR (.int 3) x.1.2.1),(2,oR (.int 3) x.1.2.2),(3,oP 1 (S_laws_markCodedPacket.hd us 0)),(4,oP 2 (S_laws_markCodedPacket.hd us 1))]⟩) Try.func21 rfl (by kernel_rfl) (fun us x=>rfl) ?_
 rintro w0 Z0 us ⟨x0,x1,u⟩ L a w
 revert x0 x1
 intro (x0:T50) (x1:Int) hio hpre hlens h
 replace h:At w0 Z0 L 14 ⟨[(0,aG [cI x0.1,.sl 1,.sl 2]),(1,aI x1)],[(1,oR (.int 3) x0.2.1),(2,oR (.int 3) x0.2.2),(3,oP 1 (S_laws_markCodedPacket.hd us 0)),(4,oP 2 (S_laws_markCodedPacket.hd us 1))]⟩ a w:=h
 replace hpre:(pMkT s50) x0 x1:=hpre
 have hl1:List.length x0.2.1≤9223372036854775807:=hlens.1.2.1.1
 have hl2:List.length x0.2.2≤9223372036854775807:=hlens.1.2.2.1
 have hT:TabOK Try.prog S_laws_markCodedPacket_tab:=(.cons S_laws_markIntS_ok .nil)
 have hp:0≤x1∧x1+((Sh.ctT s50 x0:Nat):Int)≤4611686018427387904:=hpre
 have hct0:Sh.ctT s50 x0=(0+((Sh.ct s22 x0.2.1)+(Sh.ct s22 x0.2.2))):=rfl
 refine wp_seq ?_
 refine at_regq [{ ids:=[5] }] { ts:=[1,2,4],os:=[1,2,3,4,5] } [] gamOK hT h (by kernel_rfl) trivial fun a w h=>then_normal (wp_seq ?_)
 refine at_regq [] { ts:=[1,2,4],os:=[1,2,3,4,5] } [(pMk s22) x0.2.1 x1] gamOK hT h (by kernel_rfl) ⟨(by (first | (show (0:Int)≤_∧_+((Sh.ct _ _:Nat):Int)≤(4611686018427387904:Int);(try simp only [mkK,mkKT]);constructor<;>omega) | (show (0:Int)≤_∧_+((Sh.ctT _ _:Nat):Int)≤(4611686018427387904:Int);(try simp only [mkK,mkKT]);constructor<;>omega))),trivial⟩ fun a w h=>then_normal (wp_seq ?_)
 refine at_regq [] { ts:=[1,4],os:=[1,2,3,4] } [(pMk s22) x0.2.2 ((mkK s22) x0.2.1 x1)] gamOK hT h (by kernel_rfl) ⟨(by (first | (show (0:Int)≤_∧_+((Sh.ct _ _:Nat):Int)≤(4611686018427387904:Int);(try simp only [mkK,mkKT]);constructor<;>omega) | (show (0:Int)≤_∧_+((Sh.ctT _ _:Nat):Int)≤(4611686018427387904:Int);(try simp only [mkK,mkKT]);constructor<;>omega))),trivial⟩ fun a w h=>then_normal (wp_seq ?_)
 refine at_regq [] { ts:=[4],os:=[1,2,3,4] } [] gamOK hT h (by kernel_rfl) trivial fun a w h=>then_normal (wp_ret ?_)
 exact at_returnI (S:=S_laws_markCodedPacket) (x:=(x0,x1,())) [1,2] [3,4] ((x0.1,(((Sh.mk s22) x0.2.1 x1),((Sh.mk s22) x0.2.2 ((mkK s22) x0.2.1 x1)))),(x1,())) (some (((mkK s22) x0.2.2 ((mkK s22) x0.2.1 x1)),())) [S_laws_markCodedPacket.hd us 0=S_laws_markCodedPacket.hd us 0,S_laws_markCodedPacket.hd us 1=S_laws_markCodedPacket.hd us 1] hio h (by kernel_rfl) ⟨rfl,rfl,trivial⟩ (by first | rfl | exact congrArg (fun (z:T50)=>(z,(x1,()))) (show ((x0.1,(((Sh.mk s22) x0.2.1 x1),((Sh.mk s22) x0.2.2 ((mkK s22) x0.2.1 x1)))):T50)=(Sh.mkT s50) x0 x1 from by show _=Sh.mkT s50 x0 x1;exact (Prod.ext rfl (Prod.ext (congrArg (fun k=>Sh.mk s22 x0.2.1 k) (show (_:Int)=x1+((0:Nat):Int) from by first | rfl | ((try simp only [mkK,mkKT]);omega))) (congrArg (fun k=>Sh.mk s22 x0.2.2 k) (show (_:Int)=x1+((0:Nat):Int)+(((Sh.ct s22 x0.2.1):Nat):Int) from by first | rfl | ((try simp only [mkK,mkKT]);omega))))))) (fun z e=>(Option.some.inj e) ▸ (congrArg (fun z=>(z,())) (show (((mkK s22) x0.2.2 ((mkK s22) x0.2.1 x1)))=(mkKT s50) x0 x1 from by ((try simp only [mkK,mkKT]);omega))))

def S_laws_markCodedPacketS:Sum:={ fid:=98,dom:=[s77,(.int 3)],cod:=[(.int 3)],dp:=true,fz:=false,pre:=fun x=>(pMk s77) x.1 x.2.1,g:=fun x=>(((mkK s77) x.1 x.2.1),()),kinds:=[.io,.rd],upd:=fun x=>((Sh.mk s77) x.1 x.2.1,(x.2.1,())) }
def S_laws_markCodedPacketS_tab:List (Nat×Sum):=[(37,S_laws_markIntS)]
theorem S_laws_markCodedPacketS_ok:FnOK Try.prog 98 S_laws_markCodedPacketS:=by
 refine at_enterI 34 [1] [2] (fun us x=>⟨[(0,aS 1),(1,aI x.2.1)],[(1,oR s50 x.1),(2,oP 1 (S_laws_markCodedPacketS.hd us 0))]⟩) Try.func98 rfl (by kernel_rfl) (fun us x=>rfl) ?_
 rintro w0 Z0 us ⟨x0,x1,u⟩ L a w
 revert x0 x1
 intro (x0:(List T50)) (x1:Int) hio hpre hlens h
 replace h:At w0 Z0 L 34 ⟨[(0,aS 1),(1,aI x1)],[(1,oR s50 x0),(2,oP 1 (S_laws_markCodedPacketS.hd us 0))]⟩ a w:=h
 replace hpre:(pMk s77) x0 x1:=hpre
 have hl1:List.length x0≤9223372036854775807:=hlens.1.1
 have hT:TabOK Try.prog S_laws_markCodedPacketS_tab:=(.cons S_laws_markIntS_ok .nil)
 have hp:0≤x1∧x1+((Sh.ct s77 x0:Nat):Int)≤4611686018427387904:=hpre
 have hct0:Sh.ct s77 x0=ctL (Sh.ct s50) x0:=rfl
 refine wp_seq ?_
 refine at_regq [] { ts:=[0,1,4],os:=[1,2] } [] gamOK hT h (by kernel_rfl) trivial fun a w h=>then_normal (wp_seq (wp_seq ?_))
 refine at_regq [] { ts:=[0,1,4,5],os:=[1,2] } [] gamOK hT h (by kernel_rfl) trivial fun a w h=>then_normal (wp_block ?_)
 replace h:=at_out (σ':=⟨[(0,aS 1),(1,aI x1),(4,aI 0),(5,aI 0)],[(1,oR s50 x0),(2,oP 1 (S_laws_markCodedPacketS.hd us 0))]⟩) { ts:=[0,1,4,5],os:=[1,2] } h (by kernel_rfl)
 refine at_loop (fun i:Nat=>(⟨[(0,aS 1),(1,aI (x1+((ctL (Sh.ct s50) (List.take i x0):Nat):Int))),(4,aI 0),(5,aI ((i:Nat):Int))],[(1,oR s50 (mkAt (Sh.mk s50) (Sh.ct s50) x1 x0 i)),(2,oP 1 (S_laws_markCodedPacketS.hd us 0))]⟩:St)) (fun i=>i≤List.length x0) (fun i=>List.length x0 - i) (0) h (st_congr3 (fun (d0:List T50) (d1:Int) (d2:Int)=>(⟨[(0,aS 1),(1,aI d1),(4,aI 0),(5,aI d2)],[(1,oR s50 d0),(2,oP 1 (S_laws_markCodedPacketS.hd us 0))]⟩:St)) (show (x0:List T50)=(mkAt (Sh.mk s50) (Sh.ct s50) x1 x0 (0)) from by first | with_reducible rfl | (first | exact mkAt_zero.symm | simp [ctL]) | rfl) (show (x1:Int)=(x1+((ctL (Sh.ct s50) (List.take (0) x0):Nat):Int)) from by first | with_reducible rfl | (first | exact mkAt_zero.symm | simp [ctL]) | rfl) (show (0:Int)=(((0):Nat):Int) from by first | with_reducible rfl | (first | exact mkAt_zero.symm | simp [ctL]) | rfl)) (by omega) ?_
 intro i a w hok0 h
 refine wp_seq (wp_seq ?_)
 refine at_regq [] { ts:=[0,1,4,5,9],os:=[1,2] } [] gamOK hT h (by kernel_rfl) trivial fun a w h=>then_normal ?_
 refine at_test (decide (((i:Nat):Int) < ((List.length (mkAt (Sh.mk s50) (Sh.ct s50) x1 x0 i):Nat):Int))) h (by kernel_rfl) (fun h1=>?_) (fun h1=>?_)
 ·replace h1 : ((i : Nat) : Int) < ((List.length (mkAt (Sh.mk s50) (Sh.ct s50) x1 x0 i) : Nat) : Int) := of_decide_eq_true h1
  have hml:List.length (mkAt (Sh.mk s50) (Sh.ct s50) x1 x0 i)=List.length x0:=mkAt_len
  rw [hml] at h1
  have hat:=ctL_at_le (c:=Sh.ct s50) (xs:=x0) (z:=(0,([],[]))) (i:=i) (by omega)
  have hsu:=ctL_take_succ (c:=Sh.ct s50) (xs:=x0) (z:=(0,([],[]))) (i:=i) (by omega)
  have hci:Sh.ct s50 (x0.getD i (0,([],[])))=(1+((Sh.ct s22 (x0.getD i (0,([],[]))).2.1)+(Sh.ct s22 (x0.getD i (0,([],[]))).2.2))):=rfl
  have hge:List.getD (mkAt (Sh.mk s50) (Sh.ct s50) x1 x0 i) i (0,([],[]))=(x0.getD i (0,([],[]))):=mkAt_get (by omega)
  refine wp_skip (then_normal (wp_seq (wp_block (wp_seq ?_))))
  replace h:=at_open (σ':=⟨[(0,aS 1),(1,aI (x1+((ctL (Sh.ct s50) (List.take i x0):Nat):Int))),(4,aI 0),(5,aI ((i:Nat):Int)),(9,aB (decide (((i:Nat):Int) < ((List.length (mkAt (Sh.mk s50) (Sh.ct s50) x1 x0 i):Nat):Int))))],[(1,some (.op s50 (mkAt (Sh.mk s50) (Sh.ct s50) x1 x0 i) i [cI ((mkAt (Sh.mk s50) (Sh.ct s50) x1 x0 i).getD i (0,([],[]))).1,.sl 3,.sl 4])),(2,oP 1 (S_laws_markCodedPacketS.hd us 0)),(3,oR (.int 3) ((mkAt (Sh.mk s50) (Sh.ct s50) x1 x0 i).getD i (0,([],[]))).2.1),(4,oR (.int 3) ((mkAt (Sh.mk s50) (Sh.ct s50) x1 x0 i).getD i (0,([],[]))).2.2)]⟩) (ps:=[i < List.length (mkAt (Sh.mk s50) (Sh.ct s50) x1 x0 i)]) 1 i [3,4] { ts:=[0,1,4,5,9],os:=[1,2,3,4] } h (by kernel_rfl) ⟨(by first | omega | ((try simp only [hge,mkK]);omega) | (simp only [lsA,mkAt_len];omega) | (simp;done) | (simp;omega)),trivial⟩
  refine at_regq [] { ts:=[0,1,4,5],os:=[1,2,3,4] } [(0:Int)≤((i:Nat):Int)∧((i:Nat):Int) < ((List.length (mkAt (Sh.mk s50) (Sh.ct s50) x1 x0 i):Nat):Int),i=i] gamOK hT h (by kernel_rfl) ⟨(by refine ⟨?_,?_⟩<;>(first | omega | ((try simp only [hge,mkK]);omega) | (simp only [lsA,mkAt_len];omega) | (simp;done) | (simp;omega))),rfl,trivial⟩ fun a w h=>then_normal (wp_seq ?_)
  refine at_regq [{},{ nw:=true }] { ts:=[0,1,4,5],os:=[1,2,3,4] } [I64 ((x1+((ctL (Sh.ct s50) (List.take i x0):Nat):Int))+1)] gamOK hT h (by kernel_rfl) ⟨⟨by first | omega | ((try simp only [hge,mkK]);omega) | (simp only [lsA,mkAt_len];omega) | (simp;done) | (simp;omega),by first | omega | ((try simp only [hge,mkK]);omega) | (simp only [lsA,mkAt_len];omega) | (simp;done) | (simp;omega)⟩,trivial⟩ fun a w h=>then_normal (wp_seq ?_)
  refine at_regq [] { ts:=[0,1,4,5],os:=[1,2,3,4] } [(0:Int)≤((i:Nat):Int)∧((i:Nat):Int) < ((List.length (mkAt (Sh.mk s50) (Sh.ct s50) x1 x0 i):Nat):Int),i=i,(pMk s22) ((mkAt (Sh.mk s50) (Sh.ct s50) x1 x0 i).getD i (0,([],[]))).2.1 ((x1+((ctL (Sh.ct s50) (List.take i x0):Nat):Int))+1)] gamOK hT h (by kernel_rfl) ⟨(by refine ⟨?_,?_⟩<;>(first | omega | ((try simp only [hge,mkK]);omega) | (simp only [lsA,mkAt_len];omega) | (simp;done) | (simp;omega))),rfl,(by (show (0:Int)≤_∧_+((Sh.ct _ _:Nat):Int)≤(4611686018427387904:Int);(try simp only [hge,mkK]);constructor<;>omega)),trivial⟩ fun a w h=>then_normal ?_
  refine at_regq [] { ts:=[0,1,4,5],os:=[1,2,3,4] } [(0:Int)≤((i:Nat):Int)∧((i:Nat):Int) < ((List.length (mkAt (Sh.mk s50) (Sh.ct s50) x1 x0 i):Nat):Int),i=i,(pMk s22) ((mkAt (Sh.mk s50) (Sh.ct s50) x1 x0 i).getD i (0,([],[]))).2.2 ((mkK s22) ((mkAt (Sh.mk s50) (Sh.ct s50) x1 x0 i).getD i (0,([],[]))).2.1 ((x1+((ctL (Sh.ct s50) (List.take i x0):Nat):Int))+1))] gamOK hT h (by kernel_rfl) ⟨(by refine ⟨?_,?_⟩<;>(first | omega | ((try simp only [hge,mkK]);omega) | (simp only [lsA,mkAt_len];omega) | (simp;done) | (simp;omega))),rfl,(by (show (0:Int)≤_∧_+((Sh.ct _ _:Nat):Int)≤(4611686018427387904:Int);(try simp only [hge,mkK]);constructor<;>omega)),trivial⟩ fun a w h=>in_normal (then_normal ?_)
  refine at_regq [{},{ nw:=true }] { ts:=[0,1,4,5],os:=[1,2,3,4] } [I64 (((i:Nat):Int)+1)] gamOK hT h (by kernel_rfl) ⟨⟨by first | omega | ((try simp only [hge,mkK]);omega) | (simp only [lsA,mkAt_len];omega) | (simp;done) | (simp;omega),by first | omega | ((try simp only [hge,mkK]);omega) | (simp only [lsA,mkAt_len];omega) | (simp;done) | (simp;omega)⟩,trivial⟩ fun a w h=>?_
  replace h:=at_shut (σ':=⟨[(0,aS 1),(1,aI ((mkK s22) ((mkAt (Sh.mk s50) (Sh.ct s50) x1 x0 i).getD i (0,([],[]))).2.2 ((mkK s22) ((mkAt (Sh.mk s50) (Sh.ct s50) x1 x0 i).getD i (0,([],[]))).2.1 ((x1+((ctL (Sh.ct s50) (List.take i x0):Nat):Int))+1)))),(4,aI 0),(5,aI (((i:Nat):Int)+1))],[(1,oR s50 (List.set (mkAt (Sh.mk s50) (Sh.ct s50) x1 x0 i) i ((x1+((ctL (Sh.ct s50) (List.take i x0):Nat):Int)),(((Sh.mk s22) ((mkAt (Sh.mk s50) (Sh.ct s50) x1 x0 i).getD i (0,([],[]))).2.1 ((x1+((ctL (Sh.ct s50) (List.take i x0):Nat):Int))+1)),((Sh.mk s22) ((mkAt (Sh.mk s50) (Sh.ct s50) x1 x0 i).getD i (0,([],[]))).2.2 ((mkK s22) ((mkAt (Sh.mk s50) (Sh.ct s50) x1 x0 i).getD i (0,([],[]))).2.1 ((x1+((ctL (Sh.ct s50) (List.take i x0):Nat):Int))+1))))))),(2,oP 1 (S_laws_markCodedPacketS.hd us 0))]⟩) (ps:=[]) 1 { ts:=[0,1,4,5],os:=[1,2] } h (by kernel_rfl) trivial
  replace h:=at_out (σ':=⟨[(0,aS 1),(1,aI ((mkK s22) ((mkAt (Sh.mk s50) (Sh.ct s50) x1 x0 i).getD i (0,([],[]))).2.2 ((mkK s22) ((mkAt (Sh.mk s50) (Sh.ct s50) x1 x0 i).getD i (0,([],[]))).2.1 ((x1+((ctL (Sh.ct s50) (List.take i x0):Nat):Int))+1)))),(4,aI 0),(5,aI (((i:Nat):Int)+1))],[(1,oR s50 (List.set (mkAt (Sh.mk s50) (Sh.ct s50) x1 x0 i) i ((x1+((ctL (Sh.ct s50) (List.take i x0):Nat):Int)),(((Sh.mk s22) ((mkAt (Sh.mk s50) (Sh.ct s50) x1 x0 i).getD i (0,([],[]))).2.1 ((x1+((ctL (Sh.ct s50) (List.take i x0):Nat):Int))+1)),((Sh.mk s22) ((mkAt (Sh.mk s50) (Sh.ct s50) x1 x0 i).getD i (0,([],[]))).2.2 ((mkK s22) ((mkAt (Sh.mk s50) (Sh.ct s50) x1 x0 i).getD i (0,([],[]))).2.1 ((x1+((ctL (Sh.ct s50) (List.take i x0):Nat):Int))+1))))))),(2,oP 1 (S_laws_markCodedPacketS.hd us 0))]⟩) { ts:=[0,1,4,5],os:=[1,2] } h (by kernel_rfl)
  skip
  exact ⟨i+1,at_eq h (st_congr3 (fun (d0:List T50) (d1:Int) (d2:Int)=>(⟨[(0,aS 1),(1,aI d1),(4,aI 0),(5,aI d2)],[(1,oR s50 d0),(2,oP 1 (S_laws_markCodedPacketS.hd us 0))]⟩:St)) (show ((List.set (mkAt (Sh.mk s50) (Sh.ct s50) x1 x0 i) i ((x1+((ctL (Sh.ct s50) (List.take i x0):Nat):Int)),(((Sh.mk s22) ((mkAt (Sh.mk s50) (Sh.ct s50) x1 x0 i).getD i (0,([],[]))).2.1 ((x1+((ctL (Sh.ct s50) (List.take i x0):Nat):Int))+1)),((Sh.mk s22) ((mkAt (Sh.mk s50) (Sh.ct s50) x1 x0 i).getD i (0,([],[]))).2.2 ((mkK s22) ((mkAt (Sh.mk s50) (Sh.ct s50) x1 x0 i).getD i (0,([],[]))).2.1 ((x1+((ctL (Sh.ct s50) (List.take i x0):Nat):Int))+1)))))):List T50)=(mkAt (Sh.mk s50) (Sh.ct s50) x1 x0 (i+1)) from by first | with_reducible rfl | (refine mkAt_set' (z:=(0,([],[]))) (by omega) ?_;first | (simp only [hge,mkK];done) | ((try simp only [hge,mkK]);show _=Sh.mk s50 (x0.getD i (0,([],[]))) _;exact (Prod.ext (by show (_:Int)=_;first | rfl | omega) (Prod.ext (congrArg (fun k=>Sh.mk s22 (x0.getD i (0,([],[]))).2.1 k) (by first | rfl | omega)) (congrArg (fun k=>Sh.mk s22 (x0.getD i (0,([],[]))).2.2 k) (by first | rfl | omega)))))) | rfl) (show (((mkK s22) ((mkAt (Sh.mk s50) (Sh.ct s50) x1 x0 i).getD i (0,([],[]))).2.2 ((mkK s22) ((mkAt (Sh.mk s50) (Sh.ct s50) x1 x0 i).getD i (0,([],[]))).2.1 ((x1+((ctL (Sh.ct s50) (List.take i x0):Nat):Int))+1))):Int)=(x1+((ctL (Sh.ct s50) (List.take (i+1) x0):Nat):Int)) from by first | with_reducible rfl | (((try simp only [hge,mkK]);omega)) | rfl) (show (((i:Nat):Int)+1:Int)=(((i+1):Nat):Int) from by first | with_reducible rfl | (omega) | rfl)),(by first | omega | (refine ⟨?_,?_⟩<;>omega)),(by omega)⟩
 ·replace h1 : ¬ (((i : Nat) : Int) < ((List.length (mkAt (Sh.mk s50) (Sh.ct s50) x1 x0 i) : Nat) : Int)) := of_decide_eq_false h1
  have hml:List.length (mkAt (Sh.mk s50) (Sh.ct s50) x1 x0 i)=List.length x0:=mkAt_len
  rw [hml] at h1
  refine wp_exit (then_exit (then_exit (in_hit (then_normal (wp_seq ?_)))))
  refine at_regq [] { ts:=[4],os:=[1,2] } [] gamOK hT h (by kernel_rfl) trivial fun a w h=>then_normal (wp_ret ?_)
  exact at_returnI (S:=S_laws_markCodedPacketS) (x:=(x0,x1,())) [1] [2] ((mkAt (Sh.mk s50) (Sh.ct s50) x1 x0 i),(x1,())) (some ((x1+((ctL (Sh.ct s50) (List.take i x0):Nat):Int)),())) [S_laws_markCodedPacketS.hd us 0=S_laws_markCodedPacketS.hd us 0] hio h (by kernel_rfl) ⟨rfl,trivial⟩ (by first | rfl | exact congrArg (fun (z:(List T50))=>(z,(x1,()))) (show ((mkAt (Sh.mk s50) (Sh.ct s50) x1 x0 i):(List T50))=(Sh.mk s77) x0 x1 from by exact mkAt_all (by omega))) (fun z e=>(Option.some.inj e) ▸ (congrArg (fun z=>(z,())) (show ((x1+((ctL (Sh.ct s50) (List.take i x0):Nat):Int)))=(mkK s77) x0 x1 from by (unfold mkK;rw [take_all (by omega)];rfl))))

def S_laws_markRecoderS:Sum:={ fid:=53,dom:=[s44,(.int 3)],cod:=[(.int 3)],dp:=true,fz:=false,pre:=fun x=>(pMk s44) x.1 x.2.1,g:=fun x=>(((mkK s44) x.1 x.2.1),()),kinds:=[.io,.rd],upd:=fun x=>((Sh.mk s44) x.1 x.2.1,(x.2.1,())) }
def S_laws_markRecoderS_tab:List (Nat×Sum):=[(98,S_laws_markCodedPacketS)]
theorem S_laws_markRecoderS_ok:FnOK Try.prog 53 S_laws_markRecoderS:=by
 refine at_enterI 48 [1] [2] (fun us x=>⟨[(0,aS 1),(1,aI x.2.1)],[(1,oR s79 x.1),(2,oP 1 (S_laws_markRecoderS.hd us 0))]⟩) Try.func53 rfl (by kernel_rfl) (fun us x=>rfl) ?_
 rintro w0 Z0 us ⟨x0,x1,u⟩ L a w
 revert x0 x1
 intro (x0:(List T79)) (x1:Int) hio hpre hlens h
 replace h:At w0 Z0 L 48 ⟨[(0,aS 1),(1,aI x1)],[(1,oR s79 x0),(2,oP 1 (S_laws_markRecoderS.hd us 0))]⟩ a w:=h
 replace hpre:(pMk s44) x0 x1:=hpre
 have hl1:List.length x0≤9223372036854775807:=hlens.1.1
 have hT:TabOK Try.prog S_laws_markRecoderS_tab:=(.cons S_laws_markCodedPacketS_ok .nil)
 have hp:0≤x1∧x1+((Sh.ct s44 x0:Nat):Int)≤4611686018427387904:=hpre
 have hct0:Sh.ct s44 x0=ctL (Sh.ct s79) x0:=rfl
 refine wp_seq ?_
 refine at_regq [] { ts:=[0,1,4],os:=[1,2] } [] gamOK hT h (by kernel_rfl) trivial fun a w h=>then_normal (wp_seq (wp_seq ?_))
 refine at_regq [] { ts:=[0,1,4,5],os:=[1,2] } [] gamOK hT h (by kernel_rfl) trivial fun a w h=>then_normal (wp_block ?_)
 replace h:=at_out (σ':=⟨[(0,aS 1),(1,aI x1),(4,aI 0),(5,aI 0)],[(1,oR s79 x0),(2,oP 1 (S_laws_markRecoderS.hd us 0))]⟩) { ts:=[0,1,4,5],os:=[1,2] } h (by kernel_rfl)
 refine at_loop (fun i:Nat=>(⟨[(0,aS 1),(1,aI (x1+((ctL (Sh.ct s79) (List.take i x0):Nat):Int))),(4,aI 0),(5,aI ((i:Nat):Int))],[(1,oR s79 (mkAt (Sh.mk s79) (Sh.ct s79) x1 x0 i)),(2,oP 1 (S_laws_markRecoderS.hd us 0))]⟩:St)) (fun i=>i≤List.length x0) (fun i=>List.length x0 - i) (0) h (st_congr3 (fun (d0:List T79) (d1:Int) (d2:Int)=>(⟨[(0,aS 1),(1,aI d1),(4,aI 0),(5,aI d2)],[(1,oR s79 d0),(2,oP 1 (S_laws_markRecoderS.hd us 0))]⟩:St)) (show (x0:List T79)=(mkAt (Sh.mk s79) (Sh.ct s79) x1 x0 (0)) from by first | with_reducible rfl | (first | exact mkAt_zero.symm | simp [ctL]) | rfl) (show (x1:Int)=(x1+((ctL (Sh.ct s79) (List.take (0) x0):Nat):Int)) from by first | with_reducible rfl | (first | exact mkAt_zero.symm | simp [ctL]) | rfl) (show (0:Int)=(((0):Nat):Int) from by first | with_reducible rfl | (first | exact mkAt_zero.symm | simp [ctL]) | rfl)) (by omega) ?_
 intro i a w hok0 h
 refine wp_seq (wp_seq ?_)
 refine at_regq [] { ts:=[0,1,4,5,9],os:=[1,2] } [] gamOK hT h (by kernel_rfl) trivial fun a w h=>then_normal ?_
 refine at_test (decide (((i:Nat):Int) < ((List.length (mkAt (Sh.mk s79) (Sh.ct s79) x1 x0 i):Nat):Int))) h (by kernel_rfl) (fun h1=>?_) (fun h1=>?_)
 ·replace h1 : ((i : Nat) : Int) < ((List.length (mkAt (Sh.mk s79) (Sh.ct s79) x1 x0 i) : Nat) : Int) := of_decide_eq_true h1
  have hml:List.length (mkAt (Sh.mk s79) (Sh.ct s79) x1 x0 i)=List.length x0:=mkAt_len
  rw [hml] at h1
  have hat:=ctL_at_le (c:=Sh.ct s79) (xs:=x0) (z:=(0,(0,(0,([],0))))) (i:=i) (by omega)
  have hsu:=ctL_take_succ (c:=Sh.ct s79) (xs:=x0) (z:=(0,(0,(0,([],0))))) (i:=i) (by omega)
  have hci:Sh.ct s79 (x0.getD i (0,(0,(0,([],0)))))=(1+(1+(1+((Sh.ct s77 (x0.getD i (0,(0,(0,([],0))))).2.2.2.1)+1)))):=rfl
  have hge:List.getD (mkAt (Sh.mk s79) (Sh.ct s79) x1 x0 i) i (0,(0,(0,([],0))))=(x0.getD i (0,(0,(0,([],0))))):=mkAt_get (by omega)
  refine wp_skip (then_normal (wp_seq (wp_block (wp_seq ?_))))
  replace h:=at_open (σ':=⟨[(0,aS 1),(1,aI (x1+((ctL (Sh.ct s79) (List.take i x0):Nat):Int))),(4,aI 0),(5,aI ((i:Nat):Int)),(9,aB (decide (((i:Nat):Int) < ((List.length (mkAt (Sh.mk s79) (Sh.ct s79) x1 x0 i):Nat):Int))))],[(1,some (.op s79 (mkAt (Sh.mk s79) (Sh.ct s79) x1 x0 i) i [cI ((mkAt (Sh.mk s79) (Sh.ct s79) x1 x0 i).getD i (0,(0,(0,([],0))))).1,cI ((mkAt (Sh.mk s79) (Sh.ct s79) x1 x0 i).getD i (0,(0,(0,([],0))))).2.1,cI ((mkAt (Sh.mk s79) (Sh.ct s79) x1 x0 i).getD i (0,(0,(0,([],0))))).2.2.1,.sl 3,cI ((mkAt (Sh.mk s79) (Sh.ct s79) x1 x0 i).getD i (0,(0,(0,([],0))))).2.2.2.2])),(2,oP 1 (S_laws_markRecoderS.hd us 0)),(3,oR s50 ((mkAt (Sh.mk s79) (Sh.ct s79) x1 x0 i).getD i (0,(0,(0,([],0))))).2.2.2.1)]⟩) (ps:=[i < List.length (mkAt (Sh.mk s79) (Sh.ct s79) x1 x0 i)]) 1 i [3] { ts:=[0,1,4,5,9],os:=[1,2,3] } h (by kernel_rfl) ⟨(by first | omega | ((try simp only [hge,mkK]);omega) | (simp only [lsA,mkAt_len];omega) | (simp;done) | (simp;omega)),trivial⟩
  refine at_regq [] { ts:=[0,1,4,5],os:=[1,2,3] } [(0:Int)≤((i:Nat):Int)∧((i:Nat):Int) < ((List.length (mkAt (Sh.mk s79) (Sh.ct s79) x1 x0 i):Nat):Int),i=i] gamOK hT h (by kernel_rfl) ⟨(by refine ⟨?_,?_⟩<;>(first | omega | ((try simp only [hge,mkK]);omega) | (simp only [lsA,mkAt_len];omega) | (simp;done) | (simp;omega))),rfl,trivial⟩ fun a w h=>then_normal (wp_seq ?_)
  refine at_regq [{},{ nw:=true }] { ts:=[0,1,4,5],os:=[1,2,3] } [I64 ((x1+((ctL (Sh.ct s79) (List.take i x0):Nat):Int))+1)] gamOK hT h (by kernel_rfl) ⟨⟨by first | omega | ((try simp only [hge,mkK]);omega) | (simp only [lsA,mkAt_len];omega) | (simp;done) | (simp;omega),by first | omega | ((try simp only [hge,mkK]);omega) | (simp only [lsA,mkAt_len];omega) | (simp;done) | (simp;omega)⟩,trivial⟩ fun a w h=>then_normal (wp_seq ?_)
  refine at_regq [] { ts:=[0,1,4,5],os:=[1,2,3] } [(0:Int)≤((i:Nat):Int)∧((i:Nat):Int) < ((List.length (mkAt (Sh.mk s79) (Sh.ct s79) x1 x0 i):Nat):Int),i=i] gamOK hT h (by kernel_rfl) ⟨(by refine ⟨?_,?_⟩<;>(first | omega | ((try simp only [hge,mkK]);omega) | (simp only [lsA,mkAt_len];omega) | (simp;done) | (simp;omega))),rfl,trivial⟩ fun a w h=>then_normal (wp_seq ?_)
  refine at_regq [{},{ nw:=true }] { ts:=[0,1,4,5],os:=[1,2,3] } [I64 (((x1+((ctL (Sh.ct s79) (List.take i x0):Nat):Int))+1)+1)] gamOK hT h (by kernel_rfl) ⟨⟨by first | omega | ((try simp only [hge,mkK]);omega) | (simp only [lsA,mkAt_len];omega) | (simp;done) | (simp;omega),by first | omega | ((try simp only [hge,mkK]);omega) | (simp only [lsA,mkAt_len];omega) | (simp;done) | (simp;omega)⟩,trivial⟩ fun a w h=>then_normal (wp_seq ?_)
  refine at_regq [] { ts:=[0,1,4,5],os:=[1,2,3] } [(0:Int)≤((i:Nat):Int)∧((i:Nat):Int) < ((List.length (mkAt (Sh.mk s79) (Sh.ct s79) x1 x0 i):Nat):Int),i=i] gamOK hT h (by kernel_rfl) ⟨(by refine ⟨?_,?_⟩<;>(first | omega | ((try simp only [hge,mkK]);omega) | (simp only [lsA,mkAt_len];omega) | (simp;done) | (simp;omega))),rfl,trivial⟩ fun a w h=>then_normal (wp_seq ?_)
  refine at_regq [{},{ nw:=true }] { ts:=[0,1,4,5],os:=[1,2,3] } [I64 ((((x1+((ctL (Sh.ct s79) (List.take i x0):Nat):Int))+1)+1)+1)] gamOK hT h (by kernel_rfl) ⟨⟨by first | omega | ((try simp only [hge,mkK]);omega) | (simp only [lsA,mkAt_len];omega) | (simp;done) | (simp;omega),by first | omega | ((try simp only [hge,mkK]);omega) | (simp only [lsA,mkAt_len];omega) | (simp;done) | (simp;omega)⟩,trivial⟩ fun a w h=>then_normal (wp_seq ?_)
  refine at_regq [] { ts:=[0,1,4,5],os:=[1,2,3] } [(0:Int)≤((i:Nat):Int)∧((i:Nat):Int) < ((List.length (mkAt (Sh.mk s79) (Sh.ct s79) x1 x0 i):Nat):Int),i=i,(pMk s77) ((mkAt (Sh.mk s79) (Sh.ct s79) x1 x0 i).getD i (0,(0,(0,([],0))))).2.2.2.1 ((((x1+((ctL (Sh.ct s79) (List.take i x0):Nat):Int))+1)+1)+1)] gamOK hT h (by kernel_rfl) ⟨(by refine ⟨?_,?_⟩<;>(first | omega | ((try simp only [hge,mkK]);omega) | (simp only [lsA,mkAt_len];omega) | (simp;done) | (simp;omega))),rfl,(by (show (0:Int)≤_∧_+((Sh.ct _ _:Nat):Int)≤(4611686018427387904:Int);(try simp only [hge,mkK]);constructor<;>omega)),trivial⟩ fun a w h=>then_normal (wp_seq ?_)
  refine at_regq [] { ts:=[0,1,4,5],os:=[1,2,3] } [(0:Int)≤((i:Nat):Int)∧((i:Nat):Int) < ((List.length (mkAt (Sh.mk s79) (Sh.ct s79) x1 x0 i):Nat):Int),i=i] gamOK hT h (by kernel_rfl) ⟨(by refine ⟨?_,?_⟩<;>(first | omega | ((try simp only [hge,mkK]);omega) | (simp only [lsA,mkAt_len];omega) | (simp;done) | (simp;omega))),rfl,trivial⟩ fun a w h=>then_normal ?_
  refine at_regq [{},{ nw:=true }] { ts:=[0,1,4,5],os:=[1,2,3] } [I64 (((mkK s77) ((mkAt (Sh.mk s79) (Sh.ct s79) x1 x0 i).getD i (0,(0,(0,([],0))))).2.2.2.1 ((((x1+((ctL (Sh.ct s79) (List.take i x0):Nat):Int))+1)+1)+1))+1)] gamOK hT h (by kernel_rfl) ⟨⟨by first | omega | ((try simp only [hge,mkK]);omega) | (simp only [lsA,mkAt_len];omega) | (simp;done) | (simp;omega),by first | omega | ((try simp only [hge,mkK]);omega) | (simp only [lsA,mkAt_len];omega) | (simp;done) | (simp;omega)⟩,trivial⟩ fun a w h=>in_normal (then_normal ?_)
  refine at_regq [{},{ nw:=true }] { ts:=[0,1,4,5],os:=[1,2,3] } [I64 (((i:Nat):Int)+1)] gamOK hT h (by kernel_rfl) ⟨⟨by first | omega | ((try simp only [hge,mkK]);omega) | (simp only [lsA,mkAt_len];omega) | (simp;done) | (simp;omega),by first | omega | ((try simp only [hge,mkK]);omega) | (simp only [lsA,mkAt_len];omega) | (simp;done) | (simp;omega)⟩,trivial⟩ fun a w h=>?_
  replace h:=at_shut (σ':=⟨[(0,aS 1),(1,aI (((mkK s77) ((mkAt (Sh.mk s79) (Sh.ct s79) x1 x0 i).getD i (0,(0,(0,([],0))))).2.2.2.1 ((((x1+((ctL (Sh.ct s79) (List.take i x0):Nat):Int))+1)+1)+1))+1)),(4,aI 0),(5,aI (((i:Nat):Int)+1))],[(1,oR s79 (List.set (mkAt (Sh.mk s79) (Sh.ct s79) x1 x0 i) i ((x1+((ctL (Sh.ct s79) (List.take i x0):Nat):Int)),((x1+((ctL (Sh.ct s79) (List.take i x0):Nat):Int))+1,(((x1+((ctL (Sh.ct s79) (List.take i x0):Nat):Int))+1)+1,(((Sh.mk s77) ((mkAt (Sh.mk s79) (Sh.ct s79) x1 x0 i).getD i (0,(0,(0,([],0))))).2.2.2.1 ((((x1+((ctL (Sh.ct s79) (List.take i x0):Nat):Int))+1)+1)+1)),((mkK s77) ((mkAt (Sh.mk s79) (Sh.ct s79) x1 x0 i).getD i (0,(0,(0,([],0))))).2.2.2.1 ((((x1+((ctL (Sh.ct s79) (List.take i x0):Nat):Int))+1)+1)+1)))))))),(2,oP 1 (S_laws_markRecoderS.hd us 0))]⟩) (ps:=[]) 1 { ts:=[0,1,4,5],os:=[1,2] } h (by kernel_rfl) trivial
  replace h:=at_out (σ':=⟨[(0,aS 1),(1,aI (((mkK s77) ((mkAt (Sh.mk s79) (Sh.ct s79) x1 x0 i).getD i (0,(0,(0,([],0))))).2.2.2.1 ((((x1+((ctL (Sh.ct s79) (List.take i x0):Nat):Int))+1)+1)+1))+1)),(4,aI 0),(5,aI (((i:Nat):Int)+1))],[(1,oR s79 (List.set (mkAt (Sh.mk s79) (Sh.ct s79) x1 x0 i) i ((x1+((ctL (Sh.ct s79) (List.take i x0):Nat):Int)),((x1+((ctL (Sh.ct s79) (List.take i x0):Nat):Int))+1,(((x1+((ctL (Sh.ct s79) (List.take i x0):Nat):Int))+1)+1,(((Sh.mk s77) ((mkAt (Sh.mk s79) (Sh.ct s79) x1 x0 i).getD i (0,(0,(0,([],0))))).2.2.2.1 ((((x1+((ctL (Sh.ct s79) (List.take i x0):Nat):Int))+1)+1)+1)),((mkK s77) ((mkAt (Sh.mk s79) (Sh.ct s79) x1 x0 i).getD i (0,(0,(0,([],0))))).2.2.2.1 ((((x1+((ctL (Sh.ct s79) (List.take i x0):Nat):Int))+1)+1)+1)))))))),(2,oP 1 (S_laws_markRecoderS.hd us 0))]⟩) { ts:=[0,1,4,5],os:=[1,2] } h (by kernel_rfl)
  skip
  exact ⟨i+1,at_eq h (st_congr3 (fun (d0:List T79) (d1:Int) (d2:Int)=>(⟨[(0,aS 1),(1,aI d1),(4,aI 0),(5,aI d2)],[(1,oR s79 d0),(2,oP 1 (S_laws_markRecoderS.hd us 0))]⟩:St)) (show ((List.set (mkAt (Sh.mk s79) (Sh.ct s79) x1 x0 i) i ((x1+((ctL (Sh.ct s79) (List.take i x0):Nat):Int)),((x1+((ctL (Sh.ct s79) (List.take i x0):Nat):Int))+1,(((x1+((ctL (Sh.ct s79) (List.take i x0):Nat):Int))+1)+1,(((Sh.mk s77) ((mkAt (Sh.mk s79) (Sh.ct s79) x1 x0 i).getD i (0,(0,(0,([],0))))).2.2.2.1 ((((x1+((ctL (Sh.ct s79) (List.take i x0):Nat):Int))+1)+1)+1)),((mkK s77) ((mkAt (Sh.mk s79) (Sh.ct s79) x1 x0 i).getD i (0,(0,(0,([],0))))).2.2.2.1 ((((x1+((ctL (Sh.ct s79) (List.take i x0):Nat):Int))+1)+1)+1))))))):List T79)=(mkAt (Sh.mk s79) (Sh.ct s79) x1 x0 (i+1)) from by first | with_reducible rfl | (refine mkAt_set' (z:=(0,(0,(0,([],0))))) (by omega) ?_;first | (simp only [hge,mkK];done) | ((try simp only [hge,mkK]);show _=Sh.mk s79 (x0.getD i (0,(0,(0,([],0))))) _;exact (Prod.ext (by show (_:Int)=_;first | rfl | omega) (Prod.ext (by show (_:Int)=_;first | rfl | omega) (Prod.ext (by show (_:Int)=_;first | rfl | omega) (Prod.ext (congrArg (fun k=>Sh.mk s77 (x0.getD i (0,(0,(0,([],0))))).2.2.2.1 k) (by first | rfl | omega)) (by show (_:Int)=_;first | rfl | omega))))))) | rfl) (show (((mkK s77) ((mkAt (Sh.mk s79) (Sh.ct s79) x1 x0 i).getD i (0,(0,(0,([],0))))).2.2.2.1 ((((x1+((ctL (Sh.ct s79) (List.take i x0):Nat):Int))+1)+1)+1))+1:Int)=(x1+((ctL (Sh.ct s79) (List.take (i+1) x0):Nat):Int)) from by first | with_reducible rfl | (((try simp only [hge,mkK]);omega)) | rfl) (show (((i:Nat):Int)+1:Int)=(((i+1):Nat):Int) from by first | with_reducible rfl | (omega) | rfl)),(by first | omega | (refine ⟨?_,?_⟩<;>omega)),(by omega)⟩
 ·replace h1 : ¬ (((i : Nat) : Int) < ((List.length (mkAt (Sh.mk s79) (Sh.ct s79) x1 x0 i) : Nat) : Int)) := of_decide_eq_false h1
  have hml:List.length (mkAt (Sh.mk s79) (Sh.ct s79) x1 x0 i)=List.length x0:=mkAt_len
  rw [hml] at h1
  refine wp_exit (then_exit (then_exit (in_hit (then_normal (wp_seq ?_)))))
  refine at_regq [] { ts:=[4],os:=[1,2] } [] gamOK hT h (by kernel_rfl) trivial fun a w h=>then_normal (wp_ret ?_)
  exact at_returnI (S:=S_laws_markRecoderS) (x:=(x0,x1,())) [1] [2] ((mkAt (Sh.mk s79) (Sh.ct s79) x1 x0 i),(x1,())) (some ((x1+((ctL (Sh.ct s79) (List.take i x0):Nat):Int)),())) [S_laws_markRecoderS.hd us 0=S_laws_markRecoderS.hd us 0] hio h (by kernel_rfl) ⟨rfl,trivial⟩ (by first | rfl | exact congrArg (fun (z:(List T79))=>(z,(x1,()))) (show ((mkAt (Sh.mk s79) (Sh.ct s79) x1 x0 i):(List T79))=(Sh.mk s44) x0 x1 from by exact mkAt_all (by omega))) (fun z e=>(Option.some.inj e) ▸ (congrArg (fun z=>(z,())) (show ((x1+((ctL (Sh.ct s79) (List.take i x0):Nat):Int)))=(mkK s44) x0 x1 from by (unfold mkK;rw [take_all (by omega)];rfl))))

def S_laws_markRelay:Sum:={ fid:=20,dom:=[s46,(.int 3)],cod:=[(.int 3)],dp:=true,fz:=false,pre:=fun x=>(pMkT s46) x.1 x.2.1,g:=fun x=>(((mkKT s46) x.1 x.2.1),()),kinds:=[.io,.rd],upd:=fun x=>((Sh.mkT s46) x.1 x.2.1,(x.2.1,())) }
def S_laws_markRelay_tab:List (Nat×Sum):=[(53,S_laws_markRecoderS)]
theorem S_laws_markRelay_ok:FnOK Try.prog 20 S_laws_markRelay:=by
 refine at_enterI 10 [1] [2] (fun us x=>⟨[(0,aG [cI x.1.1,.sl 1]),(1,aI x.2.1)],[(1,oR s79 x.1.2),(2,oP 1 (S_laws_markRelay.hd us 0))]⟩) Try.func20 rfl (by kernel_rfl) (fun us x=>rfl) ?_
 rintro w0 Z0 us ⟨x0,x1,u⟩ L a w
 revert x0 x1
 intro (x0:T46) (x1:Int) hio hpre hlens h
 replace h:At w0 Z0 L 10 ⟨[(0,aG [cI x0.1,.sl 1]),(1,aI x1)],[(1,oR s79 x0.2),(2,oP 1 (S_laws_markRelay.hd us 0))]⟩ a w:=h
 replace hpre:(pMkT s46) x0 x1:=hpre
 have hl1:List.length x0.2≤9223372036854775807:=hlens.1.2.1
 have hT:TabOK Try.prog S_laws_markRelay_tab:=(.cons S_laws_markRecoderS_ok .nil)
 have hp:0≤x1∧x1+((Sh.ctT s46 x0:Nat):Int)≤4611686018427387904:=hpre
 have hct0:Sh.ctT s46 x0=(0+(Sh.ct s44 x0.2)):=rfl
 refine wp_seq ?_
 refine at_regq [{ ids:=[3] }] { ts:=[1,2,4],os:=[1,2,3] } [] gamOK hT h (by kernel_rfl) trivial fun a w h=>then_normal (wp_seq ?_)
 refine at_regq [] { ts:=[1,4],os:=[1,2] } [(pMk s44) x0.2 x1] gamOK hT h (by kernel_rfl) ⟨(by (first | (show (0:Int)≤_∧_+((Sh.ct _ _:Nat):Int)≤(4611686018427387904:Int);(try simp only [mkK,mkKT]);constructor<;>omega) | (show (0:Int)≤_∧_+((Sh.ctT _ _:Nat):Int)≤(4611686018427387904:Int);(try simp only [mkK,mkKT]);constructor<;>omega))),trivial⟩ fun a w h=>then_normal (wp_seq ?_)
 refine at_regq [] { ts:=[4],os:=[1,2] } [] gamOK hT h (by kernel_rfl) trivial fun a w h=>then_normal (wp_ret ?_)
 exact at_returnI (S:=S_laws_markRelay) (x:=(x0,x1,())) [1] [2] ((x0.1,((Sh.mk s44) x0.2 x1)),(x1,())) (some (((mkK s44) x0.2 x1),())) [S_laws_markRelay.hd us 0=S_laws_markRelay.hd us 0] hio h (by kernel_rfl) ⟨rfl,trivial⟩ (by first | rfl | exact congrArg (fun (z:T46)=>(z,(x1,()))) (show ((x0.1,((Sh.mk s44) x0.2 x1)):T46)=(Sh.mkT s46) x0 x1 from by show _=Sh.mkT s46 x0 x1;exact (Prod.ext rfl (congrArg (fun k=>Sh.mk s44 x0.2 k) (show (_:Int)=x1+((0:Nat):Int) from by first | rfl | ((try simp only [mkK,mkKT]);omega)))))) (fun z e=>(Option.some.inj e) ▸ (congrArg (fun z=>(z,())) (show (((mkK s44) x0.2 x1))=(mkKT s46) x0 x1 from by ((try simp only [mkK,mkKT]);omega))))

def S_laws_szIntS:Sum:={ fid:=23,dom:=[s22,(.int 3)],cod:=[(.int 3)],dp:=true,fz:=false,pre:=fun x=>(pSz s22) x.1 x.2.1,g:=fun x=>(((szD s22) x.1 x.2.1),()) }
def S_laws_szIntS_tab:List (Nat×Sum):=[]
theorem S_laws_szIntS_ok:FnOK Try.prog 23 S_laws_szIntS:=by
 refine at_enter 12 (fun x=>⟨[(0,aF (.int 3) x.1),(1,aI x.2.1)],[]⟩) Try.func23 rfl (by kernel_rfl) (fun x=>rfl) ?_
 rintro w0 Z0 ⟨x0,x1,u⟩ a w
 revert x0 x1
 intro (x0:(List Int)) (x1:Int) hpre hlens h
 replace hpre:(pSz s22) x0 x1:=hpre
 have hl1:List.length x0≤9223372036854775807:=hlens.1.1
 have hT:TabOK Try.prog S_laws_szIntS_tab:=.nil
 have hp:0≤x1∧x1≤9223372036854775807:=hpre
 refine wp_seq ?_
 refine at_regq [] { ts:=[0,1,4],os:=[] } [] gamOK hT h (by kernel_rfl) trivial fun a w h=>then_normal (wp_seq ?_)
 refine at_regq [{},{},{},{ nw:=true }] { ts:=[1,4],os:=[] } [I64 (x1 - ((List.length x0:Nat):Int))] gamOK hT h (by kernel_rfl) ⟨⟨by first | omega | (simp only [lsA];omega) | (simp<;>omega),by first | omega | (simp only [lsA];omega) | (simp<;>omega)⟩,trivial⟩ fun a w h=>then_normal (wp_seq (wp_seq ?_))
 refine at_regq [] { ts:=[1,4,10],os:=[] } [] gamOK hT h (by kernel_rfl) trivial fun a w h=>then_normal ?_
 refine at_test (decide (x1 - ((List.length x0:Nat):Int) < 0)) h (by kernel_rfl) (fun h1=>?_) (fun h1=>?_)
 ·replace h1 : x1 - ((List.length x0 : Nat) : Int) < 0 := of_decide_eq_true h1
  refine wp_seq ?_
  refine at_regq [] { ts:=[1,4],os:=[] } [] gamOK hT h (by kernel_rfl) trivial fun a w h=>then_normal (wp_ret (then_ret ?_))
  exact at_return ((-1),()) [] h (by kernel_rfl) trivial (congrArg (fun z=>(z,())) (show ((-1))=(szD s22) x0 x1 from by exact (szD_no (by rw [sz_flat (by rfl)];omega)).symm))
 ·replace h1 : ¬ (x1 - ((List.length x0 : Nat) : Int) < 0) := of_decide_eq_false h1
  refine wp_skip (then_normal (wp_seq ?_))
  refine at_regq [] { ts:=[4],os:=[] } [] gamOK hT h (by kernel_rfl) trivial fun a w h=>then_normal (wp_ret ?_)
  exact at_return (x1 - ((List.length x0:Nat):Int),()) [] h (by kernel_rfl) trivial (congrArg (fun z=>(z,())) (show (x1 - ((List.length x0:Nat):Int))=(szD s22) x0 x1 from by exact ((szD_ok (by rw [sz_flat (by rfl)];omega)).trans (by rw [sz_flat (by rfl)])).symm))

def S_laws_szCodedPacket:Sum:={ fid:=13,dom:=[s41,(.int 3)],cod:=[(.int 3)],dp:=true,fz:=false,pre:=fun x=>(pSz s41) x.1 x.2.1,g:=fun x=>(((szD s41) x.1 x.2.1),()) }
def S_laws_szCodedPacket_tab:List (Nat×Sum):=[(23,S_laws_szIntS)]
theorem S_laws_szCodedPacket_ok:FnOK Try.prog 13 S_laws_szCodedPacket:=by
 refine at_enter 18 (fun x=>⟨[(0,aG [cI x.1.1,.ro (.int 3) x.1.2.1,.ro (.int 3) x.1.2.2]),(1,aI x.2.1)],[]⟩) Try.func13 rfl (by kernel_rfl) (fun x=>rfl) ?_
 rintro w0 Z0 ⟨x0,x1,u⟩ a w
 revert x0 x1
 intro (x0:T41) (x1:Int) hpre hlens h
 replace hpre:(pSz s41) x0 x1:=hpre
 have hl1:List.length x0.2.1≤9223372036854775807:=hlens.1.2.1.1
 have hl2:List.length x0.2.2≤9223372036854775807:=hlens.1.2.2.1
 have hT:TabOK Try.prog S_laws_szCodedPacket_tab:=(.cons S_laws_szIntS_ok .nil)
 have hp:0≤x1∧x1≤9223372036854775807:=hpre
 have hsz:Sh.sz s41 x0=(0+((Sh.sz s22 x0.2.1)+(Sh.sz s22 x0.2.2))):=rfl
 refine wp_seq ?_
 refine at_regq [{ ids:=[1] }] { ts:=[1,2,4],os:=[1] } [] gamOK hT h (by kernel_rfl) trivial fun a w h=>then_normal (wp_seq ?_)
 refine at_regq [] { ts:=[1,2,4],os:=[1] } [(pSz s22) x0.2.1 x1] gamOK hT h (by kernel_rfl) ⟨(by (show (0:Int)≤_∧_≤(9223372036854775807:Int);constructor<;>omega)),trivial⟩ fun a w h=>then_normal (wp_seq (wp_seq ?_))
 refine at_regq [] { ts:=[1,2,4,10],os:=[1] } [] gamOK hT h (by kernel_rfl) trivial fun a w h=>then_normal ?_
 refine at_test (decide (((szD s22) x0.2.1 x1) < 0)) h (by kernel_rfl) (fun h1=>?_) (fun h1=>?_)
 ·replace h1 : ((szD s22) x0.2.1 x1) < 0 := of_decide_eq_true h1
  have hvh1:=szD_neg h1 (by omega)
  refine wp_seq ?_
  refine at_regq [] { ts:=[1,2,4],os:=[1] } [] gamOK hT h (by kernel_rfl) trivial fun a w h=>then_normal (wp_ret (then_ret ?_))
  exact at_return ((-1),()) [] h (by kernel_rfl) trivial (congrArg (fun z=>(z,())) (show ((-1))=(szD s41) x0 x1 from by (first | exact (szD_no (by omega)).symm | exact ((szD_ok (by omega)).trans (by omega)).symm)))
 ·replace h1 : ¬ (((szD s22) x0.2.1 x1) < 0) := of_decide_eq_false h1
  have hvh1:=szD_val h1 (by omega)
  refine wp_skip (then_normal (wp_seq ?_))
  refine at_regq [] { ts:=[1,4],os:=[] } [(pSz s22) x0.2.2 ((szD s22) x0.2.1 x1)] gamOK hT h (by kernel_rfl) ⟨(by (show (0:Int)≤_∧_≤(9223372036854775807:Int);constructor<;>omega)),trivial⟩ fun a w h=>then_normal (wp_seq (wp_seq ?_))
  refine at_regq [] { ts:=[1,4,16],os:=[] } [] gamOK hT h (by kernel_rfl) trivial fun a w h=>then_normal ?_
  refine at_test (decide (((szD s22) x0.2.2 ((szD s22) x0.2.1 x1)) < 0)) h (by kernel_rfl) (fun h2=>?_) (fun h2=>?_)
  ·replace h2 : ((szD s22) x0.2.2 ((szD s22) x0.2.1 x1)) < 0 := of_decide_eq_true h2
   have hvh2:=szD_neg h2 (by omega)
   refine wp_seq ?_
   refine at_regq [] { ts:=[1,4],os:=[] } [] gamOK hT h (by kernel_rfl) trivial fun a w h=>then_normal (wp_ret (then_ret ?_))
   exact at_return ((-1),()) [] h (by kernel_rfl) trivial (congrArg (fun z=>(z,())) (show ((-1))=(szD s41) x0 x1 from by (first | exact (szD_no (by omega)).symm | exact ((szD_ok (by omega)).trans (by omega)).symm)))
  ·replace h2 : ¬ (((szD s22) x0.2.2 ((szD s22) x0.2.1 x1)) < 0) := of_decide_eq_false h2
   have hvh2:=szD_val h2 (by omega)
   refine wp_skip (then_normal (wp_seq ?_))
   refine at_regq [] { ts:=[4],os:=[] } [] gamOK hT h (by kernel_rfl) trivial fun a w h=>then_normal (wp_ret ?_)
   exact at_return (((szD s22) x0.2.2 ((szD s22) x0.2.1 x1)),()) [] h (by kernel_rfl) trivial (congrArg (fun z=>(z,())) (show (((szD s22) x0.2.2 ((szD s22) x0.2.1 x1)))=(szD s41) x0 x1 from by (first | exact (szD_no (by omega)).symm | exact ((szD_ok (by omega)).trans (by omega)).symm)))

def S_laws_szCodedPacketS:Sum:={ fid:=124,dom:=[s120,(.int 3)],cod:=[(.int 3)],dp:=true,fz:=false,pre:=fun x=>(pSz s120) x.1 x.2.1,g:=fun x=>(((szD s120) x.1 x.2.1),()) }
def S_laws_szCodedPacketS_tab:List (Nat×Sum):=[(13,S_laws_szCodedPacket)]
theorem S_laws_szCodedPacketS_ok:FnOK Try.prog 124 S_laws_szCodedPacketS:=by
 refine at_enter 27 (fun x=>⟨[(0,aF s41 x.1),(1,aI x.2.1)],[]⟩) Try.func124 rfl (by kernel_rfl) (fun x=>rfl) ?_
 rintro w0 Z0 ⟨x0,x1,u⟩ a w
 revert x0 x1
 intro (x0:(List T41)) (x1:Int) hpre hlens h
 replace hpre:(pSz s120) x0 x1:=hpre
 have hl1:List.length x0≤9223372036854775807:=hlens.1.1
 have hT:TabOK Try.prog S_laws_szCodedPacketS_tab:=(.cons S_laws_szCodedPacket_ok .nil)
 have hp:0≤x1∧x1≤9223372036854775807:=hpre
 have hsz:Sh.sz s120 x0=List.length x0+ctL (Sh.sz s41) x0:=rfl
 refine wp_seq ?_
 refine at_regq [] { ts:=[0,1,4],os:=[] } [] gamOK hT h (by kernel_rfl) trivial fun a w h=>then_normal (wp_seq ?_)
 refine at_regq [{},{},{},{ nw:=true }] { ts:=[0,1,4],os:=[] } [I64 (x1 - ((List.length x0:Nat):Int))] gamOK hT h (by kernel_rfl) ⟨⟨by first | omega | (simp only [lsA];omega) | (simp<;>omega),by first | omega | (simp only [lsA];omega) | (simp<;>omega)⟩,trivial⟩ fun a w h=>then_normal (wp_seq (wp_seq ?_))
 refine at_regq [] { ts:=[0,1,4,11],os:=[] } [] gamOK hT h (by kernel_rfl) trivial fun a w h=>then_normal ?_
 refine at_test (decide (x1 - ((List.length x0:Nat):Int) < 0)) h (by kernel_rfl) (fun h1=>?_) (fun h1=>?_)
 ·replace h1 : x1 - ((List.length x0 : Nat) : Int) < 0 := of_decide_eq_true h1
  refine wp_seq ?_
  refine at_regq [] { ts:=[0,1,4],os:=[] } [] gamOK hT h (by kernel_rfl) trivial fun a w h=>then_normal (wp_ret (then_ret ?_))
  exact at_return ((-1),()) [] h (by kernel_rfl) trivial (congrArg (fun z=>(z,())) (show ((-1))=(szD s120) x0 x1 from by exact (szD_no (by omega)).symm))
 ·replace h1 : ¬ (x1 - ((List.length x0 : Nat) : Int) < 0) := of_decide_eq_false h1
  refine wp_skip (then_normal (wp_seq (wp_seq ?_)))
  refine at_regq [] { ts:=[0,1,4,5],os:=[] } [] gamOK hT h (by kernel_rfl) trivial fun a w h=>then_normal (wp_block ?_)
  replace h:=at_out (σ':=⟨[(0,aF s41 x0),(1,aI (x1 - ((List.length x0:Nat):Int))),(4,aI 0),(5,aI 0)],[]⟩) { ts:=[0,1,4,5],os:=[] } h (by kernel_rfl)
  refine at_loop (fun i:Nat=>(⟨[(0,aF s41 x0),(1,aI (x1 - ((List.length x0:Nat):Int) - ((ctL (Sh.sz s41) (List.take i x0):Nat):Int))),(4,aI 0),(5,aI ((i:Nat):Int))],[]⟩:St)) (fun i=>(i≤List.length x0∧((List.length x0:Nat):Int)+((ctL (Sh.sz s41) (List.take i x0):Nat):Int)≤x1)) (fun i=>List.length x0 - i) (0) h (st_congr2 (fun (d0:Int) (d1:Int)=>(⟨[(0,aF s41 x0),(1,aI d0),(4,aI 0),(5,aI d1)],[]⟩:St)) (show (x1 - ((List.length x0:Nat):Int):Int)=(x1 - ((List.length x0:Nat):Int) - ((ctL (Sh.sz s41) (List.take (0) x0):Nat):Int)) from by first | with_reducible rfl | (simp [ctL]) | rfl) (show (0:Int)=(((0):Nat):Int) from by first | with_reducible rfl | (simp [ctL]) | rfl)) (by simp [ctL];omega) ?_
  intro i a w hok0 h
  refine wp_seq (wp_seq ?_)
  refine at_regq [] { ts:=[0,1,4,5,15],os:=[] } [] gamOK hT h (by kernel_rfl) trivial fun a w h=>then_normal ?_
  refine at_test (decide (((i:Nat):Int) < ((List.length x0:Nat):Int))) h (by kernel_rfl) (fun h2=>?_) (fun h2=>?_)
  ·replace h2 : ((i : Nat) : Int) < ((List.length x0 : Nat) : Int) := of_decide_eq_true h2
   have hat:=ctL_at_le (c:=Sh.sz s41) (xs:=x0) (z:=(0,([],[]))) (i:=i) (by omega)
   have hsu:=ctL_take_succ (c:=Sh.sz s41) (xs:=x0) (z:=(0,([],[]))) (i:=i) (by omega)
   refine wp_skip (then_normal (wp_seq (wp_block (wp_seq ?_))))
   refine at_regq [] { ts:=[0,1,4,5],os:=[] } [(0:Int)≤((i:Nat):Int)∧((i:Nat):Int) < ((List.length x0:Nat):Int),(pSz s41) (x0.getD i (0,([],[]))) (x1 - ((List.length x0:Nat):Int) - ((ctL (Sh.sz s41) (List.take i x0):Nat):Int))] gamOK hT h (by kernel_rfl) ⟨(by refine ⟨?_,?_⟩<;>(first | omega | (simp only [lsA];omega) | (simp<;>omega))),(by (show (0:Int)≤_∧_≤(9223372036854775807:Int);constructor<;>omega)),trivial⟩ fun a w h=>then_normal (wp_seq ?_)
   refine at_regq [] { ts:=[0,1,4,5,25],os:=[] } [] gamOK hT h (by kernel_rfl) trivial fun a w h=>then_normal ?_
   refine at_test (decide (((szD s41) (x0.getD i (0,([],[]))) (x1 - ((List.length x0:Nat):Int) - ((ctL (Sh.sz s41) (List.take i x0):Nat):Int))) < 0)) h (by kernel_rfl) (fun h3=>?_) (fun h3=>?_)
   ·replace h3 : ((szD s41) (x0.getD i (0, ([], []))) (x1 - ((List.length x0 : Nat) : Int) - ((ctL (Sh.sz s41) (List.take i x0) : Nat) : Int))) < 0 := of_decide_eq_true h3
    have hvh3:=szD_neg h3 (by omega)
    refine wp_seq ?_
    refine at_regq [] { ts:=[0,1,4,5],os:=[] } [] gamOK hT h (by kernel_rfl) trivial fun a w h=>then_normal (wp_ret (in_ret (then_ret (then_ret (in_ret (then_ret ?_))))))
    exact at_return ((-1),()) [] h (by kernel_rfl) trivial (congrArg (fun z=>(z,())) (show ((-1))=(szD s120) x0 x1 from by exact (szD_no (by omega)).symm))
   ·replace h3 : ¬ (((szD s41) (x0.getD i (0, ([], []))) (x1 - ((List.length x0 : Nat) : Int) - ((ctL (Sh.sz s41) (List.take i x0) : Nat) : Int))) < 0) := of_decide_eq_false h3
    have hvh3:=szD_val h3 (by omega)
    refine wp_skip (in_normal (then_normal ?_))
    refine at_regq [{},{ nw:=true }] { ts:=[0,1,4,5],os:=[] } [I64 (((i:Nat):Int)+1)] gamOK hT h (by kernel_rfl) ⟨⟨by first | omega | (simp only [lsA];omega) | (simp<;>omega),by first | omega | (simp only [lsA];omega) | (simp<;>omega)⟩,trivial⟩ fun a w h=>?_
    replace h:=at_out (σ':=⟨[(0,aF s41 x0),(1,aI ((szD s41) (x0.getD i (0,([],[]))) (x1 - ((List.length x0:Nat):Int) - ((ctL (Sh.sz s41) (List.take i x0):Nat):Int)))),(4,aI 0),(5,aI (((i:Nat):Int)+1))],[]⟩) { ts:=[0,1,4,5],os:=[] } h (by kernel_rfl)
    exact ⟨i+1,at_eq h (st_congr2 (fun (d0:Int) (d1:Int)=>(⟨[(0,aF s41 x0),(1,aI d0),(4,aI 0),(5,aI d1)],[]⟩:St)) (show (((szD s41) (x0.getD i (0,([],[]))) (x1 - ((List.length x0:Nat):Int) - ((ctL (Sh.sz s41) (List.take i x0):Nat):Int))):Int)=(x1 - ((List.length x0:Nat):Int) - ((ctL (Sh.sz s41) (List.take (i+1) x0):Nat):Int)) from by first | with_reducible rfl | (omega) | rfl) (show (((i:Nat):Int)+1:Int)=(((i+1):Nat):Int) from by first | with_reducible rfl | (omega) | rfl)),(by constructor<;>omega),(by omega)⟩
  ·replace h2 : ¬ (((i : Nat) : Int) < ((List.length x0 : Nat) : Int)) := of_decide_eq_false h2
   refine wp_exit (then_exit (then_exit (in_hit (then_normal (wp_seq ?_)))))
   refine at_regq [] { ts:=[4],os:=[] } [] gamOK hT h (by kernel_rfl) trivial fun a w h=>then_normal (wp_ret ?_)
   exact at_return ((x1 - ((List.length x0:Nat):Int) - ((ctL (Sh.sz s41) (List.take i x0):Nat):Int)),()) [] h (by kernel_rfl) trivial (congrArg (fun z=>(z,())) (show ((x1 - ((List.length x0:Nat):Int) - ((ctL (Sh.sz s41) (List.take i x0):Nat):Int)))=(szD s120) x0 x1 from by (have hta:ctL (Sh.sz s41) (List.take i x0)=ctL (Sh.sz s41) x0:=congrArg (ctL (Sh.sz s41)) (take_all (by omega));exact ((szD_ok (by omega)).trans (by omega)).symm)))

def S_laws_szRecoder:Sum:={ fid:=84,dom:=[s122,(.int 3)],cod:=[(.int 3)],dp:=true,fz:=false,pre:=fun x=>(pSz s122) x.1 x.2.1,g:=fun x=>(((szD s122) x.1 x.2.1),()) }
def S_laws_szRecoder_tab:List (Nat×Sum):=[(124,S_laws_szCodedPacketS)]
theorem S_laws_szRecoder_ok:FnOK Try.prog 84 S_laws_szRecoder:=by
 refine at_enter 12 (fun x=>⟨[(0,aG [cI x.1.1,cI x.1.2.1,cI x.1.2.2.1,.ro s41 x.1.2.2.2.1,cI x.1.2.2.2.2]),(1,aI x.2.1)],[]⟩) Try.func84 rfl (by kernel_rfl) (fun x=>rfl) ?_
 rintro w0 Z0 ⟨x0,x1,u⟩ a w
 revert x0 x1
 intro (x0:T122) (x1:Int) hpre hlens h
 replace hpre:(pSz s122) x0 x1:=hpre
 have hl1:List.length x0.2.2.2.1≤9223372036854775807:=hlens.1.2.2.2.1.1
 have hT:TabOK Try.prog S_laws_szRecoder_tab:=(.cons S_laws_szCodedPacketS_ok .nil)
 have hp:0≤x1∧x1≤9223372036854775807:=hpre
 have hsz:Sh.sz s122 x0=(0+(0+(0+((Sh.sz s120 x0.2.2.2.1)+0)))):=rfl
 refine wp_seq ?_
 refine at_regq [{ ids:=[1] }] { ts:=[1,2,4],os:=[1] } [] gamOK hT h (by kernel_rfl) trivial fun a w h=>then_normal (wp_seq ?_)
 refine at_regq [] { ts:=[1,4],os:=[] } [(pSz s120) x0.2.2.2.1 x1] gamOK hT h (by kernel_rfl) ⟨(by (show (0:Int)≤_∧_≤(9223372036854775807:Int);constructor<;>omega)),trivial⟩ fun a w h=>then_normal (wp_seq (wp_seq ?_))
 refine at_regq [] { ts:=[1,4,10],os:=[] } [] gamOK hT h (by kernel_rfl) trivial fun a w h=>then_normal ?_
 refine at_test (decide (((szD s120) x0.2.2.2.1 x1) < 0)) h (by kernel_rfl) (fun h1=>?_) (fun h1=>?_)
 ·replace h1 : ((szD s120) x0.2.2.2.1 x1) < 0 := of_decide_eq_true h1
  have hvh1:=szD_neg h1 (by omega)
  refine wp_seq ?_
  refine at_regq [] { ts:=[1,4],os:=[] } [] gamOK hT h (by kernel_rfl) trivial fun a w h=>then_normal (wp_ret (then_ret ?_))
  exact at_return ((-1),()) [] h (by kernel_rfl) trivial (congrArg (fun z=>(z,())) (show ((-1))=(szD s122) x0 x1 from by (first | exact (szD_no (by omega)).symm | exact ((szD_ok (by omega)).trans (by omega)).symm)))
 ·replace h1 : ¬ (((szD s120) x0.2.2.2.1 x1) < 0) := of_decide_eq_false h1
  have hvh1:=szD_val h1 (by omega)
  refine wp_skip (then_normal (wp_seq ?_))
  refine at_regq [] { ts:=[4],os:=[] } [] gamOK hT h (by kernel_rfl) trivial fun a w h=>then_normal (wp_ret ?_)
  exact at_return (((szD s120) x0.2.2.2.1 x1),()) [] h (by kernel_rfl) trivial (congrArg (fun z=>(z,())) (show (((szD s120) x0.2.2.2.1 x1))=(szD s122) x0 x1 from by (first | exact (szD_no (by omega)).symm | exact ((szD_ok (by omega)).trans (by omega)).symm)))

def S_laws_szRecoderS:Sum:={ fid:=43,dom:=[s37,(.int 3)],cod:=[(.int 3)],dp:=true,fz:=false,pre:=fun x=>(pSz s37) x.1 x.2.1,g:=fun x=>(((szD s37) x.1 x.2.1),()) }
def S_laws_szRecoderS_tab:List (Nat×Sum):=[(84,S_laws_szRecoder)]
theorem S_laws_szRecoderS_ok:FnOK Try.prog 43 S_laws_szRecoderS:=by
 refine at_enter 27 (fun x=>⟨[(0,aF s122 x.1),(1,aI x.2.1)],[]⟩) Try.func43 rfl (by kernel_rfl) (fun x=>rfl) ?_
 rintro w0 Z0 ⟨x0,x1,u⟩ a w
 revert x0 x1
 intro (x0:(List T122)) (x1:Int) hpre hlens h
 replace hpre:(pSz s37) x0 x1:=hpre
 have hl1:List.length x0≤9223372036854775807:=hlens.1.1
 have hT:TabOK Try.prog S_laws_szRecoderS_tab:=(.cons S_laws_szRecoder_ok .nil)
 have hp:0≤x1∧x1≤9223372036854775807:=hpre
 have hsz:Sh.sz s37 x0=List.length x0+ctL (Sh.sz s122) x0:=rfl
 refine wp_seq ?_
 refine at_regq [] { ts:=[0,1,4],os:=[] } [] gamOK hT h (by kernel_rfl) trivial fun a w h=>then_normal (wp_seq ?_)
 refine at_regq [{},{},{},{ nw:=true }] { ts:=[0,1,4],os:=[] } [I64 (x1 - ((List.length x0:Nat):Int))] gamOK hT h (by kernel_rfl) ⟨⟨by first | omega | (simp only [lsA];omega) | (simp<;>omega),by first | omega | (simp only [lsA];omega) | (simp<;>omega)⟩,trivial⟩ fun a w h=>then_normal (wp_seq (wp_seq ?_))
 refine at_regq [] { ts:=[0,1,4,11],os:=[] } [] gamOK hT h (by kernel_rfl) trivial fun a w h=>then_normal ?_
 refine at_test (decide (x1 - ((List.length x0:Nat):Int) < 0)) h (by kernel_rfl) (fun h1=>?_) (fun h1=>?_)
 ·replace h1 : x1 - ((List.length x0 : Nat) : Int) < 0 := of_decide_eq_true h1
  refine wp_seq ?_
  refine at_regq [] { ts:=[0,1,4],os:=[] } [] gamOK hT h (by kernel_rfl) trivial fun a w h=>then_normal (wp_ret (then_ret ?_))
  exact at_return ((-1),()) [] h (by kernel_rfl) trivial (congrArg (fun z=>(z,())) (show ((-1))=(szD s37) x0 x1 from by exact (szD_no (by omega)).symm))
 ·replace h1 : ¬ (x1 - ((List.length x0 : Nat) : Int) < 0) := of_decide_eq_false h1
  refine wp_skip (then_normal (wp_seq (wp_seq ?_)))
  refine at_regq [] { ts:=[0,1,4,5],os:=[] } [] gamOK hT h (by kernel_rfl) trivial fun a w h=>then_normal (wp_block ?_)
  replace h:=at_out (σ':=⟨[(0,aF s122 x0),(1,aI (x1 - ((List.length x0:Nat):Int))),(4,aI 0),(5,aI 0)],[]⟩) { ts:=[0,1,4,5],os:=[] } h (by kernel_rfl)
  refine at_loop (fun i:Nat=>(⟨[(0,aF s122 x0),(1,aI (x1 - ((List.length x0:Nat):Int) - ((ctL (Sh.sz s122) (List.take i x0):Nat):Int))),(4,aI 0),(5,aI ((i:Nat):Int))],[]⟩:St)) (fun i=>(i≤List.length x0∧((List.length x0:Nat):Int)+((ctL (Sh.sz s122) (List.take i x0):Nat):Int)≤x1)) (fun i=>List.length x0 - i) (0) h (st_congr2 (fun (d0:Int) (d1:Int)=>(⟨[(0,aF s122 x0),(1,aI d0),(4,aI 0),(5,aI d1)],[]⟩:St)) (show (x1 - ((List.length x0:Nat):Int):Int)=(x1 - ((List.length x0:Nat):Int) - ((ctL (Sh.sz s122) (List.take (0) x0):Nat):Int)) from by first | with_reducible rfl | (simp [ctL]) | rfl) (show (0:Int)=(((0):Nat):Int) from by first | with_reducible rfl | (simp [ctL]) | rfl)) (by simp [ctL];omega) ?_
  intro i a w hok0 h
  refine wp_seq (wp_seq ?_)
  refine at_regq [] { ts:=[0,1,4,5,15],os:=[] } [] gamOK hT h (by kernel_rfl) trivial fun a w h=>then_normal ?_
  refine at_test (decide (((i:Nat):Int) < ((List.length x0:Nat):Int))) h (by kernel_rfl) (fun h2=>?_) (fun h2=>?_)
  ·replace h2 : ((i : Nat) : Int) < ((List.length x0 : Nat) : Int) := of_decide_eq_true h2
   have hat:=ctL_at_le (c:=Sh.sz s122) (xs:=x0) (z:=(0,(0,(0,([],0))))) (i:=i) (by omega)
   have hsu:=ctL_take_succ (c:=Sh.sz s122) (xs:=x0) (z:=(0,(0,(0,([],0))))) (i:=i) (by omega)
   refine wp_skip (then_normal (wp_seq (wp_block (wp_seq ?_))))
   refine at_regq [] { ts:=[0,1,4,5],os:=[] } [(0:Int)≤((i:Nat):Int)∧((i:Nat):Int) < ((List.length x0:Nat):Int),(pSz s122) (x0.getD i (0,(0,(0,([],0))))) (x1 - ((List.length x0:Nat):Int) - ((ctL (Sh.sz s122) (List.take i x0):Nat):Int))] gamOK hT h (by kernel_rfl) ⟨(by refine ⟨?_,?_⟩<;>(first | omega | (simp only [lsA];omega) | (simp<;>omega))),(by (show (0:Int)≤_∧_≤(9223372036854775807:Int);constructor<;>omega)),trivial⟩ fun a w h=>then_normal (wp_seq ?_)
   refine at_regq [] { ts:=[0,1,4,5,25],os:=[] } [] gamOK hT h (by kernel_rfl) trivial fun a w h=>then_normal ?_
   refine at_test (decide (((szD s122) (x0.getD i (0,(0,(0,([],0))))) (x1 - ((List.length x0:Nat):Int) - ((ctL (Sh.sz s122) (List.take i x0):Nat):Int))) < 0)) h (by kernel_rfl) (fun h3=>?_) (fun h3=>?_)
   ·replace h3 : ((szD s122) (x0.getD i (0, (0, (0, ([], 0))))) (x1 - ((List.length x0 : Nat) : Int) - ((ctL (Sh.sz s122) (List.take i x0) : Nat) : Int))) < 0 := of_decide_eq_true h3
    have hvh3:=szD_neg h3 (by omega)
    refine wp_seq ?_
    refine at_regq [] { ts:=[0,1,4,5],os:=[] } [] gamOK hT h (by kernel_rfl) trivial fun a w h=>then_normal (wp_ret (in_ret (then_ret (then_ret (in_ret (then_ret ?_))))))
    exact at_return ((-1),()) [] h (by kernel_rfl) trivial (congrArg (fun z=>(z,())) (show ((-1))=(szD s37) x0 x1 from by exact (szD_no (by omega)).symm))
   ·replace h3 : ¬ (((szD s122) (x0.getD i (0, (0, (0, ([], 0))))) (x1 - ((List.length x0 : Nat) : Int) - ((ctL (Sh.sz s122) (List.take i x0) : Nat) : Int))) < 0) := of_decide_eq_false h3
    have hvh3:=szD_val h3 (by omega)
    refine wp_skip (in_normal (then_normal ?_))
    refine at_regq [{},{ nw:=true }] { ts:=[0,1,4,5],os:=[] } [I64 (((i:Nat):Int)+1)] gamOK hT h (by kernel_rfl) ⟨⟨by first | omega | (simp only [lsA];omega) | (simp<;>omega),by first | omega | (simp only [lsA];omega) | (simp<;>omega)⟩,trivial⟩ fun a w h=>?_
    replace h:=at_out (σ':=⟨[(0,aF s122 x0),(1,aI ((szD s122) (x0.getD i (0,(0,(0,([],0))))) (x1 - ((List.length x0:Nat):Int) - ((ctL (Sh.sz s122) (List.take i x0):Nat):Int)))),(4,aI 0),(5,aI (((i:Nat):Int)+1))],[]⟩) { ts:=[0,1,4,5],os:=[] } h (by kernel_rfl)
    exact ⟨i+1,at_eq h (st_congr2 (fun (d0:Int) (d1:Int)=>(⟨[(0,aF s122 x0),(1,aI d0),(4,aI 0),(5,aI d1)],[]⟩:St)) (show (((szD s122) (x0.getD i (0,(0,(0,([],0))))) (x1 - ((List.length x0:Nat):Int) - ((ctL (Sh.sz s122) (List.take i x0):Nat):Int))):Int)=(x1 - ((List.length x0:Nat):Int) - ((ctL (Sh.sz s122) (List.take (i+1) x0):Nat):Int)) from by first | with_reducible rfl | (omega) | rfl) (show (((i:Nat):Int)+1:Int)=(((i+1):Nat):Int) from by first | with_reducible rfl | (omega) | rfl)),(by constructor<;>omega),(by omega)⟩
  ·replace h2 : ¬ (((i : Nat) : Int) < ((List.length x0 : Nat) : Int)) := of_decide_eq_false h2
   refine wp_exit (then_exit (then_exit (in_hit (then_normal (wp_seq ?_)))))
   refine at_regq [] { ts:=[4],os:=[] } [] gamOK hT h (by kernel_rfl) trivial fun a w h=>then_normal (wp_ret ?_)
   exact at_return ((x1 - ((List.length x0:Nat):Int) - ((ctL (Sh.sz s122) (List.take i x0):Nat):Int)),()) [] h (by kernel_rfl) trivial (congrArg (fun z=>(z,())) (show ((x1 - ((List.length x0:Nat):Int) - ((ctL (Sh.sz s122) (List.take i x0):Nat):Int)))=(szD s37) x0 x1 from by (have hta:ctL (Sh.sz s122) (List.take i x0)=ctL (Sh.sz s122) x0:=congrArg (ctL (Sh.sz s122)) (take_all (by omega));exact ((szD_ok (by omega)).trans (by omega)).symm)))

def S_laws_szRelay:Sum:={ fid:=12,dom:=[s39,(.int 3)],cod:=[(.int 3)],dp:=true,fz:=false,pre:=fun x=>(pSz s39) x.1 x.2.1,g:=fun x=>(((szD s39) x.1 x.2.1),()) }
def S_laws_szRelay_tab:List (Nat×Sum):=[(43,S_laws_szRecoderS)]
theorem S_laws_szRelay_ok:FnOK Try.prog 12 S_laws_szRelay:=by
 refine at_enter 12 (fun x=>⟨[(0,aG [cI x.1.1,.ro s122 x.1.2]),(1,aI x.2.1)],[]⟩) Try.func12 rfl (by kernel_rfl) (fun x=>rfl) ?_
 rintro w0 Z0 ⟨x0,x1,u⟩ a w
 revert x0 x1
 intro (x0:T39) (x1:Int) hpre hlens h
 replace hpre:(pSz s39) x0 x1:=hpre
 have hl1:List.length x0.2≤9223372036854775807:=hlens.1.2.1
 have hT:TabOK Try.prog S_laws_szRelay_tab:=(.cons S_laws_szRecoderS_ok .nil)
 have hp:0≤x1∧x1≤9223372036854775807:=hpre
 have hsz:Sh.sz s39 x0=(0+(Sh.sz s37 x0.2)):=rfl
 refine wp_seq ?_
 refine at_regq [{ ids:=[1] }] { ts:=[1,2,4],os:=[1] } [] gamOK hT h (by kernel_rfl) trivial fun a w h=>then_normal (wp_seq ?_)
 refine at_regq [] { ts:=[1,4],os:=[] } [(pSz s37) x0.2 x1] gamOK hT h (by kernel_rfl) ⟨(by (show (0:Int)≤_∧_≤(9223372036854775807:Int);constructor<;>omega)),trivial⟩ fun a w h=>then_normal (wp_seq (wp_seq ?_))
 refine at_regq [] { ts:=[1,4,10],os:=[] } [] gamOK hT h (by kernel_rfl) trivial fun a w h=>then_normal ?_
 refine at_test (decide (((szD s37) x0.2 x1) < 0)) h (by kernel_rfl) (fun h1=>?_) (fun h1=>?_)
 ·replace h1 : ((szD s37) x0.2 x1) < 0 := of_decide_eq_true h1
  have hvh1:=szD_neg h1 (by omega)
  refine wp_seq ?_
  refine at_regq [] { ts:=[1,4],os:=[] } [] gamOK hT h (by kernel_rfl) trivial fun a w h=>then_normal (wp_ret (then_ret ?_))
  exact at_return ((-1),()) [] h (by kernel_rfl) trivial (congrArg (fun z=>(z,())) (show ((-1))=(szD s39) x0 x1 from by (first | exact (szD_no (by omega)).symm | exact ((szD_ok (by omega)).trans (by omega)).symm)))
 ·replace h1 : ¬ (((szD s37) x0.2 x1) < 0) := of_decide_eq_false h1
  have hvh1:=szD_val h1 (by omega)
  refine wp_skip (then_normal (wp_seq ?_))
  refine at_regq [] { ts:=[4],os:=[] } [] gamOK hT h (by kernel_rfl) trivial fun a w h=>then_normal (wp_ret ?_)
  exact at_return (((szD s37) x0.2 x1),()) [] h (by kernel_rfl) trivial (congrArg (fun z=>(z,())) (show (((szD s37) x0.2 x1))=(szD s39) x0 x1 from by (first | exact (szD_no (by omega)).symm | exact ((szD_ok (by omega)).trans (by omega)).symm)))

def S_laws_toIntS:Sum:={ fid:=28,dom:=[s22],cod:=[s22],dp:=true,fz:=false,pre:=fun x=>(pTo s22) x.1,g:=fun x=>(((idD s22) x.1),()) }
def S_laws_toIntS_tab:List (Nat×Sum):=[]
theorem S_laws_toIntS_ok:FnOK Try.prog 28 S_laws_toIntS:=by
 refine at_enter 22 (fun x=>⟨[(0,aF (.int 3) x.1)],[]⟩) Try.func28 rfl (by kernel_rfl) (fun x=>rfl) ?_
 rintro w0 Z0 ⟨x0,u⟩ a w
 revert x0
 intro (x0:(List Int)) hpre hlens h
 replace hpre:(pTo s22) x0:=hpre
 have hl1:List.length x0≤9223372036854775807:=hlens.1.1
 have hT:TabOK Try.prog S_laws_toIntS_tab:=.nil
 have hp:Sh.sz s22 x0≤1048576:=hpre
 have hsz:Sh.sz s22 x0=List.length x0+ctL (Sh.sz (.int 3)) x0:=rfl
 refine wp_seq ?_
 refine at_regq [] { ts:=[0,2],os:=[] } [] gamOK hT h (by kernel_rfl) trivial fun a w h=>then_normal (wp_seq ?_)
 refine at_regq [{},{},{ ids:=[1] }] { ts:=[0,2,3],os:=[1] } [(0:Int)≤((List.length x0:Nat):Int)∧((List.length x0:Nat):Int)=((List.length x0:Nat):Int)∧((List.length x0:Nat):Int)*(8:Nat)≤(140737488355328:Int)] gamOK hT h (by kernel_rfl) ⟨(by refine ⟨?_,?_,?_⟩<;>((have hA0:=mul_f ((List.length x0:Nat):Int) (8:Nat);first | omega | (simp only [lsA,copyTo_len hok0];omega) | (simp<;>omega)))),trivial⟩ fun a w h=>then_normal (wp_seq (wp_seq ?_))
 refine at_regq [] { ts:=[0,2,3,4],os:=[1] } [] gamOK hT h (by kernel_rfl) trivial fun a w h=>then_normal (wp_block ?_)
 replace h:=at_out (σ':=⟨[(0,aF (.int 3) x0),(2,.p (.c (cN))),(3,aS 1),(4,aI 0)],[(1,oR (.int 3) (List.replicate (List.length x0) (0:Int)))]⟩) { ts:=[0,2,3,4],os:=[1] } h (by kernel_rfl)
 refine at_loop (fun i:Nat=>(⟨[(0,aF (.int 3) x0),(2,.p (.c (cN))),(3,aS 1),(4,aI ((i:Nat):Int))],[(1,oR (.int 3) (copyTo 0 x0 i))]⟩:St)) (fun i=>i≤List.length x0) (fun i=>List.length x0 - i) (0) h (st_congr2 (fun (d0:List Int) (d1:Int)=>(⟨[(0,aF (.int 3) x0),(2,.p (.c (cN))),(3,aS 1),(4,aI d1)],[(1,oR (.int 3) d0)]⟩:St)) (show ((List.replicate (List.length x0) (0:Int)):List Int)=(copyTo 0 x0 (0)) from by first | with_reducible rfl | (exact copyTo_zero) | rfl) (show (0:Int)=(((0):Nat):Int) from by first | with_reducible rfl | (exact copyTo_zero) | rfl)) (by first | omega | simp | (refine ⟨?_,?_⟩<;>first | omega | simp)) ?_
 intro i a w hok0 h
 refine wp_seq (wp_seq ?_)
 refine at_regq [] { ts:=[0,2,3,4,11],os:=[1] } [] gamOK hT h (by kernel_rfl) trivial fun a w h=>then_normal ?_
 refine at_test (decide (((i:Nat):Int) < ((List.length x0:Nat):Int))) h (by kernel_rfl) (fun h1=>?_) (fun h1=>?_)
 ·replace h1 : ((i : Nat) : Int) < ((List.length x0 : Nat) : Int) := of_decide_eq_true h1
  have hat:=ctL_at_le (c:=Sh.sz (.int 3)) (xs:=x0) (z:=0) (i:=i) (by omega)
  refine wp_skip (then_normal (wp_seq (wp_block ?_)))
  refine at_regq [] { ts:=[0,2,3,4],os:=[1] } [(0:Int)≤((i:Nat):Int)∧((i:Nat):Int) < ((List.length x0:Nat):Int),(0:Int)≤((i:Nat):Int)∧((i:Nat):Int) < ((List.length (copyTo 0 x0 i):Nat):Int),i < List.length (copyTo 0 x0 i)] gamOK hT h (by kernel_rfl) ⟨(by refine ⟨?_,?_⟩<;>(first | omega | (simp only [lsA,copyTo_len hok0];omega) | (simp<;>omega))),(by refine ⟨?_,?_⟩<;>(first | omega | (simp only [lsA,copyTo_len hok0];omega) | (simp<;>omega))),(by first | omega | (simp only [lsA,copyTo_len hok0];omega) | (simp<;>omega)),trivial⟩ fun a w h=>in_normal (then_normal ?_)
  refine at_regq [{},{ nw:=true }] { ts:=[0,2,3,4],os:=[1] } [I64 (((i:Nat):Int)+1)] gamOK hT h (by kernel_rfl) ⟨⟨by first | omega | (simp only [lsA,copyTo_len hok0];omega) | (simp<;>omega),by first | omega | (simp only [lsA,copyTo_len hok0];omega) | (simp<;>omega)⟩,trivial⟩ fun a w h=>?_
  replace h:=at_out (σ':=⟨[(0,aF (.int 3) x0),(2,.p (.c (cN))),(3,aS 1),(4,aI (((i:Nat):Int)+1))],[(1,oR (.int 3) (List.set (copyTo 0 x0 i) i (x0.getD i 0)))]⟩) { ts:=[0,2,3,4],os:=[1] } h (by kernel_rfl)
  exact ⟨i+1,at_eq h (st_congr2 (fun (d0:List Int) (d1:Int)=>(⟨[(0,aF (.int 3) x0),(2,.p (.c (cN))),(3,aS 1),(4,aI d1)],[(1,oR (.int 3) d0)]⟩:St)) (show ((List.set (copyTo 0 x0 i) i (x0.getD i 0)):List Int)=(copyTo 0 x0 (i+1)) from by first | with_reducible rfl | (exact copyTo_set (by omega)) | rfl) (show (((i:Nat):Int)+1:Int)=(((i+1):Nat):Int) from by first | with_reducible rfl | (omega) | rfl)),(by first | omega | (refine ⟨?_,?_⟩<;>omega)),(by omega)⟩
 ·replace h1 : ¬ (((i : Nat) : Int) < ((List.length x0 : Nat) : Int)) := of_decide_eq_false h1
  refine wp_exit (then_exit (then_exit (in_hit (then_normal (wp_seq ?_)))))
  refine at_regq [] { ts:=[2],os:=[1] } [] gamOK hT h (by kernel_rfl) trivial fun a w h=>then_normal (wp_ret ?_)
  exact at_return ((copyTo 0 x0 i),()) [] h (by kernel_rfl) trivial (congrArg (fun z=>(z,())) (show ((copyTo 0 x0 i))=(idD s22) x0 from by (rw [copyTo_all (by omega)];rfl)))

def S_laws_toCodedPacket:Sum:={ fid:=16,dom:=[s41],cod:=[s50],dp:=true,fz:=false,pre:=fun x=>(pTo s41) x.1,g:=fun x=>(((idD s41) x.1),()) }
def S_laws_toCodedPacket_tab:List (Nat×Sum):=[(28,S_laws_toIntS)]
theorem S_laws_toCodedPacket_ok:FnOK Try.prog 16 S_laws_toCodedPacket:=by
 refine at_enter 16 (fun x=>⟨[(0,aG [cI x.1.1,.ro (.int 3) x.1.2.1,.ro (.int 3) x.1.2.2])],[]⟩) Try.func16 rfl (by kernel_rfl) (fun x=>rfl) ?_
 rintro w0 Z0 ⟨x0,u⟩ a w
 revert x0
 intro (x0:T41) hpre hlens h
 replace hpre:(pTo s41) x0:=hpre
 have hl1:List.length x0.2.1≤9223372036854775807:=hlens.1.2.1.1
 have hl2:List.length x0.2.2≤9223372036854775807:=hlens.1.2.2.1
 have hT:TabOK Try.prog S_laws_toCodedPacket_tab:=(.cons S_laws_toIntS_ok .nil)
 have hp:Sh.sz s41 x0≤1048576:=hpre
 have hsz:Sh.sz s41 x0=(0+((Sh.sz s22 x0.2.1)+(Sh.sz s22 x0.2.2))):=rfl
 refine wp_seq ?_
 refine at_regq [{ ids:=[1] },{ ids:=[2] }] { ts:=[1,2],os:=[1,2] } [] gamOK hT h (by kernel_rfl) trivial fun a w h=>then_normal (wp_seq ?_)
 refine at_regq [{ ids:=[3] }] { ts:=[1,2,3],os:=[1,2,3] } [] gamOK hT h (by kernel_rfl) trivial fun a w h=>then_normal (wp_seq ?_)
 refine at_regq [] { ts:=[1,2,3],os:=[1,2,3] } [] gamOK hT h (by kernel_rfl) trivial fun a w h=>then_normal (wp_seq ?_)
 refine at_regq [{},{},{ ids:=[4] }] { ts:=[1,2,3],os:=[1,2,3,4] } [(pTo s22) x0.2.1] gamOK hT h (by kernel_rfl) ⟨(by (show Sh.sz _ _≤1048576;first | omega | (show (0:Nat)≤1048576;decide))),trivial⟩ fun a w h=>then_normal (wp_seq ?_)
 refine at_regq [{},{},{ ids:=[5] }] { ts:=[2,3],os:=[2,3,4,5] } [(pTo s22) x0.2.2] gamOK hT h (by kernel_rfl) ⟨(by (show Sh.sz _ _≤1048576;first | omega | (show (0:Nat)≤1048576;decide))),trivial⟩ fun a w h=>then_normal (wp_seq ?_)
 refine at_regq [] { ts:=[2],os:=[2,4,5] } [] gamOK hT h (by kernel_rfl) trivial fun a w h=>then_normal (wp_ret ?_)
 exact at_return (x0,()) [] h (by kernel_rfl) trivial (congrArg (fun z=>(z,())) (show (x0)=(idD s41) x0 from by rfl))

def S_laws_toCodedPacketS:Sum:={ fid:=128,dom:=[s120],cod:=[s77],dp:=true,fz:=false,pre:=fun x=>(pTo s120) x.1,g:=fun x=>(((idD s120) x.1),()) }
def S_laws_toCodedPacketS_tab:List (Nat×Sum):=[(16,S_laws_toCodedPacket)]
theorem S_laws_toCodedPacketS_ok:FnOK Try.prog 128 S_laws_toCodedPacketS:=by
 refine at_enter 23 (fun x=>⟨[(0,aF s41 x.1)],[]⟩) Try.func128 rfl (by kernel_rfl) (fun x=>rfl) ?_
 rintro w0 Z0 ⟨x0,u⟩ a w
 revert x0
 intro (x0:(List T41)) hpre hlens h
 replace hpre:(pTo s120) x0:=hpre
 have hl1:List.length x0≤9223372036854775807:=hlens.1.1
 have hT:TabOK Try.prog S_laws_toCodedPacketS_tab:=(.cons S_laws_toCodedPacket_ok .nil)
 have hp:Sh.sz s120 x0≤1048576:=hpre
 have hsz:Sh.sz s120 x0=List.length x0+ctL (Sh.sz s41) x0:=rfl
 refine wp_seq ?_
 refine at_regq [] { ts:=[0,2],os:=[] } [] gamOK hT h (by kernel_rfl) trivial fun a w h=>then_normal (wp_seq ?_)
 refine at_regq [{},{},{ ids:=[1] }] { ts:=[0,2,3],os:=[1] } [(0:Int)≤((List.length x0:Nat):Int)∧((List.length x0:Nat):Int)=((List.length x0:Nat):Int)∧((List.length x0:Nat):Int)*(56:Nat)≤(140737488355328:Int)] gamOK hT h (by kernel_rfl) ⟨(by refine ⟨?_,?_,?_⟩<;>((have hA0:=mul_f ((List.length x0:Nat):Int) (56:Nat);first | omega | (simp only [lsA,copyTo_len hok0];omega) | (simp<;>omega)))),trivial⟩ fun a w h=>then_normal (wp_seq (wp_seq ?_))
 refine at_regq [] { ts:=[0,2,3,4],os:=[1] } [] gamOK hT h (by kernel_rfl) trivial fun a w h=>then_normal (wp_block ?_)
 replace h:=at_out (σ':=⟨[(0,aF s41 x0),(2,.p (.c (cN))),(3,aS 1),(4,aI 0)],[(1,oR s50 (List.replicate (List.length x0) ((0,([],[])):T50)))]⟩) { ts:=[0,2,3,4],os:=[1] } h (by kernel_rfl)
 refine at_loop (fun i:Nat=>(⟨[(0,aF s41 x0),(2,.p (.c (cN))),(3,aS 1),(4,aI ((i:Nat):Int))],[(1,oR s50 (copyTo (0,([],[])) x0 i))]⟩:St)) (fun i=>i≤List.length x0) (fun i=>List.length x0 - i) (0) h (st_congr2 (fun (d0:List T50) (d1:Int)=>(⟨[(0,aF s41 x0),(2,.p (.c (cN))),(3,aS 1),(4,aI d1)],[(1,oR s50 d0)]⟩:St)) (show ((List.replicate (List.length x0) ((0,([],[])):T50)):List T50)=(copyTo (0,([],[])) x0 (0)) from by first | with_reducible rfl | (exact copyTo_zero) | rfl) (show (0:Int)=(((0):Nat):Int) from by first | with_reducible rfl | (exact copyTo_zero) | rfl)) (by first | omega | simp | (refine ⟨?_,?_⟩<;>first | omega | simp)) ?_
 intro i a w hok0 h
 refine wp_seq (wp_seq ?_)
 refine at_regq [] { ts:=[0,2,3,4,11],os:=[1] } [] gamOK hT h (by kernel_rfl) trivial fun a w h=>then_normal ?_
 refine at_test (decide (((i:Nat):Int) < ((List.length x0:Nat):Int))) h (by kernel_rfl) (fun h1=>?_) (fun h1=>?_)
 ·replace h1 : ((i : Nat) : Int) < ((List.length x0 : Nat) : Int) := of_decide_eq_true h1
  have hat:=ctL_at_le (c:=Sh.sz s41) (xs:=x0) (z:=(0,([],[]))) (i:=i) (by omega)
  refine wp_skip (then_normal (wp_seq (wp_block ?_)))
  refine at_regq [{},{},{},{},{},{},{ ids:=[2,3] }] { ts:=[0,2,3,4],os:=[1] } [(0:Int)≤((i:Nat):Int)∧((i:Nat):Int) < ((List.length x0:Nat):Int),(pTo s41) (x0.getD i (0,([],[]))),(0:Int)≤((i:Nat):Int)∧((i:Nat):Int) < ((List.length (copyTo (0,([],[])) x0 i):Nat):Int),i < List.length (copyTo (0,([],[])) x0 i)] gamOK hT h (by kernel_rfl) ⟨(by refine ⟨?_,?_⟩<;>(first | omega | (simp only [lsA,copyTo_len hok0];omega) | (simp<;>omega))),(by (show Sh.sz _ _≤1048576;omega)),(by refine ⟨?_,?_⟩<;>(first | omega | (simp only [lsA,copyTo_len hok0];omega) | (simp<;>omega))),(by first | omega | (simp only [lsA,copyTo_len hok0];omega) | (simp<;>omega)),trivial⟩ fun a w h=>in_normal (then_normal ?_)
  refine at_regq [{},{ nw:=true }] { ts:=[0,2,3,4],os:=[1] } [I64 (((i:Nat):Int)+1)] gamOK hT h (by kernel_rfl) ⟨⟨by first | omega | (simp only [lsA,copyTo_len hok0];omega) | (simp<;>omega),by first | omega | (simp only [lsA,copyTo_len hok0];omega) | (simp<;>omega)⟩,trivial⟩ fun a w h=>?_
  replace h:=at_out (σ':=⟨[(0,aF s41 x0),(2,.p (.c (cN))),(3,aS 1),(4,aI (((i:Nat):Int)+1))],[(1,oR s50 (List.set (copyTo (0,([],[])) x0 i) i (x0.getD i (0,([],[])))))]⟩) { ts:=[0,2,3,4],os:=[1] } h (by kernel_rfl)
  exact ⟨i+1,at_eq h (st_congr2 (fun (d0:List T50) (d1:Int)=>(⟨[(0,aF s41 x0),(2,.p (.c (cN))),(3,aS 1),(4,aI d1)],[(1,oR s50 d0)]⟩:St)) (show ((List.set (copyTo (0,([],[])) x0 i) i (x0.getD i (0,([],[])))):List T50)=(copyTo (0,([],[])) x0 (i+1)) from by first | with_reducible rfl | (exact copyTo_set (by omega)) | rfl) (show (((i:Nat):Int)+1:Int)=(((i+1):Nat):Int) from by first | with_reducible rfl | (omega) | rfl)),(by first | omega | (refine ⟨?_,?_⟩<;>omega)),(by omega)⟩
 ·replace h1 : ¬ (((i : Nat) : Int) < ((List.length x0 : Nat) : Int)) := of_decide_eq_false h1
  refine wp_exit (then_exit (then_exit (in_hit (then_normal (wp_seq ?_)))))
  refine at_regq [] { ts:=[2],os:=[1] } [] gamOK hT h (by kernel_rfl) trivial fun a w h=>then_normal (wp_ret ?_)
  exact at_return ((copyTo (0,([],[])) x0 i),()) [] h (by kernel_rfl) trivial (congrArg (fun z=>(z,())) (show ((copyTo (0,([],[])) x0 i))=(idD s120) x0 from by (rw [copyTo_all (by omega)];rfl)))

def S_laws_toRecoder:Sum:={ fid:=89,dom:=[s122],cod:=[s79],dp:=true,fz:=false,pre:=fun x=>(pTo s122) x.1,g:=fun x=>(((idD s122) x.1),()) }
def S_laws_toRecoder_tab:List (Nat×Sum):=[(128,S_laws_toCodedPacketS)]
theorem S_laws_toRecoder_ok:FnOK Try.prog 89 S_laws_toRecoder:=by
 refine at_enter 21 (fun x=>⟨[(0,aG [cI x.1.1,cI x.1.2.1,cI x.1.2.2.1,.ro s41 x.1.2.2.2.1,cI x.1.2.2.2.2])],[]⟩) Try.func89 rfl (by kernel_rfl) (fun x=>rfl) ?_
 rintro w0 Z0 ⟨x0,u⟩ a w
 revert x0
 intro (x0:T122) hpre hlens h
 replace hpre:(pTo s122) x0:=hpre
 have hl1:List.length x0.2.2.2.1≤9223372036854775807:=hlens.1.2.2.2.1.1
 have hT:TabOK Try.prog S_laws_toRecoder_tab:=(.cons S_laws_toCodedPacketS_ok .nil)
 have hp:Sh.sz s122 x0≤1048576:=hpre
 have hsz:Sh.sz s122 x0=(0+(0+(0+((Sh.sz s120 x0.2.2.2.1)+0)))):=rfl
 refine wp_seq ?_
 refine at_regq [{ ids:=[1] },{ ids:=[2] }] { ts:=[1,2],os:=[1,2] } [] gamOK hT h (by kernel_rfl) trivial fun a w h=>then_normal (wp_seq ?_)
 refine at_regq [{ ids:=[3] }] { ts:=[1,2,3],os:=[1,2,3] } [] gamOK hT h (by kernel_rfl) trivial fun a w h=>then_normal (wp_seq ?_)
 refine at_regq [] { ts:=[1,2,3],os:=[1,2,3] } [] gamOK hT h (by kernel_rfl) trivial fun a w h=>then_normal (wp_seq ?_)
 refine at_regq [] { ts:=[1,2,3],os:=[1,2,3] } [] gamOK hT h (by kernel_rfl) trivial fun a w h=>then_normal (wp_seq ?_)
 refine at_regq [] { ts:=[1,2,3],os:=[1,2,3] } [] gamOK hT h (by kernel_rfl) trivial fun a w h=>then_normal (wp_seq ?_)
 refine at_regq [{},{},{ ids:=[4] }] { ts:=[1,2,3],os:=[1,2,3,4] } [(pTo s120) x0.2.2.2.1] gamOK hT h (by kernel_rfl) ⟨(by (show Sh.sz _ _≤1048576;first | omega | (show (0:Nat)≤1048576;decide))),trivial⟩ fun a w h=>then_normal (wp_seq ?_)
 refine at_regq [] { ts:=[2,3],os:=[2,3,4] } [] gamOK hT h (by kernel_rfl) trivial fun a w h=>then_normal (wp_seq ?_)
 refine at_regq [] { ts:=[2],os:=[2,4] } [] gamOK hT h (by kernel_rfl) trivial fun a w h=>then_normal (wp_ret ?_)
 exact at_return (x0,()) [] h (by kernel_rfl) trivial (congrArg (fun z=>(z,())) (show (x0)=(idD s122) x0 from by rfl))

def S_laws_toRecoderS:Sum:={ fid:=48,dom:=[s37],cod:=[s44],dp:=true,fz:=false,pre:=fun x=>(pTo s37) x.1,g:=fun x=>(((idD s37) x.1),()) }
def S_laws_toRecoderS_tab:List (Nat×Sum):=[(89,S_laws_toRecoder)]
theorem S_laws_toRecoderS_ok:FnOK Try.prog 48 S_laws_toRecoderS:=by
 refine at_enter 23 (fun x=>⟨[(0,aF s122 x.1)],[]⟩) Try.func48 rfl (by kernel_rfl) (fun x=>rfl) ?_
 rintro w0 Z0 ⟨x0,u⟩ a w
 revert x0
 intro (x0:(List T122)) hpre hlens h
 replace hpre:(pTo s37) x0:=hpre
 have hl1:List.length x0≤9223372036854775807:=hlens.1.1
 have hT:TabOK Try.prog S_laws_toRecoderS_tab:=(.cons S_laws_toRecoder_ok .nil)
 have hp:Sh.sz s37 x0≤1048576:=hpre
 have hsz:Sh.sz s37 x0=List.length x0+ctL (Sh.sz s122) x0:=rfl
 refine wp_seq ?_
 refine at_regq [] { ts:=[0,2],os:=[] } [] gamOK hT h (by kernel_rfl) trivial fun a w h=>then_normal (wp_seq ?_)
 refine at_regq [{},{},{ ids:=[1] }] { ts:=[0,2,3],os:=[1] } [(0:Int)≤((List.length x0:Nat):Int)∧((List.length x0:Nat):Int)=((List.length x0:Nat):Int)∧((List.length x0:Nat):Int)*(56:Nat)≤(140737488355328:Int)] gamOK hT h (by kernel_rfl) ⟨(by refine ⟨?_,?_,?_⟩<;>((have hA0:=mul_f ((List.length x0:Nat):Int) (56:Nat);first | omega | (simp only [lsA,copyTo_len hok0];omega) | (simp<;>omega)))),trivial⟩ fun a w h=>then_normal (wp_seq (wp_seq ?_))
 refine at_regq [] { ts:=[0,2,3,4],os:=[1] } [] gamOK hT h (by kernel_rfl) trivial fun a w h=>then_normal (wp_block ?_)
 replace h:=at_out (σ':=⟨[(0,aF s122 x0),(2,.p (.c (cN))),(3,aS 1),(4,aI 0)],[(1,oR s79 (List.replicate (List.length x0) ((0,(0,(0,([],0)))):T79)))]⟩) { ts:=[0,2,3,4],os:=[1] } h (by kernel_rfl)
 refine at_loop (fun i:Nat=>(⟨[(0,aF s122 x0),(2,.p (.c (cN))),(3,aS 1),(4,aI ((i:Nat):Int))],[(1,oR s79 (copyTo (0,(0,(0,([],0)))) x0 i))]⟩:St)) (fun i=>i≤List.length x0) (fun i=>List.length x0 - i) (0) h (st_congr2 (fun (d0:List T79) (d1:Int)=>(⟨[(0,aF s122 x0),(2,.p (.c (cN))),(3,aS 1),(4,aI d1)],[(1,oR s79 d0)]⟩:St)) (show ((List.replicate (List.length x0) ((0,(0,(0,([],0)))):T79)):List T79)=(copyTo (0,(0,(0,([],0)))) x0 (0)) from by first | with_reducible rfl | (exact copyTo_zero) | rfl) (show (0:Int)=(((0):Nat):Int) from by first | with_reducible rfl | (exact copyTo_zero) | rfl)) (by first | omega | simp | (refine ⟨?_,?_⟩<;>first | omega | simp)) ?_
 intro i a w hok0 h
 refine wp_seq (wp_seq ?_)
 refine at_regq [] { ts:=[0,2,3,4,11],os:=[1] } [] gamOK hT h (by kernel_rfl) trivial fun a w h=>then_normal ?_
 refine at_test (decide (((i:Nat):Int) < ((List.length x0:Nat):Int))) h (by kernel_rfl) (fun h1=>?_) (fun h1=>?_)
 ·replace h1 : ((i : Nat) : Int) < ((List.length x0 : Nat) : Int) := of_decide_eq_true h1
  have hat:=ctL_at_le (c:=Sh.sz s122) (xs:=x0) (z:=(0,(0,(0,([],0))))) (i:=i) (by omega)
  refine wp_skip (then_normal (wp_seq (wp_block ?_)))
  refine at_regq [{},{},{},{},{},{},{ ids:=[2] }] { ts:=[0,2,3,4],os:=[1] } [(0:Int)≤((i:Nat):Int)∧((i:Nat):Int) < ((List.length x0:Nat):Int),(pTo s122) (x0.getD i (0,(0,(0,([],0))))),(0:Int)≤((i:Nat):Int)∧((i:Nat):Int) < ((List.length (copyTo (0,(0,(0,([],0)))) x0 i):Nat):Int),i < List.length (copyTo (0,(0,(0,([],0)))) x0 i)] gamOK hT h (by kernel_rfl) ⟨(by refine ⟨?_,?_⟩<;>(first | omega | (simp only [lsA,copyTo_len hok0];omega) | (simp<;>omega))),(by (show Sh.sz _ _≤1048576;omega)),(by refine ⟨?_,?_⟩<;>(first | omega | (simp only [lsA,copyTo_len hok0];omega) | (simp<;>omega))),(by first | omega | (simp only [lsA,copyTo_len hok0];omega) | (simp<;>omega)),trivial⟩ fun a w h=>in_normal (then_normal ?_)
  refine at_regq [{},{ nw:=true }] { ts:=[0,2,3,4],os:=[1] } [I64 (((i:Nat):Int)+1)] gamOK hT h (by kernel_rfl) ⟨⟨by first | omega | (simp only [lsA,copyTo_len hok0];omega) | (simp<;>omega),by first | omega | (simp only [lsA,copyTo_len hok0];omega) | (simp<;>omega)⟩,trivial⟩ fun a w h=>?_
  replace h:=at_out (σ':=⟨[(0,aF s122 x0),(2,.p (.c (cN))),(3,aS 1),(4,aI (((i:Nat):Int)+1))],[(1,oR s79 (List.set (copyTo (0,(0,(0,([],0)))) x0 i) i (x0.getD i (0,(0,(0,([],0)))))))]⟩) { ts:=[0,2,3,4],os:=[1] } h (by kernel_rfl)
  exact ⟨i+1,at_eq h (st_congr2 (fun (d0:List T79) (d1:Int)=>(⟨[(0,aF s122 x0),(2,.p (.c (cN))),(3,aS 1),(4,aI d1)],[(1,oR s79 d0)]⟩:St)) (show ((List.set (copyTo (0,(0,(0,([],0)))) x0 i) i (x0.getD i (0,(0,(0,([],0)))))):List T79)=(copyTo (0,(0,(0,([],0)))) x0 (i+1)) from by first | with_reducible rfl | (exact copyTo_set (by omega)) | rfl) (show (((i:Nat):Int)+1:Int)=(((i+1):Nat):Int) from by first | with_reducible rfl | (omega) | rfl)),(by first | omega | (refine ⟨?_,?_⟩<;>omega)),(by omega)⟩
 ·replace h1 : ¬ (((i : Nat) : Int) < ((List.length x0 : Nat) : Int)) := of_decide_eq_false h1
  refine wp_exit (then_exit (then_exit (in_hit (then_normal (wp_seq ?_)))))
  refine at_regq [] { ts:=[2],os:=[1] } [] gamOK hT h (by kernel_rfl) trivial fun a w h=>then_normal (wp_ret ?_)
  exact at_return ((copyTo (0,(0,(0,([],0)))) x0 i),()) [] h (by kernel_rfl) trivial (congrArg (fun z=>(z,())) (show ((copyTo (0,(0,(0,([],0)))) x0 i))=(idD s37) x0 from by (rw [copyTo_all (by omega)];rfl)))

def S_laws_toRelay:Sum:={ fid:=15,dom:=[s39],cod:=[s46],dp:=true,fz:=false,pre:=fun x=>(pTo s39) x.1,g:=fun x=>(((idD s39) x.1),()) }
def S_laws_toRelay_tab:List (Nat×Sum):=[(48,S_laws_toRecoderS)]
theorem S_laws_toRelay_ok:FnOK Try.prog 15 S_laws_toRelay:=by
 refine at_enter 12 (fun x=>⟨[(0,aG [cI x.1.1,.ro s122 x.1.2])],[]⟩) Try.func15 rfl (by kernel_rfl) (fun x=>rfl) ?_
 rintro w0 Z0 ⟨x0,u⟩ a w
 revert x0
 intro (x0:T39) hpre hlens h
 replace hpre:(pTo s39) x0:=hpre
 have hl1:List.length x0.2≤9223372036854775807:=hlens.1.2.1
 have hT:TabOK Try.prog S_laws_toRelay_tab:=(.cons S_laws_toRecoderS_ok .nil)
 have hp:Sh.sz s39 x0≤1048576:=hpre
 have hsz:Sh.sz s39 x0=(0+(Sh.sz s37 x0.2)):=rfl
 refine wp_seq ?_
 refine at_regq [{ ids:=[1] },{ ids:=[2] }] { ts:=[1,2],os:=[1,2] } [] gamOK hT h (by kernel_rfl) trivial fun a w h=>then_normal (wp_seq ?_)
 refine at_regq [{ ids:=[3] }] { ts:=[1,2,3],os:=[1,2,3] } [] gamOK hT h (by kernel_rfl) trivial fun a w h=>then_normal (wp_seq ?_)
 refine at_regq [] { ts:=[1,2,3],os:=[1,2,3] } [] gamOK hT h (by kernel_rfl) trivial fun a w h=>then_normal (wp_seq ?_)
 refine at_regq [{},{},{ ids:=[4] }] { ts:=[2,3],os:=[2,3,4] } [(pTo s37) x0.2] gamOK hT h (by kernel_rfl) ⟨(by (show Sh.sz _ _≤1048576;first | omega | (show (0:Nat)≤1048576;decide))),trivial⟩ fun a w h=>then_normal (wp_seq ?_)
 refine at_regq [] { ts:=[2],os:=[2,4] } [] gamOK hT h (by kernel_rfl) trivial fun a w h=>then_normal (wp_ret ?_)
 exact at_return (x0,()) [] h (by kernel_rfl) trivial (congrArg (fun z=>(z,())) (show (x0)=(idD s39) x0 from by rfl))

def S_spec_EqualInts:Sum:={ fid:=160,dom:=[s22,s22],cod:=[(.bool 4)],dp:=true,fz:=false,pre:=fun x=>True,g:=fun x=>(((Sh.eqB s22) x.1 x.2.1),()) }
def S_spec_EqualInts_tab:List (Nat×Sum):=[]
theorem S_spec_EqualInts_ok:FnOK Try.prog 160 S_spec_EqualInts:=by
 refine at_enter 26 (fun x=>⟨[(0,aF (.int 3) x.1),(1,aF (.int 3) x.2.1)],[]⟩) Try.func160 rfl (by kernel_rfl) (fun x=>rfl) ?_
 rintro w0 Z0 ⟨x0,x1,u⟩ a w
 revert x0 x1
 intro (x0:(List Int)) (x1:(List Int)) hpre hlens h
 have hl1:List.length x0≤9223372036854775807:=hlens.1.1
 have hl2:List.length x1≤9223372036854775807:=hlens.2.1.1
 have hT:TabOK Try.prog S_spec_EqualInts_tab:=.nil
 refine wp_seq ?_
 refine at_regq [] { ts:=[0,1,4],os:=[] } [] gamOK hT h (by kernel_rfl) trivial fun a w h=>then_normal (wp_seq (wp_seq ?_))
 refine at_regq [] { ts:=[0,1,4,10],os:=[] } [] gamOK hT h (by kernel_rfl) trivial fun a w h=>then_normal ?_
 refine at_test (!decide (((List.length x0:Nat):Int)=((List.length x1:Nat):Int))) h (by kernel_rfl) (fun h1=>?_) (fun h1=>?_)
 ·replace h1 : ¬ (((List.length x0 : Nat) : Int) = ((List.length x1 : Nat) : Int)) := of_decide_eq_false (notT h1)
  refine wp_seq ?_
  refine at_regq [] { ts:=[0,1,4],os:=[] } [] gamOK hT h (by kernel_rfl) trivial fun a w h=>then_normal (wp_ret (then_ret ?_))
  exact at_return (false,()) [] h (by kernel_rfl) trivial (congrArg (fun z=>(z,())) (show (false)=(Sh.eqB s22) x0 x1 from by exact (Sh.eqB_ne (fun e=>h1 (by rw [e]))).symm))
 ·replace h1 : ((List.length x0 : Nat) : Int) = ((List.length x1 : Nat) : Int) := of_decide_eq_true (notF h1)
  refine wp_skip (then_normal (wp_seq (wp_seq ?_)))
  refine at_regq [] { ts:=[0,1,4,5],os:=[] } [] gamOK hT h (by kernel_rfl) trivial fun a w h=>then_normal (wp_block ?_)
  replace h:=at_out (σ':=⟨[(0,aF (.int 3) x0),(1,aF (.int 3) x1),(4,aB false),(5,aI 0)],[]⟩) { ts:=[0,1,4,5],os:=[] } h (by kernel_rfl)
  refine at_loop (fun i:Nat=>(⟨[(0,aF (.int 3) x0),(1,aF (.int 3) x1),(4,aB false),(5,aI ((i:Nat):Int))],[]⟩:St)) (fun i=>(i≤List.length x0∧x0.take i=x1.take i)) (fun i=>List.length x0 - i) (0) h (st_congr1 (fun (d0:Int)=>(⟨[(0,aF (.int 3) x0),(1,aF (.int 3) x1),(4,aB false),(5,aI d0)],[]⟩:St)) (show (0:Int)=(((0):Nat):Int) from by first | with_reducible rfl | (rfl) | rfl)) (by exact ⟨Nat.zero_le _,rfl⟩) ?_
  intro i a w hok0 h
  refine wp_seq (wp_seq ?_)
  refine at_regq [] { ts:=[0,1,4,5,14],os:=[] } [] gamOK hT h (by kernel_rfl) trivial fun a w h=>then_normal ?_
  refine at_test (decide (((i:Nat):Int) < ((List.length x0:Nat):Int))) h (by kernel_rfl) (fun h2=>?_) (fun h2=>?_)
  ·replace h2 : ((i : Nat) : Int) < ((List.length x0 : Nat) : Int) := of_decide_eq_true h2
   refine wp_skip (then_normal (wp_seq (wp_block (wp_seq ?_))))
   refine at_anyq [{},{},{},{},{},{},{},{},{}] { ts:=[0,1,4,5,25],os:=[] } [(0:Int)≤((i:Nat):Int)∧((i:Nat):Int) < ((List.length x0:Nat):Int),(0:Int)≤((i:Nat):Int)∧((i:Nat):Int) < ((List.length x1:Nat):Int)] gamOK hT mixed h (by kernel_rfl) ⟨(by refine ⟨?_,?_⟩<;>(first | omega | (simp only [lsA];omega) | (simp<;>omega))),(by refine ⟨?_,?_⟩<;>(first | omega | (simp only [lsA];omega) | (simp<;>omega))),trivial⟩ fun a w h=>then_normal ?_
   refine at_test (!decide ((x0.getD i 0)=(x1.getD i 0))) h (by kernel_rfl) (fun h3=>?_) (fun h3=>?_)
   ·replace h3 : ¬ ((x0.getD i 0) = (x1.getD i 0)) := of_decide_eq_false (notT h3)
    refine wp_seq ?_
    refine at_regq [] { ts:=[0,1,4,5],os:=[] } [] gamOK hT h (by kernel_rfl) trivial fun a w h=>then_normal (wp_ret (in_ret (then_ret (then_ret (in_ret (then_ret ?_))))))
    exact at_return (false,()) [] h (by kernel_rfl) trivial (congrArg (fun z=>(z,())) (show (false)=(Sh.eqB s22) x0 x1 from by exact (Sh.eqB_ne (s:=s22) (fun e=>h3 (by rw [e]))).symm))
   ·replace h3 : (x0.getD i 0) = (x1.getD i 0) := of_decide_eq_true (notF h3)
    refine wp_skip (in_normal (then_normal ?_))
    refine at_regq [{},{ nw:=true }] { ts:=[0,1,4,5],os:=[] } [I64 (((i:Nat):Int)+1)] gamOK hT h (by kernel_rfl) ⟨⟨by first | omega | (simp only [lsA];omega) | (simp<;>omega),by first | omega | (simp only [lsA];omega) | (simp<;>omega)⟩,trivial⟩ fun a w h=>?_
    replace h:=at_out (σ':=⟨[(0,aF (.int 3) x0),(1,aF (.int 3) x1),(4,aB false),(5,aI (((i:Nat):Int)+1))],[]⟩) { ts:=[0,1,4,5],os:=[] } h (by kernel_rfl)
    exact ⟨i+1,at_eq h (st_congr1 (fun (d0:Int)=>(⟨[(0,aF (.int 3) x0),(1,aF (.int 3) x1),(4,aB false),(5,aI d0)],[]⟩:St)) (show (((i:Nat):Int)+1:Int)=(((i+1):Nat):Int) from by first | with_reducible rfl | (omega) | rfl)),(by exact ⟨by omega,eqTo_step (z:=0) (by omega) (by omega) hok0.2 h3⟩),(by omega)⟩
  ·replace h2 : ¬ (((i : Nat) : Int) < ((List.length x0 : Nat) : Int)) := of_decide_eq_false h2
   refine wp_exit (then_exit (then_exit (in_hit (then_normal (wp_seq ?_)))))
   refine at_regq [] { ts:=[4],os:=[] } [] gamOK hT h (by kernel_rfl) trivial fun a w h=>then_normal (wp_ret ?_)
   exact at_return (true,()) [] h (by kernel_rfl) trivial (congrArg (fun z=>(z,())) (show (true)=(Sh.eqB s22) x0 x1 from by (have e:=hok0.2;rw [take_all (by omega),take_all (by omega)] at e;exact ((Sh.eqB_iff s22).2 e).symm)))

abbrev Q__impl_CodedPacket_clone:=(fun (x0:T50)=>Sh.fit s50 x0)
def S__impl_CodedPacket_clone:Sum:={ fid:=129,dom:=[s50],cod:=[s50],dp:=true,fz:=false,pre:=fun x=>Q__impl_CodedPacket_clone x.1,g:=fun x=>(((idD s50) x.1),()) }
def S__impl_CodedPacket_clone_tab:List (Nat×Sum):=[(69,S_slices_Clone_S_int_int_)]
theorem S__impl_CodedPacket_clone_ok:FnOK Try.prog 129 S__impl_CodedPacket_clone:=by
 refine at_enter 12 (fun x=>⟨[(0,aG [cI x.1.1,.ro (.int 3) x.1.2.1,.ro (.int 3) x.1.2.2])],[]⟩) Try.func129 rfl (by kernel_rfl) (fun x=>rfl) ?_
 rintro w0 Z0 ⟨x0,u⟩ a w
 revert x0
 intro (x0:T50) hpre hlens h
 replace hpre:Q__impl_CodedPacket_clone x0:=hpre
 have hT:TabOK Try.prog S__impl_CodedPacket_clone_tab:=(.cons S_slices_Clone_S_int_int__ok .nil)
 have hf0:Sh.fit s50 x0:=hpre
 have hn0_1:List.length x0.2.1≤1073741824:=hf0.2.1.1
 have hn0_2:List.length x0.2.2≤1073741824:=hf0.2.2.1
 refine wp_seq ?_
 refine at_regq [{ ids:=[1] },{ ids:=[2] }] { ts:=[1,2],os:=[1,2] } [] gamOK hT h (by kernel_rfl) trivial fun a w h=>then_normal (wp_seq ?_)
 refine at_anyq [{},{},{},{},{ ids:=[3] },{},{},{ ids:=[4] },{},{}] { ts:=[2],os:=[2,3,4] } [(lenOK (α:=Int)) x0.2.1,(lenOK (α:=Int)) x0.2.2] gamOK hT mixed h (by kernel_rfl) ⟨(by first | assumption | trivial | (first | omega | (simp only [lsA];omega) | (simp<;>omega))),(by first | assumption | trivial | (first | omega | (simp only [lsA];omega) | (simp<;>omega))),trivial⟩ fun a w h=>then_normal (wp_ret ?_)
 exact at_return (x0,()) [] h (by kernel_rfl) trivial (congrArg (fun z=>(z,())) (show (x0)=(idD s50) x0 from by rfl))

abbrev Q_spec_l11Copy:=(fun (x0:T50)=>Sh.fit s50 x0)
def S_spec_l11Copy:Sum:={ fid:=87,dom:=[s50],cod:=[s50],dp:=true,fz:=false,pre:=fun x=>Q_spec_l11Copy x.1,g:=fun x=>(((idD s50) x.1),()) }
def S_spec_l11Copy_tab:List (Nat×Sum):=[]
theorem S_spec_l11Copy_ok:FnOK Try.prog 87 S_spec_l11Copy:=by
 refine at_enter 14 (fun x=>⟨[(0,aG [cI x.1.1,.ro (.int 3) x.1.2.1,.ro (.int 3) x.1.2.2])],[]⟩) Try.func87 rfl (by kernel_rfl) (fun x=>rfl) ?_
 rintro w0 Z0 ⟨x0,u⟩ a w
 revert x0
 intro (x0:T50) hpre hlens h
 replace hpre:Q_spec_l11Copy x0:=hpre
 have hT:TabOK Try.prog S_spec_l11Copy_tab:=.nil
 have hf0:Sh.fit s50 x0:=hpre
 have hn0_1:List.length x0.2.1≤1073741824:=hf0.2.1.1
 have hn0_2:List.length x0.2.2≤1073741824:=hf0.2.2.1
 refine wp_seq ?_
 refine at_regq [{ ids:=[1] },{ ids:=[2] }] { ts:=[1,2],os:=[1,2] } [] gamOK hT h (by kernel_rfl) trivial fun a w h=>then_normal (wp_seq ?_)
 refine at_anyq [{},{},{ ids:=[3] },{},{},{ ids:=[4] },{ ids:=[5] },{},{},{ ids:=[6] },{},{}] { ts:=[2],os:=[2,4,6] } [(List.length ([]:List Int)+List.length x0.2.1)*8≤140737488355328,(List.length ([]:List Int)+List.length x0.2.2)*8≤140737488355328] gamOK hT mixed h (by kernel_rfl) ⟨(by first | omega | (simp only [lsA];omega) | (simp<;>omega)),(by first | omega | (simp only [lsA];omega) | (simp<;>omega)),trivial⟩ fun a w h=>then_normal (wp_ret ?_)
 exact at_return ((x0.1,((([]:List Int)++x0.2.1),(([]:List Int)++x0.2.2))),()) [] h (by kernel_rfl) trivial (congrArg (fun z=>(z,())) (show ((x0.1,((([]:List Int)++x0.2.1),(([]:List Int)++x0.2.2))))=(idD s50) x0 from by rfl))

abbrev Q_spec_l11All:=(fun (x0:(List T50))=>Sh.fit s77 x0)
def S_spec_l11All:Sum:={ fid:=125,dom:=[s77],cod:=[s77],dp:=true,fz:=false,pre:=fun x=>Q_spec_l11All x.1,g:=fun x=>(((idD s77) x.1),()) }
def S_spec_l11All_tab:List (Nat×Sum):=[(87,S_spec_l11Copy)]
theorem S_spec_l11All_ok:FnOK Try.prog 125 S_spec_l11All:=by
 refine at_enter 21 (fun x=>⟨[(0,aF s50 x.1)],[]⟩) Try.func125 rfl (by kernel_rfl) (fun x=>rfl) ?_
 rintro w0 Z0 ⟨x0,u⟩ a w
 revert x0
 intro (x0:(List T50)) hpre hlens h
 replace hpre:Q_spec_l11All x0:=hpre
 have hT:TabOK Try.prog S_spec_l11All_tab:=(.cons S_spec_l11Copy_ok .nil)
 have hf0:Sh.fit s77 x0:=hpre
 have hn0_1:List.length x0≤1073741824:=hf0.1
 refine wp_seq ?_
 refine at_regq [] { ts:=[0,2],os:=[] } [] gamOK hT h (by kernel_rfl) trivial fun a w h=>then_normal (wp_seq ?_)
 refine at_regq [{ ids:=[1] }] { ts:=[0,2,3],os:=[1] } [] gamOK hT h (by kernel_rfl) trivial fun a w h=>then_normal (wp_seq (wp_seq ?_))
 refine at_regq [] { ts:=[0,2,3,4],os:=[1] } [] gamOK hT h (by kernel_rfl) trivial fun a w h=>then_normal (wp_block ?_)
 replace h:=at_out (σ':=⟨[(0,aF s50 x0),(2,.p (.c (cN))),(3,aS 1),(4,aI 0)],[(1,oR s50 ([]:List T50))]⟩) { ts:=[0,2,3,4],os:=[1] } h (by kernel_rfl)
 refine at_loop (fun i:Nat=>(⟨[(0,aF s50 x0),(2,.p (.c (cN))),(3,aS 1),(4,aI ((i:Nat):Int))],[(1,oR s50 (List.take i x0))]⟩:St)) (fun i=>i≤List.length x0) (fun i=>List.length x0 - i) (0) h (st_congr2 (fun (d0:List T50) (d1:Int)=>(⟨[(0,aF s50 x0),(2,.p (.c (cN))),(3,aS 1),(4,aI d1)],[(1,oR s50 d0)]⟩:St)) (show (([]:List T50):List T50)=(List.take (0) x0) from by first | with_reducible rfl | (rfl) | rfl) (show (0:Int)=(((0):Nat):Int) from by first | with_reducible rfl | (rfl) | rfl)) (by first | omega | simp | (refine ⟨?_,?_⟩<;>first | omega | simp)) ?_
 intro i a w hok0 h
 have hlt:=len_take_le (xs:=x0) i
 refine wp_seq (wp_seq ?_)
 refine at_regq [] { ts:=[0,2,3,4,9],os:=[1] } [] gamOK hT h (by kernel_rfl) trivial fun a w h=>then_normal ?_
 refine at_test (decide (((i:Nat):Int) < ((List.length x0:Nat):Int))) h (by kernel_rfl) (fun h1=>?_) (fun h1=>?_)
 ·replace h1 : ((i : Nat) : Int) < ((List.length x0 : Nat) : Int) := of_decide_eq_true h1
  refine wp_skip (then_normal (wp_seq (wp_block ?_)))
  refine at_regq [{},{},{},{},{},{ ids:=[2,3] },{ ids:=[4] },{ ids:=[5] }] { ts:=[0,2,3,4],os:=[5] } [(0:Int)≤((i:Nat):Int)∧((i:Nat):Int) < ((List.length x0:Nat):Int),Q_spec_l11Copy (x0.getD i (0,([],[]))),(List.length (List.take i x0)+List.length ([(x0.getD i (0,([],[])))]))*56≤140737488355328] gamOK hT h (by kernel_rfl) ⟨(by refine ⟨?_,?_⟩<;>(first | omega | (simp only [lsA];omega) | (simp<;>omega))),(by exact (Sh.fit_getD hf0 i)),(by (have hL0:=(show List.length (List.take i x0)≤1073741824 from ((Sh.fit_take hf0 i)).1);first | omega | (simp only [lsA];omega) | (simp<;>omega))),trivial⟩ fun a w h=>in_normal (then_normal ?_)
  refine at_regq [{},{ nw:=true }] { ts:=[0,2,3,4],os:=[5] } [I64 (((i:Nat):Int)+1)] gamOK hT h (by kernel_rfl) ⟨⟨by first | omega | (simp only [lsA];omega) | (simp<;>omega),by first | omega | (simp only [lsA];omega) | (simp<;>omega)⟩,trivial⟩ fun a w h=>?_
  replace h:=at_out (σ':=⟨[(0,aF s50 x0),(2,.p (.c (cN))),(3,aS 1),(4,aI (((i:Nat):Int)+1))],[(1,oR s50 ((List.take i x0)++([(x0.getD i (0,([],[])))])))]⟩) { ts:=[0,2,3,4],os:=[5],rn:=[(5,1)] } h (by kernel_rfl)
  exact ⟨i+1,at_eq h (st_congr2 (fun (d0:List T50) (d1:Int)=>(⟨[(0,aF s50 x0),(2,.p (.c (cN))),(3,aS 1),(4,aI d1)],[(1,oR s50 d0)]⟩:St)) (show (((List.take i x0)++([(x0.getD i (0,([],[])))])):List T50)=(List.take (i+1) x0) from by first | with_reducible rfl | (rw [take_snoc (z:=(0,([],[]))) (by omega)]) | rfl) (show (((i:Nat):Int)+1:Int)=(((i+1):Nat):Int) from by first | with_reducible rfl | (omega) | rfl)),(by first | omega | (refine ⟨?_,?_⟩<;>omega)),(by omega)⟩
 ·replace h1 : ¬ (((i : Nat) : Int) < ((List.length x0 : Nat) : Int)) := of_decide_eq_false h1
  refine wp_exit (then_exit (then_exit (in_hit (then_normal (wp_seq ?_)))))
  refine at_regq [] { ts:=[2],os:=[1] } [] gamOK hT h (by kernel_rfl) trivial fun a w h=>then_normal (wp_ret ?_)
  exact at_return ((List.take i x0),()) [] h (by kernel_rfl) trivial (congrArg (fun z=>(z,())) (show ((List.take i x0))=(idD s77) x0 from by (rw [take_all (by omega)];rfl)))

abbrev Q__impl_Recoder_clone:=(fun (x0:T79)=>Sh.fit s79 x0)
def S__impl_Recoder_clone:Sum:={ fid:=90,dom:=[s79],cod:=[s79],dp:=true,fz:=false,pre:=fun x=>Q__impl_Recoder_clone x.1,g:=fun x=>(((idD s79) x.1),()) }
def S__impl_Recoder_clone_tab:List (Nat×Sum):=[(129,S__impl_CodedPacket_clone)]
theorem S__impl_Recoder_clone_ok:FnOK Try.prog 90 S__impl_Recoder_clone:=by
 refine at_enter 24 (fun x=>⟨[(0,aG [cI x.1.1,cI x.1.2.1,cI x.1.2.2.1,.ro s50 x.1.2.2.2.1,cI x.1.2.2.2.2])],[]⟩) Try.func90 rfl (by kernel_rfl) (fun x=>rfl) ?_
 rintro w0 Z0 ⟨x0,u⟩ a w
 revert x0
 intro (x0:T79) hpre hlens h
 replace hpre:Q__impl_Recoder_clone x0:=hpre
 have hT:TabOK Try.prog S__impl_Recoder_clone_tab:=(.cons S__impl_CodedPacket_clone_ok .nil)
 have hf0:Sh.fit s79 x0:=hpre
 have hn0_1:List.length x0.2.2.2.1≤1073741824:=hf0.2.2.2.1.1
 refine wp_seq ?_
 refine at_regq [{ ids:=[1] },{ ids:=[2] }] { ts:=[1,2],os:=[1,2] } [] gamOK hT h (by kernel_rfl) trivial fun a w h=>then_normal (wp_seq ?_)
 refine at_regq [] { ts:=[1,2,3],os:=[1,2] } [] gamOK hT h (by kernel_rfl) trivial fun a w h=>then_normal (wp_seq ?_)
 refine at_regq [] { ts:=[1,2,3],os:=[1,2] } [] gamOK hT h (by kernel_rfl) trivial fun a w h=>then_normal (wp_seq (wp_seq ?_))
 refine at_regq [] { ts:=[1,2,9,10,11],os:=[1,2] } [] gamOK hT h (by kernel_rfl) trivial fun a w h=>then_normal (wp_block ?_)
 replace h:=at_out (σ':=⟨[(1,aP 1 0),(2,aP 2 0),(9,aF s50 x0.2.2.2.1),(10,aI ((List.length x0.2.2.2.1:Nat):Int)),(11,aI 0)],[(1,oX 79 [cI x0.1,cI x0.2.1,cI x0.2.2.1,.sl 3,cI x0.2.2.2.2]),(2,oX 79 [cI 0,cI 0,cI 0,cN,cI 0]),(3,oR s50 ([]:List T50))]⟩) { mt:=[⟨some 1,3,3,true,s50⟩],ts:=[1,2,9,10,11],os:=[1,2,3] } h (by kernel_rfl)
 refine at_loop (fun i:Nat=>(⟨[(1,aP 1 0),(2,aP 2 0),(9,aF s50 x0.2.2.2.1),(10,aI ((List.length x0.2.2.2.1:Nat):Int)),(11,aI ((i:Nat):Int))],[(1,oX 79 [cI x0.1,cI x0.2.1,cI x0.2.2.1,.sl 3,cI x0.2.2.2.2]),(2,oX 79 [cI 0,cI 0,cI 0,cN,cI 0]),(3,oR s50 (List.take i x0.2.2.2.1))]⟩:St)) (fun i=>i≤List.length x0.2.2.2.1) (fun i=>List.length x0.2.2.2.1 - i) (0) h (st_congr2 (fun (d0:List T50) (d1:Int)=>(⟨[(1,aP 1 0),(2,aP 2 0),(9,aF s50 x0.2.2.2.1),(10,aI ((List.length x0.2.2.2.1:Nat):Int)),(11,aI d1)],[(1,oX 79 [cI x0.1,cI x0.2.1,cI x0.2.2.1,.sl 3,cI x0.2.2.2.2]),(2,oX 79 [cI 0,cI 0,cI 0,cN,cI 0]),(3,oR s50 d0)]⟩:St)) (show (([]:List T50):List T50)=(List.take (0) x0.2.2.2.1) from by first | with_reducible rfl | (rfl) | rfl) (show (0:Int)=(((0):Nat):Int) from by first | with_reducible rfl | (rfl) | rfl)) (by first | omega | simp | (refine ⟨?_,?_⟩<;>first | omega | simp)) ?_
 intro i a w hok0 h
 have hlt:=len_take_le (xs:=x0.2.2.2.1) i
 refine wp_seq ?_
 refine at_regq [] { ts:=[1,2,9,10,11,12],os:=[1,2,3] } [] gamOK hT h (by kernel_rfl) trivial fun a w h=>then_normal (wp_seq ?_)
 refine at_test (decide (((i:Nat):Int) < ((List.length x0.2.2.2.1:Nat):Int))) h (by kernel_rfl) (fun h1=>?_) (fun h1=>?_)
 ·replace h1 : ((i : Nat) : Int) < ((List.length x0.2.2.2.1 : Nat) : Int) := of_decide_eq_true h1
  refine wp_skip (then_normal (wp_seq (wp_block (wp_seq ?_))))
  refine at_regq [{},{},{ ids:=[4] }] { ts:=[1,2,5,9,10,11],os:=[1,2,3,4] } [(0:Int)≤((i:Nat):Int)∧((i:Nat):Int) < ((List.length x0.2.2.2.1:Nat):Int)] gamOK hT h (by kernel_rfl) ⟨(by refine ⟨?_,?_⟩<;>(first | omega | (simp only [lsA];omega) | (simp<;>omega))),trivial⟩ fun a w h=>then_normal ?_
  refine at_anyq [{},{},{},{ ids:=[5,6] },{ ids:=[7] },{ ids:=[8] },{},{}] { ts:=[1,2,9,10,11],os:=[1,2,8] } [Q__impl_CodedPacket_clone (x0.2.2.2.1.getD i (0,([],[]))),(List.length (List.take i x0.2.2.2.1)+List.length ([(x0.2.2.2.1.getD i (0,([],[])))]))*56≤140737488355328] gamOK hT mixed h (by kernel_rfl) ⟨(by exact (Sh.fit_getD hf0.2.2.2.1 i)),(by (have hL0:=(show List.length (List.take i x0.2.2.2.1)≤1073741824 from ((Sh.fit_take hf0.2.2.2.1 i)).1);first | omega | (simp only [lsA];omega) | (simp<;>omega))),trivial⟩ fun a w h=>in_normal (then_normal ?_)
  refine at_regq [{ nw:=true }] { ts:=[1,2,9,10,11],os:=[1,2,8] } [I64 (((i:Nat):Int)+1)] gamOK hT h (by kernel_rfl) ⟨⟨by first | omega | (simp only [lsA];omega) | (simp<;>omega),by first | omega | (simp only [lsA];omega) | (simp<;>omega)⟩,trivial⟩ fun a w h=>?_
  replace h:=at_out (σ':=⟨[(1,aP 1 0),(2,aP 2 0),(9,aF s50 x0.2.2.2.1),(10,aI ((List.length x0.2.2.2.1:Nat):Int)),(11,aI (((i:Nat):Int)+1))],[(1,oX 79 [cI x0.1,cI x0.2.1,cI x0.2.2.1,.sl 3,cI x0.2.2.2.2]),(2,oX 79 [cI 0,cI 0,cI 0,cN,cI 0]),(3,oR s50 ((List.take i x0.2.2.2.1)++([(x0.2.2.2.1.getD i (0,([],[])))])))]⟩) { ts:=[1,2,9,10,11],os:=[1,2,8],rn:=[(8,3)] } h (by kernel_rfl)
  exact ⟨i+1,at_eq h (st_congr2 (fun (d0:List T50) (d1:Int)=>(⟨[(1,aP 1 0),(2,aP 2 0),(9,aF s50 x0.2.2.2.1),(10,aI ((List.length x0.2.2.2.1:Nat):Int)),(11,aI d1)],[(1,oX 79 [cI x0.1,cI x0.2.1,cI x0.2.2.1,.sl 3,cI x0.2.2.2.2]),(2,oX 79 [cI 0,cI 0,cI 0,cN,cI 0]),(3,oR s50 d0)]⟩:St)) (show (((List.take i x0.2.2.2.1)++([(x0.2.2.2.1.getD i (0,([],[])))])):List T50)=(List.take (i+1) x0.2.2.2.1) from by first | with_reducible rfl | (rw [take_snoc (z:=(0,([],[]))) (by omega)]) | rfl) (show (((i:Nat):Int)+1:Int)=(((i+1):Nat):Int) from by first | with_reducible rfl | (omega) | rfl)),(by first | omega | (refine ⟨?_,?_⟩<;>omega)),(by omega)⟩
 ·replace h1 : ¬ (((i : Nat) : Int) < ((List.length x0.2.2.2.1 : Nat) : Int)) := of_decide_eq_false h1
  refine wp_exit (then_exit (then_exit (in_hit (then_normal (wp_seq ?_)))))
  refine at_regq [] { ts:=[2],os:=[2,3] } [] gamOK hT h (by kernel_rfl) trivial fun a w h=>then_normal (wp_ret ?_)
  exact at_return ((x0.1,(x0.2.1,(x0.2.2.1,((List.take i x0.2.2.2.1),x0.2.2.2.2)))),()) [] h (by kernel_rfl) trivial (congrArg (fun z=>(z,())) (show ((x0.1,(x0.2.1,(x0.2.2.1,((List.take i x0.2.2.2.1),x0.2.2.2.2)))))=(idD s79) x0 from by (rw [take_all (by omega)];rfl)))

abbrev Q_spec_l15Copy:=(fun (x0:T79)=>Sh.fit s79 x0)
def S_spec_l15Copy:Sum:={ fid:=85,dom:=[s79],cod:=[s79],dp:=true,fz:=false,pre:=fun x=>Q_spec_l15Copy x.1,g:=fun x=>(((idD s79) x.1),()) }
def S_spec_l15Copy_tab:List (Nat×Sum):=[(125,S_spec_l11All)]
theorem S_spec_l15Copy_ok:FnOK Try.prog 85 S_spec_l15Copy:=by
 refine at_enter 10 (fun x=>⟨[(0,aG [cI x.1.1,cI x.1.2.1,cI x.1.2.2.1,.ro s50 x.1.2.2.2.1,cI x.1.2.2.2.2])],[]⟩) Try.func85 rfl (by kernel_rfl) (fun x=>rfl) ?_
 rintro w0 Z0 ⟨x0,u⟩ a w
 revert x0
 intro (x0:T79) hpre hlens h
 replace hpre:Q_spec_l15Copy x0:=hpre
 have hT:TabOK Try.prog S_spec_l15Copy_tab:=(.cons S_spec_l11All_ok .nil)
 have hf0:Sh.fit s79 x0:=hpre
 have hn0_1:List.length x0.2.2.2.1≤1073741824:=hf0.2.2.2.1.1
 refine wp_seq ?_
 refine at_regq [{ ids:=[1] },{ ids:=[2] }] { ts:=[1,2],os:=[1,2] } [] gamOK hT h (by kernel_rfl) trivial fun a w h=>then_normal (wp_seq ?_)
 refine at_regq [{},{ ids:=[3] }] { ts:=[1,2,3],os:=[1,2,3] } [] gamOK hT h (by kernel_rfl) trivial fun a w h=>then_normal (wp_seq ?_)
 refine at_regq [{},{},{ ids:=[4] }] { ts:=[2,3],os:=[2,3,4] } [Q_spec_l11All x0.2.2.2.1] gamOK hT h (by kernel_rfl) ⟨(by exact hf0.2.2.2.1),trivial⟩ fun a w h=>then_normal (wp_seq ?_)
 refine at_regq [] { ts:=[2],os:=[2,4] } [] gamOK hT h (by kernel_rfl) trivial fun a w h=>then_normal (wp_ret ?_)
 exact at_return (x0,()) [] h (by kernel_rfl) trivial (congrArg (fun z=>(z,())) (show (x0)=(idD s79) x0 from by rfl))

def bsF (p:Nat→Bool) (i j:Nat):Nat:=if h:i < j then (if p ((i+j) / 2)=true then bsF p ((i+j) / 2+1) j else bsF p i ((i+j) / 2)) else i
termination_by j - i
theorem bsF_up {p:Nat→Bool} {i j:Nat} (h:i < j) (hp:p ((i+j) / 2)=true):bsF p i j=bsF p ((i+j) / 2+1) j:=by rw [bsF,dif_pos h,if_pos hp]
theorem bsF_down {p:Nat→Bool} {i j:Nat} (h:i < j) (hp:p ((i+j) / 2)=false):bsF p i j=bsF p i ((i+j) / 2):=by rw [bsF,dif_pos h,if_neg (by rw [hp];decide)]
theorem bsF_end {p:Nat→Bool} {i j:Nat} (h:¬ i < j):bsF p i j=i:=by rw [bsF,dif_neg h]
theorem bsF_bd (p:Nat→Bool):∀ (d i j:Nat),j - i≤d→i≤j→i≤bsF p i j∧bsF p i j≤j
 | 0,i,j,h,hij=>by rw [bsF_end (by omega)];omega
 | d + 1, i, j, h, hij => by
  by_cases hl:i < j
  ·cases hp : p ((i + j) / 2) with
   | true=>rw [bsF_up hl hp];have:=bsF_bd p d ((i+j) / 2+1) j (by omega) (by omega);omega
   | false=>rw [bsF_down hl hp];have:=bsF_bd p d i ((i+j) / 2) (by omega) (by omega);omega
  ·rw [bsF_end hl];omega
theorem bsF_first {p:Nat→Bool} {n:Nat} (hm:∀ a b,a≤b→b < n→p b=true→p a=true):∀ (d i j:Nat),j - i≤d→i≤j→j≤n→(∀ a,a < i→p a=true)→(∀ a,j≤a→a < n→p a=false) →
  (∀ a,a < bsF p i j→p a=true)∧∀ a,bsF p i j≤a→a < n→p a=false
 | 0,i,j,h,hij,hjn,h1,h2=>by rw [bsF_end (by omega)];exact ⟨h1,fun a ha hn=>h2 a (by omega) hn⟩
 | d + 1, i, j, h, hij, hjn, h1, h2 => by
  by_cases hl:i < j
  ·cases hp : p ((i + j) / 2) with
   | true=>rw [bsF_up hl hp];exact bsF_first hm d _ j (by omega) (by omega) hjn (fun a ha=>hm a _ (by omega) (by omega) hp) h2
   | false =>
    rw [bsF_down hl hp]
    refine bsF_first hm d i _ (by omega) (by omega) (by omega) h1 fun a ha hn=>?_
    cases hpa:p a with
    | false=>rfl
    | true=>rw [hm _ a ha hn hpa] at hp;cases hp
  ·rw [bsF_end hl];exact ⟨h1,fun a ha hn=>h2 a (by omega) hn⟩
theorem half_eq {i j:Nat} (h:i+j≤2147483648):IntKind.i64.wrap (Int.fdiv (IntKind.u64.wrap ((i:Int)+(j:Int))) (2 ^ (min (1:Int).toNat (IntKind.u64).bits)))=(((i+j) / 2:Nat):Int):=by
 have e1:IntKind.u64.wrap ((i:Int)+(j:Int))=((i+j:Nat):Int):=by
  simp only [IntKind.wrap,IntKind.bits,IntKind.signed]
  simp
  omega
 have e2:(2:Int) ^ (min (1:Int).toNat (IntKind.u64).bits)=2:=by decide
 rw [e1,e2,Int.fdiv_eq_ediv_of_nonneg _ (by omega),IntKind.wrap_i64]
 omega
def D_cmp_isNaN_int_:=(fun (_:Int)=>false)
def S_cmp_isNaN_int_:Sum:={ fid:=144,dom:=[(.int 3)],cod:=[(.bool 4)],dp:=true,fz:=false,pre:=fun x=>True,g:=fun x=>((D_cmp_isNaN_int_ x.1),()) }
def S_cmp_isNaN_int__tab:List (Nat×Sum):=[]
theorem S_cmp_isNaN_int__ok:FnOK Try.prog 144 S_cmp_isNaN_int_:=by
 refine at_enter 6 (fun x=>⟨[(0,aI x.1)],[]⟩) Try.func144 rfl (by kernel_rfl) (fun x=>rfl) ?_
 rintro w0 Z0 ⟨x0,u⟩ a w
 revert x0
 intro (x0:Int) hpre hlens h
 have hT:TabOK Try.prog S_cmp_isNaN_int__tab:=.nil
 refine wp_seq ?_
 refine at_regq [] { ts:=[0,2],os:=[] } [] gamOK hT h (by kernel_rfl) trivial fun a w h=>then_normal (wp_seq ?_)
 refine at_regq [] { ts:=[2],os:=[] } [] gamOK hT h (by kernel_rfl) trivial fun a w h=>then_normal (wp_ret ?_)
 exact at_return (!decide (x0=x0),()) [] h (by kernel_rfl) trivial (congrArg (fun z=>(z,())) (show (!decide (x0=x0))=D_cmp_isNaN_int_ x0 from by unfold D_cmp_isNaN_int_;simp))

theorem shr1 {n:Nat}:Int.fdiv (n:Int) (2 ^ (min (1:Int).toNat (IntKind.i64).bits))=((n / 2:Nat):Int):=by
 have e2:(2:Int) ^ (min (1:Int).toNat (IntKind.i64).bits)=2:=by decide
 rw [e2,Int.fdiv_eq_ediv_of_nonneg _ (by omega)];omega
theorem and1 {n:Nat} (h:n≤4611686018427387904):IntKind.i64.wrap ((BitVec.ofInt (IntKind.i64).bits (n:Int) &&& BitVec.ofInt (IntKind.i64).bits 1).toNat:Int)=((n % 2:Nat):Int):=by
 have e:(BitVec.ofInt (IntKind.i64).bits (n:Int) &&& BitVec.ofInt (IntKind.i64).bits 1).toNat=n % 2:=by
  rw [BitVec.toNat_and]
  have h1:(BitVec.ofInt (IntKind.i64).bits (n:Int)).toNat=n:=by
   rw [BitVec.toNat_ofInt]
   simp [IntKind.bits]
   omega
  have h2:(BitVec.ofInt (IntKind.i64).bits 1).toNat=1:=by decide
  rw [h1,h2,Nat.and_one_is_mod]
 rw [e,IntKind.wrap_i64];omega
theorem lead_idx:∀ {xs:List Int},idxF (fun e=>!decide (e=0)) xs=LA.leadS xs
 | []=>rfl
 | x :: l => by
  have ih:=lead_idx (xs:=l)
  simp only [idxF,LA.leadS,ih]
  by_cases h:x=0
  ·rw [if_neg (show ¬ (!decide (x=0))=true by simp [h]),if_neg (show ¬ x≠0 from fun e=>e h)]
  ·rw [if_pos (show (!decide (x=0))=true by simp [h]),if_pos h]
def powP (a n m:Int):Prop:=(0≤a∧a < m)∧(0≤n∧n≤4611686018427387904)∧1 < m∧m≤1048576
def powD (a n m:Int):Int:=LA.pmL m 1 a n.toNat
def powOK (x0 x1 x2:Int) (q:Int×Int×Nat):Prop:=LA.pmL x2 q.1 q.2.1 q.2.2=powD x0 x1 x2∧(0≤q.1∧q.1 < x2)∧(0≤q.2.1∧q.2.1 < x2)∧q.2.2≤4611686018427387904
theorem powOK_odd {x0 x1 x2:Int} {q:Int×Int×Nat} (h:powOK x0 x1 x2 q) (hm:1 < x2) (h2:q.2.2 % 2=1):powOK x0 x1 x2 ((q.1*q.2.1).tmod x2,(q.2.1*q.2.1).tmod x2,q.2.2 / 2):=by
 obtain ⟨h0,⟨h3,h4⟩,⟨h5,h6⟩,h7⟩:=h
 exact ⟨by rw [← h0];exact (LA.pmL_odd h2).symm,LA.tmod_lt (Int.mul_nonneg h3 h5) (by omega),LA.tmod_lt (Int.mul_nonneg h5 h5) (by omega),by dsimp only;omega⟩
theorem powOK_even {x0 x1 x2:Int} {q:Int×Int×Nat} (h:powOK x0 x1 x2 q) (hm:1 < x2) (h1:q.2.2≠0) (h2:q.2.2 % 2=0):powOK x0 x1 x2 (q.1,(q.2.1*q.2.1).tmod x2,q.2.2 / 2):=by
 obtain ⟨h0,⟨h3,h4⟩,⟨h5,h6⟩,h7⟩:=h
 exact ⟨by rw [← h0];exact (LA.pmL_even h1 h2).symm,⟨h3,h4⟩,LA.tmod_lt (Int.mul_nonneg h5 h5) (by omega),by dsimp only;omega⟩
def invF (x:Int):Int:=if isEl x=true then LA.invS x else 0
theorem invS_zero:LA.invS 0=0:=by
 have h:=LA.pmL_bd (m:=1019) (by decide) 10 1017 1 0 (by decide) (by decide) (by decide) (by decide)
 have h2:=LA.pmL_c 10 1017 1 0 (by decide) (by decide) (by decide)
 have h3:LA.c (LA.invS 0)=0:=by unfold LA.invS;rw [h2];decide +kernel
 exact (LA.c_ne ⟨h.1,by have:=h.2;show LA.pmL 1019 1 0 1017≤1018;omega⟩).1 h3
theorem invF_bd (x:Int):0≤invF x∧invF x≤1018:=by
 unfold invF
 split
 ·rename_i h
  have hx:=isEl_t h
  have:=LA.pmL_bd (m:=1019) (by decide) 10 1017 1 x (by decide) (by decide) (by decide) hx.1
  unfold LA.invS;omega
 ·omega
theorem invF_el {x:Int} (h:0≤x∧x≤1018):invF x=LA.invS x:=if_pos (inR_true h)
theorem elB {v:List Int} (h:∀ x∈v,LA.El x) (j:Nat):0≤v.getD j 0∧v.getD j 0≤1018:=LA.VokB.at_ (n:=v.length) ⟨rfl,h⟩ j
def addOK (a b:List Int) (k:Int):Prop:=List.length a=List.length b∧(0≤k∧k≤1019)∧(∀ j,0≤a.getD j 0∧a.getD j 0≤1018)∧(∀ j,0≤b.getD j 0∧b.getD j 0≤1018)
def addTo (a b:List Int) (k:Int) (i:Nat):List Int:=(LA.addS a b k).take i++a.drop i
theorem addTo_len {a b:List Int} {k:Int} {i:Nat} (h:a.length=b.length) (hi:i≤a.length):(addTo a b k i).length=a.length:=by
 simp [addTo,LA.addS_len h];omega
theorem addTo_get {a b:List Int} {k:Int} {i:Nat} (h:a.length=b.length) (hi:i < a.length):(addTo a b k i).getD i 0=a.getD i 0:=by
 have hl:(List.take i (LA.addS a b k)).length=i:=by simp [LA.addS_len h];omega
 unfold addTo
 simp only [List.getD_eq_getElem?_getD]
 rw [List.getElem?_append_right (by omega),hl,List.getElem?_drop];simp
theorem addTo_set {a b:List Int} {k:Int} {i:Nat} (h:a.length=b.length) (hi:i < a.length):(addTo a b k i).set i ((a.getD i 0+k*b.getD i 0).tmod 1019)=addTo a b k (i+1):=by
 have hl:(List.take i (LA.addS a b k)).length=i:=by simp [LA.addS_len h];omega
 unfold addTo
 rw [List.set_append_right _ _ (by omega),hl,Nat.sub_self,take_snoc (z:=0) (by rw [LA.addS_len h];exact hi),LA.addS_at h,List.append_assoc]
 congr 1
 rw [← List.getElem_cons_drop hi,List.set_cons_zero];rfl
theorem addTo_all {a b:List Int} {k:Int} {i:Nat} (h:a.length=b.length) (hi:a.length≤i):addTo a b k i=LA.addS a b k:=by
 unfold addTo
 rw [take_all (by rw [LA.addS_len h];exact hi),List.drop_eq_nil_of_le hi,List.append_nil]
theorem addS_zero {v:List Int} {k:Int}:LA.addS (List.replicate v.length 0) v k=LA.scaleS v k:=by
 unfold LA.addS LA.scaleS
 induction v with
 | nil=>rfl
 | cons x l ih =>
  rw [List.length_cons,List.replicate_succ,List.zipWith_cons_cons,List.map_cons,ih,Int.zero_add,Int.mul_comm]
theorem validV_el {v:List Int} (h:List.all v isEl=true):∀ x∈v,LA.El x:=fun x hx=>isEl_t (List.all_eq_true.1 h x hx)
abbrev scF (k x:Int):Int:=(x*k).tmod 1019
theorem rep_get (n j:Nat):(List.replicate n (0:Int)).getD j 0=0:=by
 rw [List.getD_eq_getElem?_getD,List.getElem?_replicate];split<;>rfl
theorem addS_take_le (a b:List Int) (k:Int) (i:Nat):List.length (List.take i (LA.addS a b k))≤List.length a:=by simp [LA.addS];omega
def prevL (m:List (List Int)) (i:Nat):Int:=if i=0 then -1 else LA.leadS (m.getD (i - 1) [])
theorem prevL_bd (m:List (List Int)) (i:Nat):-1≤prevL m i:=by
 unfold prevL;split
 ·omega
 ·have:=LA.leadS_bd (m.getD (i - 1) []);omega
def clrB (m:List (List Int)) (i k:Nat):Bool:=decide (k=i) || decide ((m.getD k []).getD (LA.leadS (m.getD i [])).toNat 0=0)
theorem clrB_t {m:List (List Int)} {i k:Nat} (h:(k:Int)=(i:Int)∨(m.getD k []).getD (LA.leadS (m.getD i [])).toNat 0=0):clrB m i k=true:=by
 unfold clrB;rw [Bool.or_eq_true,decide_eq_true_iff,decide_eq_true_iff];omega
theorem clrB_f {m:List (List Int)} {i k:Nat} (h1:¬ (k:Int)=(i:Int)) (h2:¬ (m.getD k []).getD (LA.leadS (m.getD i [])).toNat 0=0):clrB m i k=false:=by
 unfold clrB;rw [Bool.or_eq_false_iff,decide_eq_false_iff_not,decide_eq_false_iff_not];omega
def redB (m:List (List Int)) (i:Nat):Bool:=decide (prevL m i < LA.leadS (m.getD i [])) && (decide ((m.getD i []).getD (LA.leadS (m.getD i [])).toNat 0=1) && allN (clrB m i) m.length)
theorem redB_t {m:List (List Int)} {i:Nat} (h1:prevL m i < LA.leadS (m.getD i [])) (h2:(m.getD i []).getD (LA.leadS (m.getD i [])).toNat 0=1) (h3:allN (clrB m i) m.length=true):redB m i=true:=by
 unfold redB;rw [decide_eq_true h1,decide_eq_true h2,h3];rfl
theorem redB_f1 {m:List (List Int)} {i:Nat} (h:LA.leadS (m.getD i [])≤prevL m i):redB m i=false:=by
 unfold redB;rw [decide_eq_false (by omega)];rfl
theorem redB_f2 {m:List (List Int)} {i:Nat} (h:¬ (m.getD i []).getD (LA.leadS (m.getD i [])).toNat 0=1):redB m i=false:=by
 unfold redB;rw [decide_eq_false h,Bool.false_and,Bool.and_false]
theorem redB_f3 {m:List (List Int)} {i:Nat} (h:allN (clrB m i) m.length=false):redB m i=false:=by
 unfold redB;rw [h,Bool.and_false,Bool.and_false]
theorem redB_iff {m:List (List Int)} {i:Nat}:redB m i=true↔LA.redAt m i:=by
 unfold redB LA.redAt prevL
 rw [Bool.and_eq_true,Bool.and_eq_true,decide_eq_true_iff,decide_eq_true_iff,allN_iff]
 constructor
 ·rintro ⟨h1, h2, h3⟩
  refine ⟨h1,h2,fun k hk hne=>?_⟩
  have:=h3 k hk
  unfold clrB at this
  rw [Bool.or_eq_true,decide_eq_true_iff,decide_eq_true_iff] at this
  rcases this with h | h
  ·exact absurd h hne
  ·exact h
 ·rintro ⟨h1, h2, h3⟩
  refine ⟨h1,h2,fun k hk=>?_⟩
  unfold clrB
  rw [Bool.or_eq_true,decide_eq_true_iff,decide_eq_true_iff]
  by_cases e:k=i
  ·exact Or.inl e
  ·exact Or.inr (h3 k hk e)
theorem red_all {m:List (List Int)} {n:Nat} (h:∀ r∈m,LA.VokB n r):allN (redB m) m.length=true↔LA.RedL n m:=by
 rw [← LA.redAt_iff h,allN_iff]
 exact ⟨fun g i hi=>redB_iff.1 (g i hi),fun g i hi=>redB_iff.2 (g i hi)⟩
def S_impl_powMod:Sum:={ fid:=164,dom:=[(.int 3),(.int 3),(.int 3)],cod:=[(.int 3)],dp:=true,fz:=false,pre:=fun x=>powP x.1 x.2.1 x.2.2.1,g:=fun x=>((powD x.1 x.2.1 x.2.2.1),()) }
def S_impl_powMod_tab:List (Nat×Sum):=[]
theorem S_impl_powMod_ok:FnOK Try.prog 164 S_impl_powMod:=by
 refine at_enter 26 (fun x=>⟨[(0,aI x.1),(1,aI x.2.1),(2,aI x.2.2.1)],[]⟩) Try.func164 rfl (by kernel_rfl) (fun x=>rfl) ?_
 rintro w0 Z0 ⟨x0,x1,x2,u⟩ a w
 revert x0 x1 x2
 intro (x0:Int) (x1:Int) (x2:Int) hpre hlens h
 replace hpre:powP x0 x1 x2:=hpre
 have hT:TabOK Try.prog S_impl_powMod_tab:=.nil
 have hp:(0≤x0∧x0 < x2)∧(0≤x1∧x1≤4611686018427387904)∧1 < x2∧x2≤1048576:=hpre
 refine wp_seq ?_
 refine at_regq [] { ts:=[0,1,2,6],os:=[] } [] gamOK hT h (by kernel_rfl) trivial fun a w h=>then_normal (wp_seq ?_)
 refine at_regq [] { ts:=[0,1,2,6,7],os:=[] } [] gamOK hT h (by kernel_rfl) trivial fun a w h=>then_normal (wp_seq (wp_block ?_))
 replace h:=at_out (σ':=⟨[(0,aI x0),(1,aI x1),(2,aI x2),(6,aI 0),(7,aI 1)],[]⟩) { ts:=[0,1,2,6,7],os:=[] } h (by kernel_rfl)
 refine at_loop (fun q:(Int×Int×Nat)=>(⟨[(0,aI q.2.1),(1,aI ((q.2.2:Nat):Int)),(2,aI x2),(6,aI 0),(7,aI q.1)],[]⟩:St)) (fun q=>powOK x0 x1 x2 q) (fun q=>q.2.2) ((1,x0,x1.toNat)) h (st_congr3 (fun (d0:Int) (d1:Int) (d2:Int)=>(⟨[(0,aI d1),(1,aI d2),(2,aI x2),(6,aI 0),(7,aI d0)],[]⟩:St)) (show (1:Int)=((1,x0,x1.toNat)).1 from by first | with_reducible rfl | (show x1=((x1.toNat:Nat):Int);omega) | rfl) (show (x0:Int)=((1,x0,x1.toNat)).2.1 from by first | with_reducible rfl | (show x1=((x1.toNat:Nat):Int);omega) | rfl) (show (x1:Int)=((((1,x0,x1.toNat)).2.2:Nat):Int) from by first | with_reducible rfl | (show x1=((x1.toNat:Nat):Int);omega) | rfl)) (by exact ⟨rfl,⟨(show (0:Int)≤1 by decide),by dsimp only;omega⟩,⟨by dsimp only;omega,by dsimp only;omega⟩,by dsimp only;omega⟩) ?_
 intro q a w hok0 h
 have hq:=hok0.2
 refine wp_seq (wp_seq ?_)
 refine at_regq [] { ts:=[0,1,2,6,7,9],os:=[] } [] gamOK hT h (by kernel_rfl) trivial fun a w h=>then_normal ?_
 refine at_test (decide (((q.2.2:Nat):Int) > 0)) h (by kernel_rfl) (fun h1=>?_) (fun h1=>?_)
 ·replace h1 : ((q.2.2 : Nat) : Int) > 0 := of_decide_eq_true h1
  refine wp_skip (then_normal (wp_seq (wp_block (wp_seq (wp_seq ?_)))))
  refine at_regq [{},{ hint:=some (aI ((q.2.2 % 2:Nat):Int)) }] { ts:=[0,1,2,6,7,14],os:=[] } [(AV.p (.c (.v (.int .i64 (IntKind.i64.wrap ((BitVec.ofInt (IntKind.i64).bits ((q.2.2:Nat):Int) &&& BitVec.ofInt (IntKind.i64).bits 1).toNat:Int)))))=AV.p (.c (.v (.int .i64 (((q.2.2 % 2:Nat):Int))))))] gamOK hT h (by kernel_rfl) ⟨hint_int (by exact and1 (by omega)),trivial⟩ fun a w h=>then_normal ?_
  refine at_test (decide (((q.2.2 % 2:Nat):Int)=1)) h (by kernel_rfl) (fun h2=>?_) (fun h2=>?_)
  ·replace h2 : ((q.2.2 % 2 : Nat) : Int) = 1 := of_decide_eq_true h2
   refine at_regq [{},{},{ nw:=true }] { ts:=[0,1,2,6,7],os:=[] } [I64 (q.1*q.2.1),(x2:Int)≠0] gamOK hT h (by kernel_rfl) ⟨⟨by (have hA0:=mul_f q.1 q.2.1;first | omega | (simp only [lsA];omega) | (simp<;>omega)),by (have hA0:=mul_f q.1 q.2.1;first | omega | (simp only [lsA];omega) | (simp<;>omega))⟩,(by first | omega | (simp only [lsA];omega) | (simp<;>omega)),trivial⟩ fun a w h=>then_normal ?_
   refine at_regq [{},{},{ nw:=true }] { ts:=[0,1,2,6,7],os:=[] } [I64 (q.2.1*q.2.1),(x2:Int)≠0] gamOK hT h (by kernel_rfl) ⟨⟨by (have hA0:=mul_f q.2.1 q.2.1;first | omega | (simp only [lsA];omega) | (simp<;>omega)),by (have hA0:=mul_f q.2.1 q.2.1;first | omega | (simp only [lsA];omega) | (simp<;>omega))⟩,(by first | omega | (simp only [lsA];omega) | (simp<;>omega)),trivial⟩ fun a w h=>in_normal (then_normal ?_)
   refine at_regq [{},{ hint:=some (aI ((q.2.2 / 2:Nat):Int)) }] { ts:=[0,1,2,6,7],os:=[] } [(0:Int)≤1,(AV.p (.c (.v (.int .i64 ((Int.fdiv ((q.2.2:Nat):Int) (2 ^ (min (1:Int).toNat (IntKind.i64).bits)))))))=AV.p (.c (.v (.int .i64 (((q.2.2 / 2:Nat):Int))))))] gamOK hT h (by kernel_rfl) ⟨(by first | omega | (simp only [lsA];omega) | (simp<;>omega)),hint_int (by exact shr1),trivial⟩ fun a w h=>?_
   replace h:=at_out (σ':=⟨[(0,aI (Int.tmod (q.2.1*q.2.1) x2)),(1,aI ((q.2.2 / 2:Nat):Int)),(2,aI x2),(6,aI 0),(7,aI (Int.tmod (q.1*q.2.1) x2))],[]⟩) { ts:=[0,1,2,6,7],os:=[] } h (by kernel_rfl)
   exact ⟨((q.1*q.2.1).tmod x2,(q.2.1*q.2.1).tmod x2,q.2.2 / 2),at_eq h (st_congr3 (fun (d0:Int) (d1:Int) (d2:Int)=>(⟨[(0,aI d1),(1,aI d2),(2,aI x2),(6,aI 0),(7,aI d0)],[]⟩:St)) (show ((Int.tmod (q.1*q.2.1) x2):Int)=(((q.1*q.2.1).tmod x2,(q.2.1*q.2.1).tmod x2,q.2.2 / 2)).1 from by first | with_reducible rfl | (rfl) | rfl) (show ((Int.tmod (q.2.1*q.2.1) x2):Int)=(((q.1*q.2.1).tmod x2,(q.2.1*q.2.1).tmod x2,q.2.2 / 2)).2.1 from by first | with_reducible rfl | (rfl) | rfl) (show (((q.2.2 / 2:Nat):Int):Int)=(((((q.1*q.2.1).tmod x2,(q.2.1*q.2.1).tmod x2,q.2.2 / 2)).2.2:Nat):Int) from by first | with_reducible rfl | (rfl) | rfl)),(by first | exact powOK_odd hok0 (by omega) (by omega) | exact powOK_even hok0 (by omega) (by omega) (by omega)),(by dsimp only;omega)⟩
  ·replace h2 : ¬ (((q.2.2 % 2 : Nat) : Int) = 1) := of_decide_eq_false h2
   refine wp_skip (then_normal ?_)
   refine at_regq [{},{},{ nw:=true }] { ts:=[0,1,2,6,7],os:=[] } [I64 (q.2.1*q.2.1),(x2:Int)≠0] gamOK hT h (by kernel_rfl) ⟨⟨by (have hA0:=mul_f q.2.1 q.2.1;first | omega | (simp only [lsA];omega) | (simp<;>omega)),by (have hA0:=mul_f q.2.1 q.2.1;first | omega | (simp only [lsA];omega) | (simp<;>omega))⟩,(by first | omega | (simp only [lsA];omega) | (simp<;>omega)),trivial⟩ fun a w h=>in_normal (then_normal ?_)
   refine at_regq [{},{ hint:=some (aI ((q.2.2 / 2:Nat):Int)) }] { ts:=[0,1,2,6,7],os:=[] } [(0:Int)≤1,(AV.p (.c (.v (.int .i64 ((Int.fdiv ((q.2.2:Nat):Int) (2 ^ (min (1:Int).toNat (IntKind.i64).bits)))))))=AV.p (.c (.v (.int .i64 (((q.2.2 / 2:Nat):Int))))))] gamOK hT h (by kernel_rfl) ⟨(by first | omega | (simp only [lsA];omega) | (simp<;>omega)),hint_int (by exact shr1),trivial⟩ fun a w h=>?_
   replace h:=at_out (σ':=⟨[(0,aI (Int.tmod (q.2.1*q.2.1) x2)),(1,aI ((q.2.2 / 2:Nat):Int)),(2,aI x2),(6,aI 0),(7,aI q.1)],[]⟩) { ts:=[0,1,2,6,7],os:=[] } h (by kernel_rfl)
   exact ⟨(q.1,(q.2.1*q.2.1).tmod x2,q.2.2 / 2),at_eq h (st_congr3 (fun (d0:Int) (d1:Int) (d2:Int)=>(⟨[(0,aI d1),(1,aI d2),(2,aI x2),(6,aI 0),(7,aI d0)],[]⟩:St)) (show (q.1:Int)=((q.1,(q.2.1*q.2.1).tmod x2,q.2.2 / 2)).1 from by first | with_reducible rfl | (rfl) | rfl) (show ((Int.tmod (q.2.1*q.2.1) x2):Int)=((q.1,(q.2.1*q.2.1).tmod x2,q.2.2 / 2)).2.1 from by first | with_reducible rfl | (rfl) | rfl) (show (((q.2.2 / 2:Nat):Int):Int)=((((q.1,(q.2.1*q.2.1).tmod x2,q.2.2 / 2)).2.2:Nat):Int) from by first | with_reducible rfl | (rfl) | rfl)),(by first | exact powOK_odd hok0 (by omega) (by omega) | exact powOK_even hok0 (by omega) (by omega) (by omega)),(by dsimp only;omega)⟩
 ·replace h1 : ¬ (((q.2.2 : Nat) : Int) > 0) := of_decide_eq_false h1
  refine wp_exit (then_exit (then_exit (in_hit (then_normal (wp_seq ?_)))))
  refine at_regq [] { ts:=[6],os:=[] } [] gamOK hT h (by kernel_rfl) trivial fun a w h=>then_normal (wp_ret ?_)
  exact at_return (q.1,()) [] h (by kernel_rfl) trivial (congrArg (fun z=>(z,())) (show (q.1)=powD x0 x1 x2 from by (have e:=hok0.1;rw [show q.2.2=0 by omega,LA.pmL_zero] at e;exact e)))

def S_spec_l4Pow:Sum:={ fid:=166,dom:=[(.int 3),(.int 3),(.int 3)],cod:=[(.int 3)],dp:=true,fz:=false,pre:=fun x=>powP x.1 x.2.1 x.2.2.1,g:=fun x=>((powD x.1 x.2.1 x.2.2.1),()) }
def S_spec_l4Pow_tab:List (Nat×Sum):=[]
theorem S_spec_l4Pow_ok:FnOK Try.prog 166 S_spec_l4Pow:=by
 refine at_enter 26 (fun x=>⟨[(0,aI x.1),(1,aI x.2.1),(2,aI x.2.2.1)],[]⟩) Try.func166 rfl (by kernel_rfl) (fun x=>rfl) ?_
 rintro w0 Z0 ⟨x0,x1,x2,u⟩ a w
 revert x0 x1 x2
 intro (x0:Int) (x1:Int) (x2:Int) hpre hlens h
 replace hpre:powP x0 x1 x2:=hpre
 have hT:TabOK Try.prog S_spec_l4Pow_tab:=.nil
 have hp:(0≤x0∧x0 < x2)∧(0≤x1∧x1≤4611686018427387904)∧1 < x2∧x2≤1048576:=hpre
 refine wp_seq ?_
 refine at_regq [] { ts:=[0,1,2,6],os:=[] } [] gamOK hT h (by kernel_rfl) trivial fun a w h=>then_normal (wp_seq ?_)
 refine at_regq [] { ts:=[0,1,2,6,7],os:=[] } [] gamOK hT h (by kernel_rfl) trivial fun a w h=>then_normal (wp_seq (wp_block ?_))
 replace h:=at_out (σ':=⟨[(0,aI x0),(1,aI x1),(2,aI x2),(6,aI 0),(7,aI 1)],[]⟩) { ts:=[0,1,2,6,7],os:=[] } h (by kernel_rfl)
 refine at_loop (fun q:(Int×Int×Nat)=>(⟨[(0,aI q.2.1),(1,aI ((q.2.2:Nat):Int)),(2,aI x2),(6,aI 0),(7,aI q.1)],[]⟩:St)) (fun q=>powOK x0 x1 x2 q) (fun q=>q.2.2) ((1,x0,x1.toNat)) h (st_congr3 (fun (d0:Int) (d1:Int) (d2:Int)=>(⟨[(0,aI d1),(1,aI d2),(2,aI x2),(6,aI 0),(7,aI d0)],[]⟩:St)) (show (1:Int)=((1,x0,x1.toNat)).1 from by first | with_reducible rfl | (show x1=((x1.toNat:Nat):Int);omega) | rfl) (show (x0:Int)=((1,x0,x1.toNat)).2.1 from by first | with_reducible rfl | (show x1=((x1.toNat:Nat):Int);omega) | rfl) (show (x1:Int)=((((1,x0,x1.toNat)).2.2:Nat):Int) from by first | with_reducible rfl | (show x1=((x1.toNat:Nat):Int);omega) | rfl)) (by exact ⟨rfl,⟨(show (0:Int)≤1 by decide),by dsimp only;omega⟩,⟨by dsimp only;omega,by dsimp only;omega⟩,by dsimp only;omega⟩) ?_
 intro q a w hok0 h
 have hq:=hok0.2
 refine wp_seq (wp_seq ?_)
 refine at_regq [] { ts:=[0,1,2,6,7,9],os:=[] } [] gamOK hT h (by kernel_rfl) trivial fun a w h=>then_normal ?_
 refine at_test (decide (((q.2.2:Nat):Int) > 0)) h (by kernel_rfl) (fun h1=>?_) (fun h1=>?_)
 ·replace h1 : ((q.2.2 : Nat) : Int) > 0 := of_decide_eq_true h1
  refine wp_skip (then_normal (wp_block (wp_seq (wp_seq ?_))))
  refine at_regq [{},{ hint:=some (aI ((q.2.2 % 2:Nat):Int)) }] { ts:=[0,1,2,6,7,12],os:=[] } [(AV.p (.c (.v (.int .i64 (IntKind.i64.wrap ((BitVec.ofInt (IntKind.i64).bits ((q.2.2:Nat):Int) &&& BitVec.ofInt (IntKind.i64).bits 1).toNat:Int)))))=AV.p (.c (.v (.int .i64 (((q.2.2 % 2:Nat):Int))))))] gamOK hT h (by kernel_rfl) ⟨hint_int (by exact and1 (by omega)),trivial⟩ fun a w h=>then_normal ?_
  refine at_test (decide (((q.2.2 % 2:Nat):Int)=1)) h (by kernel_rfl) (fun h2=>?_) (fun h2=>?_)
  ·replace h2 : ((q.2.2 % 2 : Nat) : Int) = 1 := of_decide_eq_true h2
   refine at_regq [{},{},{ nw:=true }] { ts:=[0,1,2,6,7],os:=[] } [I64 (q.1*q.2.1),(x2:Int)≠0] gamOK hT h (by kernel_rfl) ⟨⟨by (have hA0:=mul_f q.1 q.2.1;first | omega | (simp only [lsA];omega) | (simp<;>omega)),by (have hA0:=mul_f q.1 q.2.1;first | omega | (simp only [lsA];omega) | (simp<;>omega))⟩,(by first | omega | (simp only [lsA];omega) | (simp<;>omega)),trivial⟩ fun a w h=>then_normal (wp_seq ?_)
   refine at_regq [{},{},{ nw:=true }] { ts:=[0,1,2,6,7],os:=[] } [I64 (q.2.1*q.2.1),(x2:Int)≠0] gamOK hT h (by kernel_rfl) ⟨⟨by (have hA0:=mul_f q.2.1 q.2.1;first | omega | (simp only [lsA];omega) | (simp<;>omega)),by (have hA0:=mul_f q.2.1 q.2.1;first | omega | (simp only [lsA];omega) | (simp<;>omega))⟩,(by first | omega | (simp only [lsA];omega) | (simp<;>omega)),trivial⟩ fun a w h=>then_normal ?_
   refine at_regq [{},{ hint:=some (aI ((q.2.2 / 2:Nat):Int)) }] { ts:=[0,1,2,6,7],os:=[] } [(0:Int)≤1,(AV.p (.c (.v (.int .i64 ((Int.fdiv ((q.2.2:Nat):Int) (2 ^ (min (1:Int).toNat (IntKind.i64).bits)))))))=AV.p (.c (.v (.int .i64 (((q.2.2 / 2:Nat):Int))))))] gamOK hT h (by kernel_rfl) ⟨(by first | omega | (simp only [lsA];omega) | (simp<;>omega)),hint_int (by exact shr1),trivial⟩ fun a w h=>in_normal ?_
   replace h:=at_out (σ':=⟨[(0,aI (Int.tmod (q.2.1*q.2.1) x2)),(1,aI ((q.2.2 / 2:Nat):Int)),(2,aI x2),(6,aI 0),(7,aI (Int.tmod (q.1*q.2.1) x2))],[]⟩) { ts:=[0,1,2,6,7],os:=[] } h (by kernel_rfl)
   exact ⟨((q.1*q.2.1).tmod x2,(q.2.1*q.2.1).tmod x2,q.2.2 / 2),at_eq h (st_congr3 (fun (d0:Int) (d1:Int) (d2:Int)=>(⟨[(0,aI d1),(1,aI d2),(2,aI x2),(6,aI 0),(7,aI d0)],[]⟩:St)) (show ((Int.tmod (q.1*q.2.1) x2):Int)=(((q.1*q.2.1).tmod x2,(q.2.1*q.2.1).tmod x2,q.2.2 / 2)).1 from by first | with_reducible rfl | (rfl) | rfl) (show ((Int.tmod (q.2.1*q.2.1) x2):Int)=(((q.1*q.2.1).tmod x2,(q.2.1*q.2.1).tmod x2,q.2.2 / 2)).2.1 from by first | with_reducible rfl | (rfl) | rfl) (show (((q.2.2 / 2:Nat):Int):Int)=(((((q.1*q.2.1).tmod x2,(q.2.1*q.2.1).tmod x2,q.2.2 / 2)).2.2:Nat):Int) from by first | with_reducible rfl | (rfl) | rfl)),(by first | exact powOK_odd hok0 (by omega) (by omega) | exact powOK_even hok0 (by omega) (by omega) (by omega)),(by dsimp only;omega)⟩
  ·replace h2 : ¬ (((q.2.2 % 2 : Nat) : Int) = 1) := of_decide_eq_false h2
   refine wp_skip (then_normal (wp_seq ?_))
   refine at_regq [{},{},{ nw:=true }] { ts:=[0,1,2,6,7],os:=[] } [I64 (q.2.1*q.2.1),(x2:Int)≠0] gamOK hT h (by kernel_rfl) ⟨⟨by (have hA0:=mul_f q.2.1 q.2.1;first | omega | (simp only [lsA];omega) | (simp<;>omega)),by (have hA0:=mul_f q.2.1 q.2.1;first | omega | (simp only [lsA];omega) | (simp<;>omega))⟩,(by first | omega | (simp only [lsA];omega) | (simp<;>omega)),trivial⟩ fun a w h=>then_normal ?_
   refine at_regq [{},{ hint:=some (aI ((q.2.2 / 2:Nat):Int)) }] { ts:=[0,1,2,6,7],os:=[] } [(0:Int)≤1,(AV.p (.c (.v (.int .i64 ((Int.fdiv ((q.2.2:Nat):Int) (2 ^ (min (1:Int).toNat (IntKind.i64).bits)))))))=AV.p (.c (.v (.int .i64 (((q.2.2 / 2:Nat):Int))))))] gamOK hT h (by kernel_rfl) ⟨(by first | omega | (simp only [lsA];omega) | (simp<;>omega)),hint_int (by exact shr1),trivial⟩ fun a w h=>in_normal ?_
   replace h:=at_out (σ':=⟨[(0,aI (Int.tmod (q.2.1*q.2.1) x2)),(1,aI ((q.2.2 / 2:Nat):Int)),(2,aI x2),(6,aI 0),(7,aI q.1)],[]⟩) { ts:=[0,1,2,6,7],os:=[] } h (by kernel_rfl)
   exact ⟨(q.1,(q.2.1*q.2.1).tmod x2,q.2.2 / 2),at_eq h (st_congr3 (fun (d0:Int) (d1:Int) (d2:Int)=>(⟨[(0,aI d1),(1,aI d2),(2,aI x2),(6,aI 0),(7,aI d0)],[]⟩:St)) (show (q.1:Int)=((q.1,(q.2.1*q.2.1).tmod x2,q.2.2 / 2)).1 from by first | with_reducible rfl | (rfl) | rfl) (show ((Int.tmod (q.2.1*q.2.1) x2):Int)=((q.1,(q.2.1*q.2.1).tmod x2,q.2.2 / 2)).2.1 from by first | with_reducible rfl | (rfl) | rfl) (show (((q.2.2 / 2:Nat):Int):Int)=((((q.1,(q.2.1*q.2.1).tmod x2,q.2.2 / 2)).2.2:Nat):Int) from by first | with_reducible rfl | (rfl) | rfl)),(by first | exact powOK_odd hok0 (by omega) (by omega) | exact powOK_even hok0 (by omega) (by omega) (by omega)),(by dsimp only;omega)⟩
 ·replace h1 : ¬ (((q.2.2 : Nat) : Int) > 0) := of_decide_eq_false h1
  refine wp_exit (then_exit (then_exit (in_hit (then_normal (wp_seq ?_)))))
  refine at_regq [] { ts:=[6],os:=[] } [] gamOK hT h (by kernel_rfl) trivial fun a w h=>then_normal (wp_ret ?_)
  exact at_return (q.1,()) [] h (by kernel_rfl) trivial (congrArg (fun z=>(z,())) (show (q.1)=powD x0 x1 x2 from by (have e:=hok0.1;rw [show q.2.2=0 by omega,LA.pmL_zero] at e;exact e)))

def powF (x0:Int) (x1:Int):Int:=(if (isEl x0)=true then (if (inR x1 0 1000000000000)=true then (powD x0 x1 1019) else 0) else 0)
def S_impl_PowField:Sum:={ fid:=156,dom:=[(.int 3),(.int 3)],cod:=[(.int 3)],dp:=true,fz:=false,pre:=fun x=>True,g:=fun x=>((powF x.1 x.2.1),()) }
def S_impl_PowField_tab:List (Nat×Sum):=[(143,S_impl_IsElement),(73,S_impl_InRange),(164,S_impl_powMod)]
theorem S_impl_PowField_ok:FnOK Try.prog 156 S_impl_PowField:=by
 refine at_enter 16 (fun x=>⟨[(0,aI x.1),(1,aI x.2.1)],[]⟩) Try.func156 rfl (by kernel_rfl) (fun x=>rfl) ?_
 rintro w0 Z0 ⟨x0,x1,u⟩ a w
 revert x0 x1
 intro (x0:Int) (x1:Int) hpre hlens h
 have hT:TabOK Try.prog S_impl_PowField_tab:=(.cons S_impl_IsElement_ok (.cons S_impl_InRange_ok (.cons S_impl_powMod_ok .nil)))
 refine wp_seq ?_
 refine at_regq [] { ts:=[0,1,4],os:=[] } [] gamOK hT h (by kernel_rfl) trivial fun a w h=>then_normal (wp_seq (wp_seq ?_))
 rcases Bool.eq_false_or_eq_true (!(isEl x0)) with h1 | h1
 ·have hzh1 : (isEl x0) = false := notT h1
  refine at_regq [{},{},{ hint:=some (aB true) }] { ts:=[0,1,4,12],os:=[] } [True,(AV.p (.c (.v (.bool (!(isEl x0)))))=AV.p (.c (.v (.bool true))))] gamOK hT h (by kernel_rfl) ⟨trivial,hint_bool (h1),trivial⟩ fun a w h=>then_normal ?_
  refine at_test true h (by kernel_rfl) (fun hh=>?_) (fun hh=>nomatch hh)
  refine wp_seq ?_
  refine at_regq [] { ts:=[0,1,4],os:=[] } [] gamOK hT h (by kernel_rfl) trivial fun a w h=>then_normal (wp_ret (then_ret ?_))
  exact at_return (0,()) [] h (by kernel_rfl) trivial (congrArg (fun z=>(z,())) (show (0)=powF x0 x1 from by first | rfl | (unfold powF;rw [if_neg (neT (notT h1))])))
 ·have hzh1 : (isEl x0) = true := notF h1
  have hvh1:=isEl_t (notF h1)
  refine at_regq [{},{},{ hint:=some (aB false) }] { ts:=[0,1,4,12],os:=[] } [True,(AV.p (.c (.v (.bool (!(isEl x0)))))=AV.p (.c (.v (.bool false)))),True] gamOK hT h (by kernel_rfl) ⟨trivial,hint_bool (h1),trivial,trivial⟩ fun a w h=>then_normal ?_
  refine at_test (!(inR x1 0 1000000000000)) h (by kernel_rfl) (fun h2=>?_) (fun h2=>?_)
  ·replace h2 : (inR x1 0 1000000000000) = false := notT h2
   have hvh2:=inR_f h2
   refine wp_seq ?_
   refine at_regq [] { ts:=[0,1,4],os:=[] } [] gamOK hT h (by kernel_rfl) trivial fun a w h=>then_normal (wp_ret (then_ret ?_))
   exact at_return (0,()) [] h (by kernel_rfl) trivial (congrArg (fun z=>(z,())) (show (0)=powF x0 x1 from by first | rfl | (unfold powF;rw [if_pos (notF h1),if_neg (neT h2)])))
  ·replace h2 : (inR x1 0 1000000000000) = true := notF h2
   have hvh2:=inR_t h2
   refine wp_skip (then_normal (wp_seq ?_))
   refine at_regq [] { ts:=[4],os:=[] } [powP x0 x1 1019] gamOK hT h (by kernel_rfl) ⟨(by (show _∧_;refine ⟨⟨?_,?_⟩,⟨?_,?_⟩,?_,?_⟩<;>omega)),trivial⟩ fun a w h=>then_normal (wp_ret ?_)
   exact at_return ((powD x0 x1 1019),()) [] h (by kernel_rfl) trivial (congrArg (fun z=>(z,())) (show ((powD x0 x1 1019))=powF x0 x1 from by first | rfl | (unfold powF;rw [if_pos (notF h1),if_pos h2])))

def S_impl_InverseField:Sum:={ fid:=148,dom:=[(.int 3)],cod:=[(.int 3)],dp:=true,fz:=false,pre:=fun x=>True,g:=fun x=>((invF x.1),()) }
def S_impl_InverseField_tab:List (Nat×Sum):=[(156,S_impl_PowField)]
theorem S_impl_InverseField_ok:FnOK Try.prog 148 S_impl_InverseField:=by
 refine at_enter 5 (fun x=>⟨[(0,aI x.1)],[]⟩) Try.func148 rfl (by kernel_rfl) (fun x=>rfl) ?_
 rintro w0 Z0 ⟨x0,u⟩ a w
 revert x0
 intro (x0:Int) hpre hlens h
 have hT:TabOK Try.prog S_impl_InverseField_tab:=(.cons S_impl_PowField_ok .nil)
 refine wp_seq ?_
 refine at_regq [] { ts:=[0,2],os:=[] } [] gamOK hT h (by kernel_rfl) trivial fun a w h=>then_normal (wp_seq ?_)
 refine at_regq [] { ts:=[2],os:=[] } [True] gamOK hT h (by kernel_rfl) ⟨trivial,trivial⟩ fun a w h=>then_normal (wp_ret ?_)
 exact at_return ((powF x0 1017),()) [] h (by kernel_rfl) trivial (congrArg (fun z=>(z,())) (show ((powF x0 1017))=invF x0 from by (unfold invF powF LA.invS powD;rfl)))

def S_spec_InverseField:Sum:={ fid:=162,dom:=[(.int 3)],cod:=[(.int 3)],dp:=true,fz:=false,pre:=fun x=>True,g:=fun x=>((invF x.1),()) }
def S_spec_InverseField_tab:List (Nat×Sum):=[(153,S_spec_IsElement),(166,S_spec_l4Pow)]
theorem S_spec_InverseField_ok:FnOK Try.prog 162 S_spec_InverseField:=by
 refine at_enter 12 (fun x=>⟨[(0,aI x.1)],[]⟩) Try.func162 rfl (by kernel_rfl) (fun x=>rfl) ?_
 rintro w0 Z0 ⟨x0,u⟩ a w
 revert x0
 intro (x0:Int) hpre hlens h
 have hT:TabOK Try.prog S_spec_InverseField_tab:=(.cons S_spec_IsElement_ok (.cons S_spec_l4Pow_ok .nil))
 refine wp_seq ?_
 refine at_regq [] { ts:=[0,2],os:=[] } [] gamOK hT h (by kernel_rfl) trivial fun a w h=>then_normal (wp_seq (wp_seq ?_))
 rcases Bool.eq_false_or_eq_true (!(isEl x0)) with h1 | h1
 ·have hzh1 : (isEl x0) = false := notT h1
  refine at_regq [{},{},{ hint:=some (aB true) }] { ts:=[0,2,9],os:=[] } [True,(AV.p (.c (.v (.bool (!(isEl x0)))))=AV.p (.c (.v (.bool true))))] gamOK hT h (by kernel_rfl) ⟨trivial,hint_bool (h1),trivial⟩ fun a w h=>then_normal ?_
  refine at_test true h (by kernel_rfl) (fun hh=>?_) (fun hh=>nomatch hh)
  refine wp_seq ?_
  refine at_regq [] { ts:=[0,2],os:=[] } [] gamOK hT h (by kernel_rfl) trivial fun a w h=>then_normal (wp_ret (then_ret ?_))
  exact at_return (0,()) [] h (by kernel_rfl) trivial (congrArg (fun z=>(z,())) (show (0)=invF x0 from by (unfold invF;first | (rw [if_pos (show isEl x0=true by first | assumption | simpa using h1)];first | rfl | (rw [show x0=0 by assumption,invS_zero])) | (rw [if_neg (by simp_all)]))))
 ·have hzh1 : (isEl x0) = true := notF h1
  have hvh1:=isEl_t (notF h1)
  refine at_regq [{},{},{ hint:=some (aB false) }] { ts:=[0,2,9],os:=[] } [True,(AV.p (.c (.v (.bool (!(isEl x0)))))=AV.p (.c (.v (.bool false))))] gamOK hT h (by kernel_rfl) ⟨trivial,hint_bool (h1),trivial⟩ fun a w h=>then_normal ?_
  refine at_test (decide (x0=0)) h (by kernel_rfl) (fun h2=>?_) (fun h2=>?_)
  ·replace h2 : x0 = 0 := of_decide_eq_true h2
   refine wp_seq ?_
   refine at_regq [] { ts:=[0,2],os:=[] } [] gamOK hT h (by kernel_rfl) trivial fun a w h=>then_normal (wp_ret (then_ret ?_))
   exact at_return (0,()) [] h (by kernel_rfl) trivial (congrArg (fun z=>(z,())) (show (0)=invF x0 from by (unfold invF;first | (rw [if_pos (show isEl x0=true by first | assumption | simpa using h1)];first | rfl | (rw [show x0=0 by assumption,invS_zero])) | (rw [if_neg (by simp_all)]))))
  ·replace h2 : ¬ (x0 = 0) := of_decide_eq_false h2
   refine wp_skip (then_normal (wp_seq ?_))
   refine at_regq [] { ts:=[2],os:=[] } [powP x0 1017 1019] gamOK hT h (by kernel_rfl) ⟨(by (show _∧_;refine ⟨⟨?_,?_⟩,⟨?_,?_⟩,?_,?_⟩<;>omega)),trivial⟩ fun a w h=>then_normal (wp_ret ?_)
   exact at_return ((powD x0 1017 1019),()) [] h (by kernel_rfl) trivial (congrArg (fun z=>(z,())) (show ((powD x0 1017 1019))=invF x0 from by (unfold invF;first | (rw [if_pos (show isEl x0=true by first | assumption | simpa using h1)];first | rfl | (rw [show x0=0 by assumption,invS_zero])) | (rw [if_neg (by simp_all)]))))

def validV (x0:(List Int)):Bool:=(if (List.all x0 isEl)=true then decide (((List.length x0:Nat):Int)≤40) else false)
abbrev Q_impl_IsValidVector:=(fun (x0:(List Int))=>Sh.fit s22 x0)
def S_impl_IsValidVector:Sum:={ fid:=117,dom:=[s22],cod:=[(.bool 4)],dp:=true,fz:=false,pre:=fun x=>Q_impl_IsValidVector x.1,g:=fun x=>((validV x.1),()) }
def S_impl_IsValidVector_tab:List (Nat×Sum):=[(143,S_impl_IsElement)]
theorem S_impl_IsValidVector_ok:FnOK Try.prog 117 S_impl_IsValidVector:=by
 refine at_enter 18 (fun x=>⟨[(0,aF (.int 3) x.1)],[]⟩) Try.func117 rfl (by kernel_rfl) (fun x=>rfl) ?_
 rintro w0 Z0 ⟨x0,u⟩ a w
 revert x0
 intro (x0:(List Int)) hpre hlens h
 replace hpre:Q_impl_IsValidVector x0:=hpre
 have hT:TabOK Try.prog S_impl_IsValidVector_tab:=(.cons S_impl_IsElement_ok .nil)
 have hf0:Sh.fit s22 x0:=hpre
 have hn0_1:List.length x0≤1073741824:=hf0.1
 refine wp_seq ?_
 refine at_regq [] { ts:=[0,2],os:=[] } [] gamOK hT h (by kernel_rfl) trivial fun a w h=>then_normal (wp_seq (wp_seq ?_))
 refine at_regq [] { ts:=[0,2,5,6,7],os:=[] } [] gamOK hT h (by kernel_rfl) trivial fun a w h=>then_normal (wp_block ?_)
 replace h:=at_out (σ':=⟨[(0,aF (.int 3) x0),(2,aB false),(5,aF (.int 3) x0),(6,aI ((List.length x0:Nat):Int)),(7,aI 0)],[]⟩) { ts:=[0,2,5,6,7],os:=[] } h (by kernel_rfl)
 refine at_loop (fun i:Nat=>(⟨[(0,aF (.int 3) x0),(2,aB false),(5,aF (.int 3) x0),(6,aI ((List.length x0:Nat):Int)),(7,aI ((i:Nat):Int))],[]⟩:St)) (fun i=>(i≤List.length x0∧allTo1 isEl x0 0 i)) (fun i=>List.length x0 - i) (0) h (st_congr1 (fun (d0:Int)=>(⟨[(0,aF (.int 3) x0),(2,aB false),(5,aF (.int 3) x0),(6,aI ((List.length x0:Nat):Int)),(7,aI d0)],[]⟩:St)) (show (0:Int)=(((0):Nat):Int) from by first | with_reducible rfl | (rfl) | rfl)) (by exact ⟨Nat.zero_le _,allTo1_zero⟩) ?_
 intro i a w hok0 h
 refine wp_seq ?_
 refine at_regq [] { ts:=[0,2,5,6,7,8],os:=[] } [] gamOK hT h (by kernel_rfl) trivial fun a w h=>then_normal (wp_seq ?_)
 refine at_test (decide (((i:Nat):Int) < ((List.length x0:Nat):Int))) h (by kernel_rfl) (fun h1=>?_) (fun h1=>?_)
 ·replace h1 : ((i : Nat) : Int) < ((List.length x0 : Nat) : Int) := of_decide_eq_true h1
  refine wp_skip (then_normal (wp_seq (wp_block (wp_seq ?_))))
  refine at_regq [] { ts:=[0,2,4,5,6,7],os:=[] } [(0:Int)≤((i:Nat):Int)∧((i:Nat):Int) < ((List.length x0:Nat):Int)] gamOK hT h (by kernel_rfl) ⟨(by refine ⟨?_,?_⟩<;>(first | omega | (simp only [lsA];omega) | (simp<;>omega))),trivial⟩ fun a w h=>then_normal (wp_seq ?_)
  refine at_regq [] { ts:=[0,2,5,6,7,13],os:=[] } [True] gamOK hT h (by kernel_rfl) ⟨trivial,trivial⟩ fun a w h=>then_normal ?_
  refine at_test (!(isEl (x0.getD i 0))) h (by kernel_rfl) (fun h2=>?_) (fun h2=>?_)
  ·replace h2 : (isEl (x0.getD i 0)) = false := notT h2
   refine wp_seq ?_
   refine at_regq [] { ts:=[0,2,5,6,7],os:=[] } [] gamOK hT h (by kernel_rfl) trivial fun a w h=>then_normal (wp_ret (in_ret (then_ret ?_)))
   have hs3:(List.all x0 isEl)=false:=by exact all_at (z:=0) (i:=i) (by omega) (by first | assumption | (simp_all;done))
   refine then_ret (in_ret (then_ret ?_))
   exact at_return (false,()) [] h (by kernel_rfl) trivial (congrArg (fun z=>(z,())) (show (false)=validV x0 from by first | rfl | (unfold validV;rw [if_neg (neT hs3)])))
  ·replace h2 : (isEl (x0.getD i 0)) = true := notF h2
   have hvh2:=isEl_t h2
   refine wp_skip (in_normal (then_normal ?_))
   refine at_regq [{ nw:=true }] { ts:=[0,2,5,6,7],os:=[] } [I64 (((i:Nat):Int)+1)] gamOK hT h (by kernel_rfl) ⟨⟨by first | omega | (simp only [lsA];omega) | (simp<;>omega),by first | omega | (simp only [lsA];omega) | (simp<;>omega)⟩,trivial⟩ fun a w h=>?_
   replace h:=at_out (σ':=⟨[(0,aF (.int 3) x0),(2,aB false),(5,aF (.int 3) x0),(6,aI ((List.length x0:Nat):Int)),(7,aI (((i:Nat):Int)+1))],[]⟩) { ts:=[0,2,5,6,7],os:=[] } h (by kernel_rfl)
   exact ⟨i+1,at_eq h (st_congr1 (fun (d0:Int)=>(⟨[(0,aF (.int 3) x0),(2,aB false),(5,aF (.int 3) x0),(6,aI ((List.length x0:Nat):Int)),(7,aI d0)],[]⟩:St)) (show (((i:Nat):Int)+1:Int)=(((i+1):Nat):Int) from by first | with_reducible rfl | (omega) | rfl)),(by exact ⟨by omega,allTo1_succ hok0.2 (by first | assumption | (simp_all;done))⟩),(by omega)⟩
 ·replace h1 : ¬ (((i : Nat) : Int) < ((List.length x0 : Nat) : Int)) := of_decide_eq_false h1
  refine wp_exit (then_exit ?_)
  have hs4:(List.all x0 isEl)=true:=by exact all_of (z:=0) (i:=i) (by omega) hok0.2
  refine then_exit (in_hit (then_normal (wp_seq ?_)))
  refine at_regq [] { ts:=[2],os:=[] } [] gamOK hT h (by kernel_rfl) trivial fun a w h=>then_normal (wp_ret ?_)
  exact at_return (decide (((List.length x0:Nat):Int)≤40),()) [] h (by kernel_rfl) trivial (congrArg (fun z=>(z,())) (show (decide (((List.length x0:Nat):Int)≤40))=validV x0 from by first | rfl | (unfold validV;rw [if_pos hs4])))
theorem validV_t {v:List Int} (h:validV v=true):List.length v≤40∧(∀ x∈v,LA.El x)∧(∀ j,0≤v.getD j 0∧v.getD j 0≤1018):=by
 unfold validV at h
 split at h
 ·rename_i ha
  have:=of_decide_eq_true h
  exact ⟨by omega,validV_el ha,elB (validV_el ha)⟩
 ·cases h
def scaleV (v:List Int) (k:Int):List Int:=if validV v=true∧isEl k=true then LA.scaleS v k else []
theorem scaleV_ok {v:List Int} {k:Int} (hv:validV v=true) (hk:0≤k∧k≤1018):scaleV v k=LA.scaleS v k:=if_pos ⟨hv,inR_true hk⟩
theorem scaleV_len (v:List Int) (k:Int):(scaleV v k).length≤v.length:=by unfold scaleV LA.scaleS;split<;>simp
def addV (a b:List Int) (k:Int):List Int:=if (validV a=true∧validV b=true∧List.length a=List.length b)∧isEl k=true then LA.addS a b k else []

end Go.Proofs.Ytamibfjeldfphaa
