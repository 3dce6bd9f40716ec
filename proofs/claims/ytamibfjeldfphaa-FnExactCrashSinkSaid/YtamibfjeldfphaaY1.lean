/- The walks of the functions that the law reaches: each summary holds. No condition. -/
import Derived.Test.YtamibfjeldfphaaPZ
import Derived.Test.YtamibfjeldfphaaLA
import Derived.Test.YtamibfjeldfphaaProg
namespace Go.Proofs.Ytamibfjeldfphaa
open Go.RowKit
set_option linter.unusedVariables false
set_option linter.unusedSimpArgs false
abbrev s22:Sh:=.sl 22 (.int 3)
abbrev s66:Sh:=.sl 66 s22
abbrev s95:Sh:=.st 95 (.pair (.int 3) s66)
abbrev T95:Type:=(Int×(List (List Int)))
abbrev s97:Sh:=.st 97 (.pair (.int 3) (.pair (.int 3) (.pair (.int 3) s95)))
abbrev T97:Type:=(Int×(Int×(Int×T95)))
abbrev s28:Sh:=.sl 28 s97
abbrev s68:Sh:=.st 68 (.pair (.int 3) s66)
abbrev T68:Type:=(Int×(List (List Int)))
abbrev s29:Sh:=.sl 29 s68
abbrev s31:Sh:=.st 31 (.pair (.int 3) (.pair (.int 3) (.pair s22 (.pair s28 (.pair s29 (.int 3))))))
abbrev T31:Type:=(Int×(Int×((List Int)×((List T97)×((List T68)×Int)))))
abbrev s90:Sh:=.st 90 (.pair (.int 3) s66)
abbrev T90:Type:=(Int×(List (List Int)))
abbrev s92:Sh:=.st 92 (.pair (.int 3) (.pair (.int 3) (.pair (.int 3) s90)))
abbrev T92:Type:=(Int×(Int×(Int×T90)))
abbrev s23:Sh:=.sl 23 s92
abbrev s94:Sh:=.st 94 (.pair (.int 3) s66)
abbrev T94:Type:=(Int×(List (List Int)))
abbrev s24:Sh:=.sl 24 s94
abbrev s26:Sh:=.st 26 (.pair (.int 3) (.pair (.int 3) (.pair s22 (.pair s23 (.pair s24 (.int 3))))))
abbrev T26:Type:=(Int×(Int×((List Int)×((List T92)×((List T94)×Int)))))
def gam:Gam:=[(22,(.int 3),8),(66,s22,24),(28,s97,56),(29,s68,32)]
theorem gamOK:GamOK Try.prog gam:=(.cons (Elem.of (.int .i64 0) Try.underlying22 (by kernel_rfl) rfl (by decide) (by decide)) (.cons (Elem.of (.slice none 0 0) Try.underlying66 (by kernel_rfl) rfl (by decide) (by decide)) (.cons (Elem.of (.agg #[(.int .i64 0),(.int .i64 0),(.int .i64 0),(.int .i64 0),(.slice none 0 0)]) Try.underlying28 (by kernel_rfl) rfl (by decide) (by decide)) (.cons (Elem.of (.agg #[(.int .i64 0),(.slice none 0 0)]) Try.underlying29 (by kernel_rfl) rfl (by decide) (by decide)) .nil))))
theorem mixed:Try.prog.follows .mixedOrders=true:=by kernel_rfl
theorem lsA {α:Type}:(∀ xs ys:List α,(xs++ys).length=xs.length+ys.length)∧(∀ (x:α) (xs:List α),(x::xs).length=xs.length+1)∧(([]:List α).length=0)∧(∀ (xs:List α) (i:Nat) (a:α),(xs.set i a).length=xs.length)∧(∀ (xs:List α) (n:Nat),(xs.take n).length=min n xs.length)∧(∀ (xs:List α) (n:Nat),(xs.drop n).length=xs.length - n)∧(∀ (n:Nat) (a:α),(List.replicate n a).length=n):=⟨fun _ _=>List.length_append,fun _ _=>rfl,rfl,fun _ _ _=>List.length_set,fun _ _=>List.length_take,fun _ _=>List.length_drop,fun _ _=>List.length_replicate⟩
def inR (n lo hi:Int):Bool:=decide (lo≤n∧n≤hi)
theorem inR_t {n a b:Int} (h:inR n a b=true):a≤n∧n≤b:=of_decide_eq_true h
theorem inR_f {n a b:Int} (h:inR n a b=false):n < a∨b < n:=by have:=of_decide_eq_false h;omega
theorem inR_true {n a b:Int} (h:a≤n∧n≤b):inR n a b=true:=decide_eq_true h
def lenOK {α:Type} (xs:List α):Prop:=xs.length≤1073741824
def idL {α:Type} (xs:List α):List α:=xs
section
variable {α β:Type}
def noneTo (p:α→Bool) (xs:List α) (z:α) (i:Nat):Prop:=∀ j,j < i→p (xs.getD j z)=false
def idxF (p:α→Bool):List α→Int
 | []=>-1
 | x::l=>if p x=true then 0 else if idxF p l < 0 then -1 else idxF p l+1
theorem noneTo_zero {p:α→Bool} {xs:List α} {z:α}:noneTo p xs z 0:=fun j h=>by omega
theorem noneTo_succ {p:α→Bool} {xs:List α} {z:α} {i:Nat} (h:noneTo p xs z i) (k:p (xs.getD i z)=false):noneTo p xs z (i+1):=fun j hj=>by
 by_cases e:j=i
 ·subst e;exact k
 ·exact h j (by omega)
theorem idxF_at {p:α→Bool} {z:α}:∀ {xs:List α} {i:Nat},i < xs.length→noneTo p xs z i→p (xs.getD i z)=true→idxF p xs=i
 | [],_,h,_,_=>by simp at h
 | x :: l, 0, _, _, k => by
  have k:p x=true:=k
  simp [idxF,k]
 | x :: l, i + 1, h, hn, k => by
  have h0:p x=false:=hn 0 (by omega)
  have:=idxF_at (xs:=l) (i:=i) (by simpa using h) (fun j hj=>by have:=hn (j+1) (by omega);simpa using this) (by simpa using k)
  simp only [idxF,h0,this]
  rw [if_neg (by decide),if_neg (by omega)]
  omega
theorem idxF_none {p:α→Bool} {z:α}:∀ {xs:List α} {i:Nat},xs.length≤i→noneTo p xs z i→idxF p xs=-1
 | [],_,_,_=>rfl
 | x::l,0,h,_=>by simp at h
 | x :: l, i + 1, h, hn => by
  have h0:p x=false:=hn 0 (by omega)
  have:=idxF_none (xs:=l) (i:=i) (by simpa using h) (fun j hj=>by have:=hn (j+1) (by omega);simpa using this)
  simp [idxF,h0,this]
theorem idxF_pos {p:α→Bool}:∀ {xs:List α},0≤idxF p xs↔xs.any p=true
 | []=>by simp [idxF]
 | x :: l => by
  have:=idxF_pos (xs:=l) (p:=p)
  simp only [idxF,List.any_cons,Bool.or_eq_true,← this]
  by_cases hx:p x=true
  ·simp [hx]
  ·rw [if_neg hx]
   split
   ·rename_i h; constructor
    ·intro h';omega
    ·rintro (h' | h')
     ·exact absurd h' hx
     ·omega
   ·rename_i h; constructor
    ·intro h';right;omega
    ·intro _;omega
theorem idxF_any {p:α→Bool} {xs:List α}:decide (idxF p xs≥0)=xs.any p:=by
 rw [Bool.eq_iff_iff,decide_eq_true_iff];exact idxF_pos
def allTo2 (e:α→β→Bool) (xs:List α) (ys:List β) (z:α) (y:β) (i:Nat):Prop:=∀ j,j < i→e (xs.getD j z) (ys.getD j y)=true
def eqF (e:α→β→Bool):List α→List β→Bool
 | [],[]=>true
 | x::l,y::l'=>e x y && eqF e l l'
 | _,_=>false
theorem allTo2_zero {e:α→β→Bool} {xs:List α} {ys:List β} {z:α} {y:β}:allTo2 e xs ys z y 0:=fun j h=>by omega
theorem allTo2_succ {e:α→β→Bool} {xs:List α} {ys:List β} {z:α} {y:β} {i:Nat} (h:allTo2 e xs ys z y i) (k:e (xs.getD i z) (ys.getD i y)=true):allTo2 e xs ys z y (i+1):=fun j hj=>by
 by_cases e:j=i
 ·subst e;exact k
 ·exact h j (by omega)
theorem eqF_len {e:α→β→Bool}:∀ {xs:List α} {ys:List β},xs.length≠ys.length→eqF e xs ys=false
 | [],[],h=>absurd rfl h
 | [],_::_,_=>rfl
 | _::_,[],_=>rfl
 | _::l,_::l',h=>by simp only [eqF];rw [eqF_len (xs:=l) (ys:=l') (by simpa using h),Bool.and_false]
theorem eqF_at {e:α→β→Bool} {z:α} {y:β}:∀ {xs:List α} {ys:List β} {i:Nat},i < xs.length→i < ys.length→e (xs.getD i z) (ys.getD i y)=false→eqF e xs ys=false
 | x :: l, y' :: l', 0, _, _, h => by
  have h:e x y'=false:=h
  simp [eqF,h]
 | x::l,y'::l',i+1,h1,h2,h=>by simp only [eqF];rw [eqF_at (xs:=l) (ys:=l') (i:=i) (by simpa using h1) (by simpa using h2) (by simpa using h),Bool.and_false]
 | [],_,_,h1,_,_=>by simp at h1
 | _::_,[],_,_,h2,_=>by simp at h2
theorem eqF_all {e:α→β→Bool} {z:α} {y:β}:∀ {xs:List α} {ys:List β} {i:Nat},xs.length=ys.length→xs.length≤i→allTo2 e xs ys z y i→eqF e xs ys=true
 | [],[],_,_,_,_=>rfl
 | [],_::_,_,h,_,_=>by simp at h
 | _::_,[],_,h,_,_=>by simp at h
 | x::l,y'::l',0,_,h,_=>by simp at h
 | x :: l, y' :: l', i + 1, h, hi, ha => by
  have h0:e x y'=true:=ha 0 (by omega)
  simp only [eqF]
  rw [h0,eqF_all (xs:=l) (ys:=l') (i:=i) (by simpa using h) (by simpa using hi) (fun j hj=>by have:=ha (j+1) (by omega);simpa using this)]
  rfl
def allTo1 (p:α→Bool) (xs:List α) (z:α) (i:Nat):Prop:=∀ j,j < i→p (xs.getD j z)=true
theorem allTo1_zero {p:α→Bool} {xs:List α} {z:α}:allTo1 p xs z 0:=fun j h=>by omega
theorem allTo1_succ {p:α→Bool} {xs:List α} {z:α} {i:Nat} (h:allTo1 p xs z i) (k:p (xs.getD i z)=true):allTo1 p xs z (i+1):=fun j hj=>by
 by_cases e:j=i
 ·subst e;exact k
 ·exact h j (by omega)
theorem all_at {p:α→Bool} {xs:List α} {z:α} {i:Nat} (h:i < xs.length) (k:p (xs.getD i z)=false):xs.all p=false:=by
 rw [Bool.eq_false_iff];intro ha
 have:=List.all_eq_true.1 ha _ (getD_mem (z:=z) h)
 rw [k] at this;cases this
theorem all_of {p:α→Bool} {xs:List α} {z:α} {i:Nat} (h:xs.length≤i) (k:allTo1 p xs z i):xs.all p=true:=by
 rw [List.all_eq_true];intro x hx
 obtain ⟨j,hj,rfl⟩:=List.getElem_of_mem hx
 have:=k j (by omega)
 rwa [getD_of_lt hj] at this
def foldTo (f:β→α→β) (b:β) (xs:List α) (i:Nat):β:=(xs.take i).foldl f b
theorem foldTo_zero {f:β→α→β} {b:β} {xs:List α}:foldTo f b xs 0=b:=rfl
theorem foldTo_succ {f:β→α→β} {b:β} {xs:List α} {i:Nat} (z:α) (h:i < xs.length):foldTo f b xs (i+1)=f (foldTo f b xs i) (xs.getD i z):=by
 unfold foldTo;rw [take_snoc (z:=z) h,List.foldl_append];rfl
theorem foldTo_all {f:β→α→β} {b:β} {xs:List α} {i:Nat} (h:xs.length≤i):foldTo f b xs i=xs.foldl f b:=by unfold foldTo;rw [take_all h]
end
theorem notF' {b:Bool} (h:b=false):(!b)=true:=by rw [h];rfl
theorem notT' {b:Bool} (h:b=true):(!b)=false:=by rw [h];rfl
section
variable {α β:Type}
theorem any_at {p:α→Bool} {xs:List α} {z:α} {i:Nat} (h:i < xs.length) (k:p (xs.getD i z)=true):xs.any p=true:=List.any_eq_true.2 ⟨_,getD_mem h,k⟩
theorem any_of {p:α→Bool} {xs:List α} {z:α} {i:Nat} (h:xs.length≤i) (k:noneTo p xs z i):xs.any p=false:=by
 rw [Bool.eq_false_iff];intro ha
 obtain ⟨x,hx,hp⟩:=List.any_eq_true.1 ha
 obtain ⟨j,hj,rfl⟩:=List.getElem_of_mem hx
 have:=k j (by omega)
 rw [getD_of_lt hj,hp] at this;cases this
def allN (P:Nat→Bool):Nat→Bool
 | 0=>true
 | n+1=>allN P n && P n
theorem allN_succ {P:Nat→Bool} {i:Nat} (h:allN P i=true) (k:P i=true):allN P (i+1)=true:=by simp [allN,h,k]
theorem allN_iff {P:Nat→Bool}:∀ {n:Nat},allN P n=true↔∀ j,j < n→P j=true
 | 0=>by simp [allN]
 | n + 1 => by
  simp only [allN,Bool.and_eq_true,allN_iff (n:=n)]
  constructor
  ·rintro ⟨h1, h2⟩ j hj
   by_cases e:j=n
   ·rw [e];exact h2
   ·exact h1 j (by omega)
  ·intro h;exact ⟨fun j hj=>h j (by omega),h n (by omega)⟩
theorem allN_eq {P:Nat→Bool} {i n:Nat} (h:n≤i) (h':i≤n) (k:allN P i=true):allN P n=true:=by rw [show n=i by omega];exact k
theorem allN_at {P:Nat→Bool} {i n:Nat} (h:i < n) (k:P i=false):allN P n=false:=by
 rw [Bool.eq_false_iff];intro ha
 rw [allN_iff.1 ha i h] at k;cases k
theorem map_snoc {f:α→β} {xs:List α} {i:Nat} {z:α} (h:i < xs.length):(xs.take (i+1)).map f=(xs.take i).map f++[f (xs.getD i z)]:=by rw [take_snoc (z:=z) h,List.map_append];rfl
theorem filter_snoc_t {p:α→Bool} {xs:List α} {i:Nat} {z:α} (h:i < xs.length) (k:p (xs.getD i z)=true):(xs.take (i+1)).filter p=(xs.take i).filter p++[xs.getD i z]:=by rw [take_snoc (z:=z) h,List.filter_append,List.filter_cons_of_pos k];rfl
theorem filter_snoc_f {p:α→Bool} {xs:List α} {i:Nat} {z:α} (h:i < xs.length) (k:p (xs.getD i z)=false):(xs.take (i+1)).filter p=(xs.take i).filter p:=by rw [take_snoc (z:=z) h,List.filter_append,List.filter_cons_of_neg (by rw [k];decide)];simp
theorem len_filter_take {p:α→Bool} {xs:List α} (i:Nat):((xs.take i).filter p).length≤xs.length:=Nat.le_trans (List.length_filter_le _ _) (by simp;omega)
theorem len_take_le {xs:List α} (i:Nat):(xs.take i).length≤xs.length:=by simp;omega
end
theorem any_not {α:Type} (p:α→Bool) (xs:List α):(xs.any fun e=>!p e)=!(xs.all p):=by
 induction xs with
 | nil=>rfl
 | cons x l ih=>rw [List.any_cons,List.all_cons,ih,Bool.not_and]
def S_slices_Clone_S_int_int_:Sum:={ fid:=69,dom:=[s22],cod:=[s22],dp:=true,fz:=false,pre:=fun x=>(lenOK (α:=Int)) x.1,g:=fun x=>(((idL (α:=Int)) x.1),()) }
def S_slices_Clone_S_int_int__tab:List (Nat×Sum):=[]
theorem S_slices_Clone_S_int_int__ok:FnOK Try.prog 69 S_slices_Clone_S_int_int_:=by
 refine at_enter 8 (fun x=>⟨[(0,aF (.int 3) x.1)],[]⟩) Try.func69 rfl (by kernel_rfl) (fun x=>rfl) ?_
 rintro w0 Z0 ⟨x0,u⟩ a w
 revert x0
 intro (x0:(List Int)) hpre hlens h
 replace hpre:(lenOK (α:=Int)) x0:=hpre
 have hl1:List.length x0≤9223372036854775807:=hlens.1.1
 have hT:TabOK Try.prog S_slices_Clone_S_int_int__tab:=.nil
 have hp:List.length x0≤1073741824:=hpre
 refine wp_seq ?_
 refine at_regq [] { ts:=[0,2],os:=[] } [] gamOK hT h (by kernel_rfl) trivial fun a w h=>then_normal (wp_seq (wp_seq ?_))
 refine at_regq [] { ts:=[0,2,4],os:=[] } [] gamOK hT h (by kernel_rfl) trivial fun a w h=>then_normal ?_
 refine at_nil (List.length x0) h (by kernel_rfl) (fun h1=>?_) ?_
 ·refine wp_seq ?_
  refine at_regq [] { ts:=[0,2],os:=[] } [] gamOK hT h (by kernel_rfl) trivial fun a w h=>then_normal (wp_ret (then_ret ?_))
  exact at_return (([]:List Int),()) [] h (by kernel_rfl) trivial (congrArg (fun z=>(z,())) (show (([]:List Int))=(idL (α:=Int)) x0 from by (show []=x0;exact (List.eq_nil_of_length_eq_zero h1).symm)))
 ·refine wp_skip (then_normal (wp_seq ?_))
  refine at_regq [{ ids:=[1] },{},{ ids:=[2] }] { ts:=[2],os:=[2] } [(List.length ([]:List Int)+List.length x0)*8≤140737488355328] gamOK hT h (by kernel_rfl) ⟨(by first | omega | (simp only [lsA];omega) | (simp<;>omega)),trivial⟩ fun a w h=>then_normal (wp_ret ?_)
  exact at_return ((([]:List Int)++x0),()) [] h (by kernel_rfl) trivial (congrArg (fun z=>(z,())) (show ((([]:List Int)++x0))=(idL (α:=Int)) x0 from by (show []++x0=x0;rfl)))

def S_impl_InRange:Sum:={ fid:=73,dom:=[(.int 3),(.int 3),(.int 3)],cod:=[(.bool 4)],dp:=true,fz:=false,pre:=fun x=>True,g:=fun x=>((inR x.1 x.2.1 x.2.2.1),()) }
def S_impl_InRange_tab:List (Nat×Sum):=[]
theorem S_impl_InRange_ok:FnOK Try.prog 73 S_impl_InRange:=by
 refine at_enter 15 (fun x=>⟨[(0,aI x.1),(1,aI x.2.1),(2,aI x.2.2.1)],[]⟩) Try.func73 rfl (by kernel_rfl) (fun x=>rfl) ?_
 rintro w0 Z0 ⟨x0,x1,x2,u⟩ a w
 revert x0 x1 x2
 intro (x0:Int) (x1:Int) (x2:Int) hpre hlens h
 have hT:TabOK Try.prog S_impl_InRange_tab:=.nil
 refine wp_seq ?_
 refine at_regq [] { ts:=[0,1,2,6],os:=[] } [] gamOK hT h (by kernel_rfl) trivial fun a w h=>then_normal (wp_seq ?_)
 by_cases h1:x1≤x0
 ·refine at_regq [{}, {}, { hint := some (aB true) }] { ts := [6], os := [] } [(AV.p (.c (.v (.bool (decide (x1 ≤ x0))))) = AV.p (.c (.v (.bool true))))] gamOK hT h (by kernel_rfl) ⟨hint_bool (decide_eq_true h1), trivial⟩ fun a w h => then_normal (wp_ret ?_)
  exact at_return (decide (x0≤x2),()) [] h (by kernel_rfl) trivial (congrArg (fun z=>(z,())) (show (decide (x0≤x2))=inR x0 x1 x2 from by (unfold inR;simp [*];done)))
 ·refine at_regq [{}, {}, { hint := some (aB false) }] { ts := [6], os := [] } [(AV.p (.c (.v (.bool (decide (x1 ≤ x0))))) = AV.p (.c (.v (.bool false))))] gamOK hT h (by kernel_rfl) ⟨hint_bool (decide_eq_false h1), trivial⟩ fun a w h => then_normal (wp_ret ?_)
  exact at_return (false,()) [] h (by kernel_rfl) trivial (congrArg (fun z=>(z,())) (show (false)=inR x0 x1 x2 from by (unfold inR;simp [*];done)))

def S_spec_l1In:Sum:={ fid:=59,dom:=[(.int 3),(.int 3),(.int 3)],cod:=[(.bool 4)],dp:=true,fz:=false,pre:=fun x=>True,g:=fun x=>((inR x.1 x.2.1 x.2.2.1),()) }
def S_spec_l1In_tab:List (Nat×Sum):=[]
theorem S_spec_l1In_ok:FnOK Try.prog 59 S_spec_l1In:=by
 refine at_enter 15 (fun x=>⟨[(0,aI x.1),(1,aI x.2.1),(2,aI x.2.2.1)],[]⟩) Try.func59 rfl (by kernel_rfl) (fun x=>rfl) ?_
 rintro w0 Z0 ⟨x0,x1,x2,u⟩ a w
 revert x0 x1 x2
 intro (x0:Int) (x1:Int) (x2:Int) hpre hlens h
 have hT:TabOK Try.prog S_spec_l1In_tab:=.nil
 refine wp_seq ?_
 refine at_regq [] { ts:=[0,1,2,6],os:=[] } [] gamOK hT h (by kernel_rfl) trivial fun a w h=>then_normal (wp_seq ?_)
 by_cases h1:x0≥x1
 ·refine at_regq [{}, {}, { hint := some (aB true) }] { ts := [6], os := [] } [(AV.p (.c (.v (.bool (decide (x0 ≥ x1))))) = AV.p (.c (.v (.bool true))))] gamOK hT h (by kernel_rfl) ⟨hint_bool (decide_eq_true h1), trivial⟩ fun a w h => then_normal (wp_ret ?_)
  exact at_return (decide (x0≤x2),()) [] h (by kernel_rfl) trivial (congrArg (fun z=>(z,())) (show (decide (x0≤x2))=inR x0 x1 x2 from by (unfold inR;first | (simp only [ge_iff_le] at *;simp [*];done) | (rw [decide_eq_false];omega))))
 ·refine at_regq [{}, {}, { hint := some (aB false) }] { ts := [6], os := [] } [(AV.p (.c (.v (.bool (decide (x0 ≥ x1))))) = AV.p (.c (.v (.bool false))))] gamOK hT h (by kernel_rfl) ⟨hint_bool (decide_eq_false h1), trivial⟩ fun a w h => then_normal (wp_ret ?_)
  exact at_return (false,()) [] h (by kernel_rfl) trivial (congrArg (fun z=>(z,())) (show (false)=inR x0 x1 x2 from by (unfold inR;first | (simp only [ge_iff_le] at *;simp [*];done) | (rw [decide_eq_false];omega))))

def isEl (x0:Int):Bool:=(inR x0 0 1018)
def S_impl_IsElement:Sum:={ fid:=143,dom:=[(.int 3)],cod:=[(.bool 4)],dp:=true,fz:=false,pre:=fun x=>True,g:=fun x=>((isEl x.1),()) }
def S_impl_IsElement_tab:List (Nat×Sum):=[(73,S_impl_InRange)]
theorem S_impl_IsElement_ok:FnOK Try.prog 143 S_impl_IsElement:=by
 refine at_enter 5 (fun x=>⟨[(0,aI x.1)],[]⟩) Try.func143 rfl (by kernel_rfl) (fun x=>rfl) ?_
 rintro w0 Z0 ⟨x0,u⟩ a w
 revert x0
 intro (x0:Int) hpre hlens h
 have hT:TabOK Try.prog S_impl_IsElement_tab:=(.cons S_impl_InRange_ok .nil)
 refine wp_seq ?_
 refine at_regq [] { ts:=[0,2],os:=[] } [] gamOK hT h (by kernel_rfl) trivial fun a w h=>then_normal (wp_seq ?_)
 refine at_regq [] { ts:=[2],os:=[] } [True] gamOK hT h (by kernel_rfl) ⟨trivial,trivial⟩ fun a w h=>then_normal (wp_ret ?_)
 exact at_return ((inR x0 0 1018),()) [] h (by kernel_rfl) trivial (congrArg (fun z=>(z,())) (show ((inR x0 0 1018))=isEl x0 from by rfl))
theorem isEl_t {x:Int} (h:isEl x=true):0≤x∧x≤1018:=inR_t h

def S_spec_IsElement:Sum:={ fid:=153,dom:=[(.int 3)],cod:=[(.bool 4)],dp:=true,fz:=false,pre:=fun x=>True,g:=fun x=>((isEl x.1),()) }
def S_spec_IsElement_tab:List (Nat×Sum):=[(59,S_spec_l1In)]
theorem S_spec_IsElement_ok:FnOK Try.prog 153 S_spec_IsElement:=by
 refine at_enter 5 (fun x=>⟨[(0,aI x.1)],[]⟩) Try.func153 rfl (by kernel_rfl) (fun x=>rfl) ?_
 rintro w0 Z0 ⟨x0,u⟩ a w
 revert x0
 intro (x0:Int) hpre hlens h
 have hT:TabOK Try.prog S_spec_IsElement_tab:=(.cons S_spec_l1In_ok .nil)
 refine wp_seq ?_
 refine at_regq [] { ts:=[0,2],os:=[] } [] gamOK hT h (by kernel_rfl) trivial fun a w h=>then_normal (wp_seq ?_)
 refine at_regq [] { ts:=[2],os:=[] } [True] gamOK hT h (by kernel_rfl) ⟨trivial,trivial⟩ fun a w h=>then_normal (wp_ret ?_)
 exact at_return ((inR x0 0 1018),()) [] h (by kernel_rfl) trivial (congrArg (fun z=>(z,())) (show ((inR x0 0 1018))=isEl x0 from by first | rfl | (unfold isEl;rfl;done) | (unfold isEl;simp_all)))

def S_laws_eqIntS:Sum:={ fid:=34,dom:=[s22,s22],cod:=[(.bool 4)],dp:=true,fz:=false,pre:=fun x=>True,g:=fun x=>(((Sh.eqB s22) x.1 x.2.1),()) }
def S_laws_eqIntS_tab:List (Nat×Sum):=[]
theorem S_laws_eqIntS_ok:FnOK Try.prog 34 S_laws_eqIntS:=by
 refine at_enter 26 (fun x=>⟨[(0,aF (.int 3) x.1),(1,aF (.int 3) x.2.1)],[]⟩) Try.func34 rfl (by kernel_rfl) (fun x=>rfl) ?_
 rintro w0 Z0 ⟨x0,x1,u⟩ a w
 revert x0 x1
 intro (x0:(List Int)) (x1:(List Int)) hpre hlens h
 have hl1:List.length x0≤9223372036854775807:=hlens.1.1
 have hl2:List.length x1≤9223372036854775807:=hlens.2.1.1
 have hT:TabOK Try.prog S_laws_eqIntS_tab:=.nil
 refine wp_seq ?_
 refine at_regq [] { ts:=[0,1,4],os:=[] } [] gamOK hT h (by kernel_rfl) trivial fun a w h=>then_normal (wp_seq (wp_seq ?_))
 refine at_regq [] { ts:=[0,1,4,10],os:=[] } [] gamOK hT h (by kernel_rfl) trivial fun a w h=>then_normal ?_
 refine at_test (!decide (((List.length x0:Nat):Int)=((List.length x1:Nat):Int))) h (by kernel_rfl) (fun h1=>?_) (fun h1=>?_)
 ·replace h1 : ¬ (((List.length x0 : Nat) : Int) = ((List.length x1 : Nat) : Int)) := of_decide_eq_false (notT h1)
  refine wp_seq ?_
  refine at_regq [] { ts:=[0,1,4],os:=[] } [] gamOK hT h (by kernel_rfl) trivial fun a w h=>then_normal (wp_ret (then_ret ?_))
  exact at_return (false,()) [] h (by kernel_rfl) trivial (congrArg (fun z=>(z,())) (show (false)=(Sh.eqB s22) x0 x1 from by exact (Sh.eqB_ne (fun e=>h1 (by rw [e]))).symm))
 ·replace h1 : ((List.length x0 : Nat) : Int) = ((List.length x1 : Nat) : Int) := of_decide_eq_true (notF h1)
  refine wp_skip (then_normal (wp_seq (wp_seq ?_)))
  refine at_regq [] { ts:=[0,1,4,5],os:=[] } [] gamOK hT h (by kernel_rfl) trivial fun a w h=>then_normal (wp_block ?_)
  replace h:=at_out (σ':=⟨[(0,aF (.int 3) x0),(1,aF (.int 3) x1),(4,aB false),(5,aI 0)],[]⟩) { ts:=[0,1,4,5],os:=[] } h (by kernel_rfl)
  refine at_loop (fun i:Nat=>(⟨[(0,aF (.int 3) x0),(1,aF (.int 3) x1),(4,aB false),(5,aI ((i:Nat):Int))],[]⟩:St)) (fun i=>(i≤List.length x0∧x0.take i=x1.take i)) (fun i=>List.length x0 - i) (0) h (st_congr1 (fun (d0:Int)=>(⟨[(0,aF (.int 3) x0),(1,aF (.int 3) x1),(4,aB false),(5,aI d0)],[]⟩:St)) (show (0:Int)=(((0):Nat):Int) from by first | with_reducible rfl | (rfl) | rfl)) (by exact ⟨Nat.zero_le _,rfl⟩) ?_
  intro i a w hok0 h
  refine wp_seq (wp_seq ?_)
  refine at_regq [] { ts:=[0,1,4,5,14],os:=[] } [] gamOK hT h (by kernel_rfl) trivial fun a w h=>then_normal ?_
  refine at_test (decide (((i:Nat):Int) < ((List.length x0:Nat):Int))) h (by kernel_rfl) (fun h2=>?_) (fun h2=>?_)
  ·replace h2 : ((i : Nat) : Int) < ((List.length x0 : Nat) : Int) := of_decide_eq_true h2
   refine wp_skip (then_normal (wp_seq (wp_block (wp_seq ?_))))
   refine at_anyq [{},{},{},{},{},{},{},{},{}] { ts:=[0,1,4,5,25],os:=[] } [(0:Int)≤((i:Nat):Int)∧((i:Nat):Int) < ((List.length x0:Nat):Int),(0:Int)≤((i:Nat):Int)∧((i:Nat):Int) < ((List.length x1:Nat):Int)] gamOK hT mixed h (by kernel_rfl) ⟨(by refine ⟨?_,?_⟩<;>(first | omega | (simp only [lsA];omega) | (simp<;>omega))),(by refine ⟨?_,?_⟩<;>(first | omega | (simp only [lsA];omega) | (simp<;>omega))),trivial⟩ fun a w h=>then_normal ?_
   refine at_test (!decide ((x0.getD i 0)=(x1.getD i 0))) h (by kernel_rfl) (fun h3=>?_) (fun h3=>?_)
   ·replace h3 : ¬ ((x0.getD i 0) = (x1.getD i 0)) := of_decide_eq_false (notT h3)
    refine wp_seq ?_
    refine at_regq [] { ts:=[0,1,4,5],os:=[] } [] gamOK hT h (by kernel_rfl) trivial fun a w h=>then_normal (wp_ret (in_ret (then_ret (then_ret (in_ret (then_ret ?_))))))
    exact at_return (false,()) [] h (by kernel_rfl) trivial (congrArg (fun z=>(z,())) (show (false)=(Sh.eqB s22) x0 x1 from by exact (Sh.eqB_ne (s:=s22) (fun e=>h3 (by rw [e]))).symm))
   ·replace h3 : (x0.getD i 0) = (x1.getD i 0) := of_decide_eq_true (notF h3)
    refine wp_skip (in_normal (then_normal ?_))
    refine at_regq [{},{ nw:=true }] { ts:=[0,1,4,5],os:=[] } [I64 (((i:Nat):Int)+1)] gamOK hT h (by kernel_rfl) ⟨⟨by first | omega | (simp only [lsA];omega) | (simp<;>omega),by first | omega | (simp only [lsA];omega) | (simp<;>omega)⟩,trivial⟩ fun a w h=>?_
    replace h:=at_out (σ':=⟨[(0,aF (.int 3) x0),(1,aF (.int 3) x1),(4,aB false),(5,aI (((i:Nat):Int)+1))],[]⟩) { ts:=[0,1,4,5],os:=[] } h (by kernel_rfl)
    exact ⟨i+1,at_eq h (st_congr1 (fun (d0:Int)=>(⟨[(0,aF (.int 3) x0),(1,aF (.int 3) x1),(4,aB false),(5,aI d0)],[]⟩:St)) (show (((i:Nat):Int)+1:Int)=(((i+1):Nat):Int) from by first | with_reducible rfl | (omega) | rfl)),(by exact ⟨by omega,eqTo_step (z:=0) (by omega) (by omega) hok0.2 h3⟩),(by omega)⟩
  ·replace h2 : ¬ (((i : Nat) : Int) < ((List.length x0 : Nat) : Int)) := of_decide_eq_false h2
   refine wp_exit (then_exit (then_exit (in_hit (then_normal (wp_seq ?_)))))
   refine at_regq [] { ts:=[4],os:=[] } [] gamOK hT h (by kernel_rfl) trivial fun a w h=>then_normal (wp_ret ?_)
   exact at_return (true,()) [] h (by kernel_rfl) trivial (congrArg (fun z=>(z,())) (show (true)=(Sh.eqB s22) x0 x1 from by (have e:=hok0.2;rw [take_all (by omega),take_all (by omega)] at e;exact ((Sh.eqB_iff s22).2 e).symm)))

def S_laws_eqIntSS:Sum:={ fid:=123,dom:=[s66,s66],cod:=[(.bool 4)],dp:=true,fz:=false,pre:=fun x=>True,g:=fun x=>(((Sh.eqB s66) x.1 x.2.1),()) }
def S_laws_eqIntSS_tab:List (Nat×Sum):=[(34,S_laws_eqIntS)]
theorem S_laws_eqIntSS_ok:FnOK Try.prog 123 S_laws_eqIntSS:=by
 refine at_enter 27 (fun x=>⟨[(0,aF s22 x.1),(1,aF s22 x.2.1)],[]⟩) Try.func123 rfl (by kernel_rfl) (fun x=>rfl) ?_
 rintro w0 Z0 ⟨x0,x1,u⟩ a w
 revert x0 x1
 intro (x0:(List (List Int))) (x1:(List (List Int))) hpre hlens h
 have hl1:List.length x0≤9223372036854775807:=hlens.1.1
 have hl2:List.length x1≤9223372036854775807:=hlens.2.1.1
 have hT:TabOK Try.prog S_laws_eqIntSS_tab:=(.cons S_laws_eqIntS_ok .nil)
 refine wp_seq ?_
 refine at_regq [] { ts:=[0,1,4],os:=[] } [] gamOK hT h (by kernel_rfl) trivial fun a w h=>then_normal (wp_seq (wp_seq ?_))
 refine at_regq [] { ts:=[0,1,4,10],os:=[] } [] gamOK hT h (by kernel_rfl) trivial fun a w h=>then_normal ?_
 refine at_test (!decide (((List.length x0:Nat):Int)=((List.length x1:Nat):Int))) h (by kernel_rfl) (fun h1=>?_) (fun h1=>?_)
 ·replace h1 : ¬ (((List.length x0 : Nat) : Int) = ((List.length x1 : Nat) : Int)) := of_decide_eq_false (notT h1)
  refine wp_seq ?_
  refine at_regq [] { ts:=[0,1,4],os:=[] } [] gamOK hT h (by kernel_rfl) trivial fun a w h=>then_normal (wp_ret (then_ret ?_))
  exact at_return (false,()) [] h (by kernel_rfl) trivial (congrArg (fun z=>(z,())) (show (false)=(Sh.eqB s66) x0 x1 from by exact (Sh.eqB_ne (fun e=>h1 (by rw [e]))).symm))
 ·replace h1 : ((List.length x0 : Nat) : Int) = ((List.length x1 : Nat) : Int) := of_decide_eq_true (notF h1)
  refine wp_skip (then_normal (wp_seq (wp_seq ?_)))
  refine at_regq [] { ts:=[0,1,4,5],os:=[] } [] gamOK hT h (by kernel_rfl) trivial fun a w h=>then_normal (wp_block ?_)
  replace h:=at_out (σ':=⟨[(0,aF s22 x0),(1,aF s22 x1),(4,aB false),(5,aI 0)],[]⟩) { ts:=[0,1,4,5],os:=[] } h (by kernel_rfl)
  refine at_loop (fun i:Nat=>(⟨[(0,aF s22 x0),(1,aF s22 x1),(4,aB false),(5,aI ((i:Nat):Int))],[]⟩:St)) (fun i=>(i≤List.length x0∧x0.take i=x1.take i)) (fun i=>List.length x0 - i) (0) h (st_congr1 (fun (d0:Int)=>(⟨[(0,aF s22 x0),(1,aF s22 x1),(4,aB false),(5,aI d0)],[]⟩:St)) (show (0:Int)=(((0):Nat):Int) from by first | with_reducible rfl | (rfl) | rfl)) (by exact ⟨Nat.zero_le _,rfl⟩) ?_
  intro i a w hok0 h
  refine wp_seq (wp_seq ?_)
  refine at_regq [] { ts:=[0,1,4,5,14],os:=[] } [] gamOK hT h (by kernel_rfl) trivial fun a w h=>then_normal ?_
  refine at_test (decide (((i:Nat):Int) < ((List.length x0:Nat):Int))) h (by kernel_rfl) (fun h2=>?_) (fun h2=>?_)
  ·replace h2 : ((i : Nat) : Int) < ((List.length x0 : Nat) : Int) := of_decide_eq_true h2
   refine wp_skip (then_normal (wp_seq (wp_block (wp_seq ?_))))
   refine at_anyq [{},{},{},{},{},{},{},{},{},{}] { ts:=[0,1,4,5,26],os:=[] } [(0:Int)≤((i:Nat):Int)∧((i:Nat):Int) < ((List.length x0:Nat):Int),(0:Int)≤((i:Nat):Int)∧((i:Nat):Int) < ((List.length x1:Nat):Int),True] gamOK hT mixed h (by kernel_rfl) ⟨(by refine ⟨?_,?_⟩<;>(first | omega | (simp only [lsA];omega) | (simp<;>omega))),(by refine ⟨?_,?_⟩<;>(first | omega | (simp only [lsA];omega) | (simp<;>omega))),trivial,trivial⟩ fun a w h=>then_normal ?_
   refine at_test (!((Sh.eqB s22) (x0.getD i []) (x1.getD i []))) h (by kernel_rfl) (fun h3=>?_) (fun h3=>?_)
   ·replace h3 : ((Sh.eqB s22) (x0.getD i []) (x1.getD i [])) = false := notT h3
    refine wp_seq ?_
    refine at_regq [] { ts:=[0,1,4,5],os:=[] } [] gamOK hT h (by kernel_rfl) trivial fun a w h=>then_normal (wp_ret (in_ret (then_ret (then_ret (in_ret (then_ret ?_))))))
    exact at_return (false,()) [] h (by kernel_rfl) trivial (congrArg (fun z=>(z,())) (show (false)=(Sh.eqB s66) x0 x1 from by exact (Sh.eqB_ne (s:=s66) (fun e=>Sh.of_eqB_ne h3 (by rw [e]))).symm))
   ·replace h3 : ((Sh.eqB s22) (x0.getD i []) (x1.getD i [])) = true := notF h3
    refine wp_skip (in_normal (then_normal ?_))
    refine at_regq [{},{ nw:=true }] { ts:=[0,1,4,5],os:=[] } [I64 (((i:Nat):Int)+1)] gamOK hT h (by kernel_rfl) ⟨⟨by first | omega | (simp only [lsA];omega) | (simp<;>omega),by first | omega | (simp only [lsA];omega) | (simp<;>omega)⟩,trivial⟩ fun a w h=>?_
    replace h:=at_out (σ':=⟨[(0,aF s22 x0),(1,aF s22 x1),(4,aB false),(5,aI (((i:Nat):Int)+1))],[]⟩) { ts:=[0,1,4,5],os:=[] } h (by kernel_rfl)
    exact ⟨i+1,at_eq h (st_congr1 (fun (d0:Int)=>(⟨[(0,aF s22 x0),(1,aF s22 x1),(4,aB false),(5,aI d0)],[]⟩:St)) (show (((i:Nat):Int)+1:Int)=(((i+1):Nat):Int) from by first | with_reducible rfl | (omega) | rfl)),(by exact ⟨by omega,eqTo_step (z:=[]) (by omega) (by omega) hok0.2 (Sh.of_eqB h3)⟩),(by omega)⟩
  ·replace h2 : ¬ (((i : Nat) : Int) < ((List.length x0 : Nat) : Int)) := of_decide_eq_false h2
   refine wp_exit (then_exit (then_exit (in_hit (then_normal (wp_seq ?_)))))
   refine at_regq [] { ts:=[4],os:=[] } [] gamOK hT h (by kernel_rfl) trivial fun a w h=>then_normal (wp_ret ?_)
   exact at_return (true,()) [] h (by kernel_rfl) trivial (congrArg (fun z=>(z,())) (show (true)=(Sh.eqB s66) x0 x1 from by (have e:=hok0.2;rw [take_all (by omega),take_all (by omega)] at e;exact ((Sh.eqB_iff s66).2 e).symm)))

def S_laws_eqBasis:Sum:={ fid:=122,dom:=[s95,s95],cod:=[(.bool 4)],dp:=true,fz:=false,pre:=fun x=>True,g:=fun x=>(((Sh.eqB s95) x.1 x.2.1),()) }
def S_laws_eqBasis_tab:List (Nat×Sum):=[(123,S_laws_eqIntSS)]
theorem S_laws_eqBasis_ok:FnOK Try.prog 122 S_laws_eqBasis:=by
 refine at_enter 16 (fun x=>⟨[(0,aG [cI x.1.1,.ro s22 x.1.2]),(1,aG [cI x.2.1.1,.ro s22 x.2.1.2])],[]⟩) Try.func122 rfl (by kernel_rfl) (fun x=>rfl) ?_
 rintro w0 Z0 ⟨x0,x1,u⟩ a w
 revert x0 x1
 intro (x0:T95) (x1:T95) hpre hlens h
 have hl1:List.length x0.2≤9223372036854775807:=hlens.1.2.1
 have hl2:List.length x1.2≤9223372036854775807:=hlens.2.1.2.1
 have hT:TabOK Try.prog S_laws_eqBasis_tab:=(.cons S_laws_eqIntSS_ok .nil)
 refine wp_seq ?_
 refine at_regq [{ ids:=[1] },{ ids:=[2] }] { ts:=[2,3,4],os:=[1,2] } [] gamOK hT h (by kernel_rfl) trivial fun a w h=>then_normal (wp_seq (wp_seq ?_))
 refine at_regq [] { ts:=[2,3,4,9],os:=[1,2] } [] gamOK hT h (by kernel_rfl) trivial fun a w h=>then_normal ?_
 refine at_test (!decide (x0.1=x1.1)) h (by kernel_rfl) (fun h1=>?_) (fun h1=>?_)
 ·replace h1 : ¬ (x0.1 = x1.1) := of_decide_eq_false (notT h1)
  refine wp_seq ?_
  refine at_regq [] { ts:=[2,3,4],os:=[1,2] } [] gamOK hT h (by kernel_rfl) trivial fun a w h=>then_normal (wp_ret (then_ret ?_))
  exact at_return (false,()) [] h (by kernel_rfl) trivial (congrArg (fun z=>(z,())) (show (false)=(Sh.eqB s95) x0 x1 from by exact (Sh.eqB_ne (s:=s95) (fun e=>h1 (congrArg (fun (y:T95)=>y.1) e))).symm))
 ·replace h1 : x0.1 = x1.1 := of_decide_eq_true (notF h1)
  refine wp_skip (then_normal (wp_seq (wp_seq ?_)))
  refine at_regq [] { ts:=[4,15],os:=[] } [True] gamOK hT h (by kernel_rfl) ⟨trivial,trivial⟩ fun a w h=>then_normal ?_
  refine at_test (!((Sh.eqB s66) x0.2 x1.2)) h (by kernel_rfl) (fun h2=>?_) (fun h2=>?_)
  ·replace h2 : ((Sh.eqB s66) x0.2 x1.2) = false := notT h2
   refine wp_seq ?_
   refine at_regq [] { ts:=[4],os:=[] } [] gamOK hT h (by kernel_rfl) trivial fun a w h=>then_normal (wp_ret (then_ret ?_))
   exact at_return (false,()) [] h (by kernel_rfl) trivial (congrArg (fun z=>(z,())) (show (false)=(Sh.eqB s95) x0 x1 from by exact (Sh.eqB_ne (s:=s95) (fun e=>Sh.of_eqB_ne h2 (congrArg (fun (y:T95)=>y.2) e))).symm))
  ·replace h2 : ((Sh.eqB s66) x0.2 x1.2) = true := notF h2
   refine wp_skip (then_normal (wp_seq ?_))
   refine at_regq [] { ts:=[4],os:=[] } [] gamOK hT h (by kernel_rfl) trivial fun a w h=>then_normal (wp_ret ?_)
   exact at_return (true,()) [] h (by kernel_rfl) trivial (congrArg (fun z=>(z,())) (show (true)=(Sh.eqB s95) x0 x1 from by exact ((Sh.eqB_iff s95).2 (Prod.ext h1 (Sh.of_eqB h2))).symm))

def S_laws_eqDecoder:Sum:={ fid:=80,dom:=[s97,s97],cod:=[(.bool 4)],dp:=true,fz:=false,pre:=fun x=>True,g:=fun x=>(((Sh.eqB s97) x.1 x.2.1),()) }
def S_laws_eqDecoder_tab:List (Nat×Sum):=[(122,S_laws_eqBasis)]
theorem S_laws_eqDecoder_ok:FnOK Try.prog 80 S_laws_eqDecoder:=by
 refine at_enter 26 (fun x=>⟨[(0,aG [cI x.1.1,cI x.1.2.1,cI x.1.2.2.1,cI x.1.2.2.2.1,.ro s22 x.1.2.2.2.2]),(1,aG [cI x.2.1.1,cI x.2.1.2.1,cI x.2.1.2.2.1,cI x.2.1.2.2.2.1,.ro s22 x.2.1.2.2.2.2])],[]⟩) Try.func80 rfl (by kernel_rfl) (fun x=>rfl) ?_
 rintro w0 Z0 ⟨x0,x1,u⟩ a w
 revert x0 x1
 intro (x0:T97) (x1:T97) hpre hlens h
 have hl1:List.length x0.2.2.2.2≤9223372036854775807:=hlens.1.2.2.2.2.1
 have hl2:List.length x1.2.2.2.2≤9223372036854775807:=hlens.2.1.2.2.2.2.1
 have hT:TabOK Try.prog S_laws_eqDecoder_tab:=(.cons S_laws_eqBasis_ok .nil)
 refine wp_seq ?_
 refine at_regq [{ ids:=[1] },{ ids:=[2] }] { ts:=[2,3,4],os:=[1,2] } [] gamOK hT h (by kernel_rfl) trivial fun a w h=>then_normal (wp_seq (wp_seq ?_))
 refine at_regq [] { ts:=[2,3,4,9],os:=[1,2] } [] gamOK hT h (by kernel_rfl) trivial fun a w h=>then_normal ?_
 refine at_test (!decide (x0.1=x1.1)) h (by kernel_rfl) (fun h1=>?_) (fun h1=>?_)
 ·replace h1 : ¬ (x0.1 = x1.1) := of_decide_eq_false (notT h1)
  refine wp_seq ?_
  refine at_regq [] { ts:=[2,3,4],os:=[1,2] } [] gamOK hT h (by kernel_rfl) trivial fun a w h=>then_normal (wp_ret (then_ret ?_))
  exact at_return (false,()) [] h (by kernel_rfl) trivial (congrArg (fun z=>(z,())) (show (false)=(Sh.eqB s97) x0 x1 from by exact (Sh.eqB_ne (s:=s97) (fun e=>h1 (congrArg (fun (y:T97)=>y.1) e))).symm))
 ·replace h1 : x0.1 = x1.1 := of_decide_eq_true (notF h1)
  refine wp_skip (then_normal (wp_seq (wp_seq ?_)))
  refine at_regq [] { ts:=[2,3,4,14],os:=[1,2] } [] gamOK hT h (by kernel_rfl) trivial fun a w h=>then_normal ?_
  refine at_test (!decide (x0.2.1=x1.2.1)) h (by kernel_rfl) (fun h2=>?_) (fun h2=>?_)
  ·replace h2 : ¬ (x0.2.1 = x1.2.1) := of_decide_eq_false (notT h2)
   refine wp_seq ?_
   refine at_regq [] { ts:=[2,3,4],os:=[1,2] } [] gamOK hT h (by kernel_rfl) trivial fun a w h=>then_normal (wp_ret (then_ret ?_))
   exact at_return (false,()) [] h (by kernel_rfl) trivial (congrArg (fun z=>(z,())) (show (false)=(Sh.eqB s97) x0 x1 from by exact (Sh.eqB_ne (s:=s97) (fun e=>h2 (congrArg (fun (y:T97)=>y.2.1) e))).symm))
  ·replace h2 : x0.2.1 = x1.2.1 := of_decide_eq_true (notF h2)
   refine wp_skip (then_normal (wp_seq (wp_seq ?_)))
   refine at_regq [] { ts:=[2,3,4,19],os:=[1,2] } [] gamOK hT h (by kernel_rfl) trivial fun a w h=>then_normal ?_
   refine at_test (!decide (x0.2.2.1=x1.2.2.1)) h (by kernel_rfl) (fun h3=>?_) (fun h3=>?_)
   ·replace h3 : ¬ (x0.2.2.1 = x1.2.2.1) := of_decide_eq_false (notT h3)
    refine wp_seq ?_
    refine at_regq [] { ts:=[2,3,4],os:=[1,2] } [] gamOK hT h (by kernel_rfl) trivial fun a w h=>then_normal (wp_ret (then_ret ?_))
    exact at_return (false,()) [] h (by kernel_rfl) trivial (congrArg (fun z=>(z,())) (show (false)=(Sh.eqB s97) x0 x1 from by exact (Sh.eqB_ne (s:=s97) (fun e=>h3 (congrArg (fun (y:T97)=>y.2.2.1) e))).symm))
   ·replace h3 : x0.2.2.1 = x1.2.2.1 := of_decide_eq_true (notF h3)
    refine wp_skip (then_normal (wp_seq (wp_seq ?_)))
    refine at_regq [] { ts:=[4,25],os:=[] } [True] gamOK hT h (by kernel_rfl) ⟨trivial,trivial⟩ fun a w h=>then_normal ?_
    refine at_test (!((Sh.eqB s95) x0.2.2.2 x1.2.2.2)) h (by kernel_rfl) (fun h4=>?_) (fun h4=>?_)
    ·replace h4 : ((Sh.eqB s95) x0.2.2.2 x1.2.2.2) = false := notT h4
     refine wp_seq ?_
     refine at_regq [] { ts:=[4],os:=[] } [] gamOK hT h (by kernel_rfl) trivial fun a w h=>then_normal (wp_ret (then_ret ?_))
     exact at_return (false,()) [] h (by kernel_rfl) trivial (congrArg (fun z=>(z,())) (show (false)=(Sh.eqB s97) x0 x1 from by exact (Sh.eqB_ne (s:=s97) (fun e=>Sh.of_eqB_ne h4 (congrArg (fun (y:T97)=>y.2.2.2) e))).symm))
    ·replace h4 : ((Sh.eqB s95) x0.2.2.2 x1.2.2.2) = true := notF h4
     refine wp_skip (then_normal (wp_seq ?_))
     refine at_regq [] { ts:=[4],os:=[] } [] gamOK hT h (by kernel_rfl) trivial fun a w h=>then_normal (wp_ret ?_)
     exact at_return (true,()) [] h (by kernel_rfl) trivial (congrArg (fun z=>(z,())) (show (true)=(Sh.eqB s97) x0 x1 from by exact ((Sh.eqB_iff s97).2 (Prod.ext h1 (Prod.ext h2 (Prod.ext h3 (Sh.of_eqB h4))))).symm))

def S_laws_eqDecoderS:Sum:={ fid:=35,dom:=[s28,s28],cod:=[(.bool 4)],dp:=true,fz:=false,pre:=fun x=>True,g:=fun x=>(((Sh.eqB s28) x.1 x.2.1),()) }
def S_laws_eqDecoderS_tab:List (Nat×Sum):=[(80,S_laws_eqDecoder)]
theorem S_laws_eqDecoderS_ok:FnOK Try.prog 35 S_laws_eqDecoderS:=by
 refine at_enter 27 (fun x=>⟨[(0,aF s97 x.1),(1,aF s97 x.2.1)],[]⟩) Try.func35 rfl (by kernel_rfl) (fun x=>rfl) ?_
 rintro w0 Z0 ⟨x0,x1,u⟩ a w
 revert x0 x1
 intro (x0:(List T97)) (x1:(List T97)) hpre hlens h
 have hl1:List.length x0≤9223372036854775807:=hlens.1.1
 have hl2:List.length x1≤9223372036854775807:=hlens.2.1.1
 have hT:TabOK Try.prog S_laws_eqDecoderS_tab:=(.cons S_laws_eqDecoder_ok .nil)
 refine wp_seq ?_
 refine at_regq [] { ts:=[0,1,4],os:=[] } [] gamOK hT h (by kernel_rfl) trivial fun a w h=>then_normal (wp_seq (wp_seq ?_))
 refine at_regq [] { ts:=[0,1,4,10],os:=[] } [] gamOK hT h (by kernel_rfl) trivial fun a w h=>then_normal ?_
 refine at_test (!decide (((List.length x0:Nat):Int)=((List.length x1:Nat):Int))) h (by kernel_rfl) (fun h1=>?_) (fun h1=>?_)
 ·replace h1 : ¬ (((List.length x0 : Nat) : Int) = ((List.length x1 : Nat) : Int)) := of_decide_eq_false (notT h1)
  refine wp_seq ?_
  refine at_regq [] { ts:=[0,1,4],os:=[] } [] gamOK hT h (by kernel_rfl) trivial fun a w h=>then_normal (wp_ret (then_ret ?_))
  exact at_return (false,()) [] h (by kernel_rfl) trivial (congrArg (fun z=>(z,())) (show (false)=(Sh.eqB s28) x0 x1 from by exact (Sh.eqB_ne (fun e=>h1 (by rw [e]))).symm))
 ·replace h1 : ((List.length x0 : Nat) : Int) = ((List.length x1 : Nat) : Int) := of_decide_eq_true (notF h1)
  refine wp_skip (then_normal (wp_seq (wp_seq ?_)))
  refine at_regq [] { ts:=[0,1,4,5],os:=[] } [] gamOK hT h (by kernel_rfl) trivial fun a w h=>then_normal (wp_block ?_)
  replace h:=at_out (σ':=⟨[(0,aF s97 x0),(1,aF s97 x1),(4,aB false),(5,aI 0)],[]⟩) { ts:=[0,1,4,5],os:=[] } h (by kernel_rfl)
  refine at_loop (fun i:Nat=>(⟨[(0,aF s97 x0),(1,aF s97 x1),(4,aB false),(5,aI ((i:Nat):Int))],[]⟩:St)) (fun i=>(i≤List.length x0∧x0.take i=x1.take i)) (fun i=>List.length x0 - i) (0) h (st_congr1 (fun (d0:Int)=>(⟨[(0,aF s97 x0),(1,aF s97 x1),(4,aB false),(5,aI d0)],[]⟩:St)) (show (0:Int)=(((0):Nat):Int) from by first | with_reducible rfl | (rfl) | rfl)) (by exact ⟨Nat.zero_le _,rfl⟩) ?_
  intro i a w hok0 h
  refine wp_seq (wp_seq ?_)
  refine at_regq [] { ts:=[0,1,4,5,14],os:=[] } [] gamOK hT h (by kernel_rfl) trivial fun a w h=>then_normal ?_
  refine at_test (decide (((i:Nat):Int) < ((List.length x0:Nat):Int))) h (by kernel_rfl) (fun h2=>?_) (fun h2=>?_)
  ·replace h2 : ((i : Nat) : Int) < ((List.length x0 : Nat) : Int) := of_decide_eq_true h2
   refine wp_skip (then_normal (wp_seq (wp_block (wp_seq ?_))))
   refine at_anyq [{},{},{},{},{},{},{},{},{},{}] { ts:=[0,1,4,5,26],os:=[] } [(0:Int)≤((i:Nat):Int)∧((i:Nat):Int) < ((List.length x0:Nat):Int),(0:Int)≤((i:Nat):Int)∧((i:Nat):Int) < ((List.length x1:Nat):Int),True] gamOK hT mixed h (by kernel_rfl) ⟨(by refine ⟨?_,?_⟩<;>(first | omega | (simp only [lsA];omega) | (simp<;>omega))),(by refine ⟨?_,?_⟩<;>(first | omega | (simp only [lsA];omega) | (simp<;>omega))),trivial,trivial⟩ fun a w h=>then_normal ?_
   refine at_test (!((Sh.eqB s97) (x0.getD i (0,(0,(0,(0,[]))))) (x1.getD i (0,(0,(0,(0,[]))))))) h (by kernel_rfl) (fun h3=>?_) (fun h3=>?_)
   ·replace h3 : ((Sh.eqB s97) (x0.getD i (0, (0, (0, (0, []))))) (x1.getD i (0, (0, (0, (0, [])))))) = false := notT h3
    refine wp_seq ?_
    refine at_regq [] { ts:=[0,1,4,5],os:=[] } [] gamOK hT h (by kernel_rfl) trivial fun a w h=>then_normal (wp_ret (in_ret (then_ret (then_ret (in_ret (then_ret ?_))))))
    exact at_return (false,()) [] h (by kernel_rfl) trivial (congrArg (fun z=>(z,())) (show (false)=(Sh.eqB s28) x0 x1 from by exact (Sh.eqB_ne (s:=s28) (fun e=>Sh.of_eqB_ne h3 (by rw [e]))).symm))
   ·replace h3 : ((Sh.eqB s97) (x0.getD i (0, (0, (0, (0, []))))) (x1.getD i (0, (0, (0, (0, [])))))) = true := notF h3
    refine wp_skip (in_normal (then_normal ?_))
    refine at_regq [{},{ nw:=true }] { ts:=[0,1,4,5],os:=[] } [I64 (((i:Nat):Int)+1)] gamOK hT h (by kernel_rfl) ⟨⟨by first | omega | (simp only [lsA];omega) | (simp<;>omega),by first | omega | (simp only [lsA];omega) | (simp<;>omega)⟩,trivial⟩ fun a w h=>?_
    replace h:=at_out (σ':=⟨[(0,aF s97 x0),(1,aF s97 x1),(4,aB false),(5,aI (((i:Nat):Int)+1))],[]⟩) { ts:=[0,1,4,5],os:=[] } h (by kernel_rfl)
    exact ⟨i+1,at_eq h (st_congr1 (fun (d0:Int)=>(⟨[(0,aF s97 x0),(1,aF s97 x1),(4,aB false),(5,aI d0)],[]⟩:St)) (show (((i:Nat):Int)+1:Int)=(((i+1):Nat):Int) from by first | with_reducible rfl | (omega) | rfl)),(by exact ⟨by omega,eqTo_step (z:=(0,(0,(0,(0,[]))))) (by omega) (by omega) hok0.2 (Sh.of_eqB h3)⟩),(by omega)⟩
  ·replace h2 : ¬ (((i : Nat) : Int) < ((List.length x0 : Nat) : Int)) := of_decide_eq_false h2
   refine wp_exit (then_exit (then_exit (in_hit (then_normal (wp_seq ?_)))))
   refine at_regq [] { ts:=[4],os:=[] } [] gamOK hT h (by kernel_rfl) trivial fun a w h=>then_normal (wp_ret ?_)
   exact at_return (true,()) [] h (by kernel_rfl) trivial (congrArg (fun z=>(z,())) (show (true)=(Sh.eqB s28) x0 x1 from by (have e:=hok0.2;rw [take_all (by omega),take_all (by omega)] at e;exact ((Sh.eqB_iff s28).2 e).symm)))

def S_laws_eqGeneration:Sum:={ fid:=81,dom:=[s68,s68],cod:=[(.bool 4)],dp:=true,fz:=false,pre:=fun x=>True,g:=fun x=>(((Sh.eqB s68) x.1 x.2.1),()) }
def S_laws_eqGeneration_tab:List (Nat×Sum):=[(123,S_laws_eqIntSS)]
theorem S_laws_eqGeneration_ok:FnOK Try.prog 81 S_laws_eqGeneration:=by
 refine at_enter 16 (fun x=>⟨[(0,aG [cI x.1.1,.ro s22 x.1.2]),(1,aG [cI x.2.1.1,.ro s22 x.2.1.2])],[]⟩) Try.func81 rfl (by kernel_rfl) (fun x=>rfl) ?_
 rintro w0 Z0 ⟨x0,x1,u⟩ a w
 revert x0 x1
 intro (x0:T68) (x1:T68) hpre hlens h
 have hl1:List.length x0.2≤9223372036854775807:=hlens.1.2.1
 have hl2:List.length x1.2≤9223372036854775807:=hlens.2.1.2.1
 have hT:TabOK Try.prog S_laws_eqGeneration_tab:=(.cons S_laws_eqIntSS_ok .nil)
 refine wp_seq ?_
 refine at_regq [{ ids:=[1] },{ ids:=[2] }] { ts:=[2,3,4],os:=[1,2] } [] gamOK hT h (by kernel_rfl) trivial fun a w h=>then_normal (wp_seq (wp_seq ?_))
 refine at_regq [] { ts:=[2,3,4,9],os:=[1,2] } [] gamOK hT h (by kernel_rfl) trivial fun a w h=>then_normal ?_
 refine at_test (!decide (x0.1=x1.1)) h (by kernel_rfl) (fun h1=>?_) (fun h1=>?_)
 ·replace h1 : ¬ (x0.1 = x1.1) := of_decide_eq_false (notT h1)
  refine wp_seq ?_
  refine at_regq [] { ts:=[2,3,4],os:=[1,2] } [] gamOK hT h (by kernel_rfl) trivial fun a w h=>then_normal (wp_ret (then_ret ?_))
  exact at_return (false,()) [] h (by kernel_rfl) trivial (congrArg (fun z=>(z,())) (show (false)=(Sh.eqB s68) x0 x1 from by exact (Sh.eqB_ne (s:=s68) (fun e=>h1 (congrArg (fun (y:T68)=>y.1) e))).symm))
 ·replace h1 : x0.1 = x1.1 := of_decide_eq_true (notF h1)
  refine wp_skip (then_normal (wp_seq (wp_seq ?_)))
  refine at_regq [] { ts:=[4,15],os:=[] } [True] gamOK hT h (by kernel_rfl) ⟨trivial,trivial⟩ fun a w h=>then_normal ?_
  refine at_test (!((Sh.eqB s66) x0.2 x1.2)) h (by kernel_rfl) (fun h2=>?_) (fun h2=>?_)
  ·replace h2 : ((Sh.eqB s66) x0.2 x1.2) = false := notT h2
   refine wp_seq ?_
   refine at_regq [] { ts:=[4],os:=[] } [] gamOK hT h (by kernel_rfl) trivial fun a w h=>then_normal (wp_ret (then_ret ?_))
   exact at_return (false,()) [] h (by kernel_rfl) trivial (congrArg (fun z=>(z,())) (show (false)=(Sh.eqB s68) x0 x1 from by exact (Sh.eqB_ne (s:=s68) (fun e=>Sh.of_eqB_ne h2 (congrArg (fun (y:T68)=>y.2) e))).symm))
  ·replace h2 : ((Sh.eqB s66) x0.2 x1.2) = true := notF h2
   refine wp_skip (then_normal (wp_seq ?_))
   refine at_regq [] { ts:=[4],os:=[] } [] gamOK hT h (by kernel_rfl) trivial fun a w h=>then_normal (wp_ret ?_)
   exact at_return (true,()) [] h (by kernel_rfl) trivial (congrArg (fun z=>(z,())) (show (true)=(Sh.eqB s68) x0 x1 from by exact ((Sh.eqB_iff s68).2 (Prod.ext h1 (Sh.of_eqB h2))).symm))

def S_laws_eqGenerationS:Sum:={ fid:=36,dom:=[s29,s29],cod:=[(.bool 4)],dp:=true,fz:=false,pre:=fun x=>True,g:=fun x=>(((Sh.eqB s29) x.1 x.2.1),()) }
def S_laws_eqGenerationS_tab:List (Nat×Sum):=[(81,S_laws_eqGeneration)]
theorem S_laws_eqGenerationS_ok:FnOK Try.prog 36 S_laws_eqGenerationS:=by
 refine at_enter 27 (fun x=>⟨[(0,aF s68 x.1),(1,aF s68 x.2.1)],[]⟩) Try.func36 rfl (by kernel_rfl) (fun x=>rfl) ?_
 rintro w0 Z0 ⟨x0,x1,u⟩ a w
 revert x0 x1
 intro (x0:(List T68)) (x1:(List T68)) hpre hlens h
 have hl1:List.length x0≤9223372036854775807:=hlens.1.1
 have hl2:List.length x1≤9223372036854775807:=hlens.2.1.1
 have hT:TabOK Try.prog S_laws_eqGenerationS_tab:=(.cons S_laws_eqGeneration_ok .nil)
 refine wp_seq ?_
 refine at_regq [] { ts:=[0,1,4],os:=[] } [] gamOK hT h (by kernel_rfl) trivial fun a w h=>then_normal (wp_seq (wp_seq ?_))
 refine at_regq [] { ts:=[0,1,4,10],os:=[] } [] gamOK hT h (by kernel_rfl) trivial fun a w h=>then_normal ?_
 refine at_test (!decide (((List.length x0:Nat):Int)=((List.length x1:Nat):Int))) h (by kernel_rfl) (fun h1=>?_) (fun h1=>?_)
 ·replace h1 : ¬ (((List.length x0 : Nat) : Int) = ((List.length x1 : Nat) : Int)) := of_decide_eq_false (notT h1)
  refine wp_seq ?_
  refine at_regq [] { ts:=[0,1,4],os:=[] } [] gamOK hT h (by kernel_rfl) trivial fun a w h=>then_normal (wp_ret (then_ret ?_))
  exact at_return (false,()) [] h (by kernel_rfl) trivial (congrArg (fun z=>(z,())) (show (false)=(Sh.eqB s29) x0 x1 from by exact (Sh.eqB_ne (fun e=>h1 (by rw [e]))).symm))
 ·replace h1 : ((List.length x0 : Nat) : Int) = ((List.length x1 : Nat) : Int) := of_decide_eq_true (notF h1)
  refine wp_skip (then_normal (wp_seq (wp_seq ?_)))
  refine at_regq [] { ts:=[0,1,4,5],os:=[] } [] gamOK hT h (by kernel_rfl) trivial fun a w h=>then_normal (wp_block ?_)
  replace h:=at_out (σ':=⟨[(0,aF s68 x0),(1,aF s68 x1),(4,aB false),(5,aI 0)],[]⟩) { ts:=[0,1,4,5],os:=[] } h (by kernel_rfl)
  refine at_loop (fun i:Nat=>(⟨[(0,aF s68 x0),(1,aF s68 x1),(4,aB false),(5,aI ((i:Nat):Int))],[]⟩:St)) (fun i=>(i≤List.length x0∧x0.take i=x1.take i)) (fun i=>List.length x0 - i) (0) h (st_congr1 (fun (d0:Int)=>(⟨[(0,aF s68 x0),(1,aF s68 x1),(4,aB false),(5,aI d0)],[]⟩:St)) (show (0:Int)=(((0):Nat):Int) from by first | with_reducible rfl | (rfl) | rfl)) (by exact ⟨Nat.zero_le _,rfl⟩) ?_
  intro i a w hok0 h
  refine wp_seq (wp_seq ?_)
  refine at_regq [] { ts:=[0,1,4,5,14],os:=[] } [] gamOK hT h (by kernel_rfl) trivial fun a w h=>then_normal ?_
  refine at_test (decide (((i:Nat):Int) < ((List.length x0:Nat):Int))) h (by kernel_rfl) (fun h2=>?_) (fun h2=>?_)
  ·replace h2 : ((i : Nat) : Int) < ((List.length x0 : Nat) : Int) := of_decide_eq_true h2
   refine wp_skip (then_normal (wp_seq (wp_block (wp_seq ?_))))
   refine at_anyq [{},{},{},{},{},{},{},{},{},{}] { ts:=[0,1,4,5,26],os:=[] } [(0:Int)≤((i:Nat):Int)∧((i:Nat):Int) < ((List.length x0:Nat):Int),(0:Int)≤((i:Nat):Int)∧((i:Nat):Int) < ((List.length x1:Nat):Int),True] gamOK hT mixed h (by kernel_rfl) ⟨(by refine ⟨?_,?_⟩<;>(first | omega | (simp only [lsA];omega) | (simp<;>omega))),(by refine ⟨?_,?_⟩<;>(first | omega | (simp only [lsA];omega) | (simp<;>omega))),trivial,trivial⟩ fun a w h=>then_normal ?_
   refine at_test (!((Sh.eqB s68) (x0.getD i (0,[])) (x1.getD i (0,[])))) h (by kernel_rfl) (fun h3=>?_) (fun h3=>?_)
   ·replace h3 : ((Sh.eqB s68) (x0.getD i (0, [])) (x1.getD i (0, []))) = false := notT h3
    refine wp_seq ?_
    refine at_regq [] { ts:=[0,1,4,5],os:=[] } [] gamOK hT h (by kernel_rfl) trivial fun a w h=>then_normal (wp_ret (in_ret (then_ret (then_ret (in_ret (then_ret ?_))))))
    exact at_return (false,()) [] h (by kernel_rfl) trivial (congrArg (fun z=>(z,())) (show (false)=(Sh.eqB s29) x0 x1 from by exact (Sh.eqB_ne (s:=s29) (fun e=>Sh.of_eqB_ne h3 (by rw [e]))).symm))
   ·replace h3 : ((Sh.eqB s68) (x0.getD i (0, [])) (x1.getD i (0, []))) = true := notF h3
    refine wp_skip (in_normal (then_normal ?_))
    refine at_regq [{},{ nw:=true }] { ts:=[0,1,4,5],os:=[] } [I64 (((i:Nat):Int)+1)] gamOK hT h (by kernel_rfl) ⟨⟨by first | omega | (simp only [lsA];omega) | (simp<;>omega),by first | omega | (simp only [lsA];omega) | (simp<;>omega)⟩,trivial⟩ fun a w h=>?_
    replace h:=at_out (σ':=⟨[(0,aF s68 x0),(1,aF s68 x1),(4,aB false),(5,aI (((i:Nat):Int)+1))],[]⟩) { ts:=[0,1,4,5],os:=[] } h (by kernel_rfl)
    exact ⟨i+1,at_eq h (st_congr1 (fun (d0:Int)=>(⟨[(0,aF s68 x0),(1,aF s68 x1),(4,aB false),(5,aI d0)],[]⟩:St)) (show (((i:Nat):Int)+1:Int)=(((i+1):Nat):Int) from by first | with_reducible rfl | (omega) | rfl)),(by exact ⟨by omega,eqTo_step (z:=(0,[])) (by omega) (by omega) hok0.2 (Sh.of_eqB h3)⟩),(by omega)⟩
  ·replace h2 : ¬ (((i : Nat) : Int) < ((List.length x0 : Nat) : Int)) := of_decide_eq_false h2
   refine wp_exit (then_exit (then_exit (in_hit (then_normal (wp_seq ?_)))))
   refine at_regq [] { ts:=[4],os:=[] } [] gamOK hT h (by kernel_rfl) trivial fun a w h=>then_normal (wp_ret ?_)
   exact at_return (true,()) [] h (by kernel_rfl) trivial (congrArg (fun z=>(z,())) (show (true)=(Sh.eqB s29) x0 x1 from by (have e:=hok0.2;rw [take_all (by omega),take_all (by omega)] at e;exact ((Sh.eqB_iff s29).2 e).symm)))

def S_laws_eqSink:Sum:={ fid:=9,dom:=[s31,s31],cod:=[(.bool 4)],dp:=true,fz:=false,pre:=fun x=>True,g:=fun x=>(((Sh.eqB s31) x.1 x.2.1),()) }
def S_laws_eqSink_tab:List (Nat×Sum):=[(34,S_laws_eqIntS),(35,S_laws_eqDecoderS),(36,S_laws_eqGenerationS)]
theorem S_laws_eqSink_ok:FnOK Try.prog 9 S_laws_eqSink:=by
 refine at_enter 38 (fun x=>⟨[(0,aG [cI x.1.1,cI x.1.2.1,.ro (.int 3) x.1.2.2.1,.ro s97 x.1.2.2.2.1,.ro s68 x.1.2.2.2.2.1,cI x.1.2.2.2.2.2]),(1,aG [cI x.2.1.1,cI x.2.1.2.1,.ro (.int 3) x.2.1.2.2.1,.ro s97 x.2.1.2.2.2.1,.ro s68 x.2.1.2.2.2.2.1,cI x.2.1.2.2.2.2.2])],[]⟩) Try.func9 rfl (by kernel_rfl) (fun x=>rfl) ?_
 rintro w0 Z0 ⟨x0,x1,u⟩ a w
 revert x0 x1
 intro (x0:T31) (x1:T31) hpre hlens h
 have hl1:List.length x0.2.2.1≤9223372036854775807:=hlens.1.2.2.1.1
 have hl2:List.length x0.2.2.2.1≤9223372036854775807:=hlens.1.2.2.2.1.1
 have hl3:List.length x0.2.2.2.2.1≤9223372036854775807:=hlens.1.2.2.2.2.1.1
 have hl4:List.length x1.2.2.1≤9223372036854775807:=hlens.2.1.2.2.1.1
 have hl5:List.length x1.2.2.2.1≤9223372036854775807:=hlens.2.1.2.2.2.1.1
 have hl6:List.length x1.2.2.2.2.1≤9223372036854775807:=hlens.2.1.2.2.2.2.1.1
 have hT:TabOK Try.prog S_laws_eqSink_tab:=(.cons S_laws_eqIntS_ok (.cons S_laws_eqDecoderS_ok (.cons S_laws_eqGenerationS_ok .nil)))
 refine wp_seq ?_
 refine at_regq [{ ids:=[1] },{ ids:=[2] }] { ts:=[2,3,4],os:=[1,2] } [] gamOK hT h (by kernel_rfl) trivial fun a w h=>then_normal (wp_seq (wp_seq ?_))
 refine at_regq [] { ts:=[2,3,4,9],os:=[1,2] } [] gamOK hT h (by kernel_rfl) trivial fun a w h=>then_normal ?_
 refine at_test (!decide (x0.1=x1.1)) h (by kernel_rfl) (fun h1=>?_) (fun h1=>?_)
 ·replace h1 : ¬ (x0.1 = x1.1) := of_decide_eq_false (notT h1)
  refine wp_seq ?_
  refine at_regq [] { ts:=[2,3,4],os:=[1,2] } [] gamOK hT h (by kernel_rfl) trivial fun a w h=>then_normal (wp_ret (then_ret ?_))
  exact at_return (false,()) [] h (by kernel_rfl) trivial (congrArg (fun z=>(z,())) (show (false)=(Sh.eqB s31) x0 x1 from by exact (Sh.eqB_ne (s:=s31) (fun e=>h1 (congrArg (fun (y:T31)=>y.1) e))).symm))
 ·replace h1 : x0.1 = x1.1 := of_decide_eq_true (notF h1)
  refine wp_skip (then_normal (wp_seq (wp_seq ?_)))
  refine at_regq [] { ts:=[2,3,4,14],os:=[1,2] } [] gamOK hT h (by kernel_rfl) trivial fun a w h=>then_normal ?_
  refine at_test (!decide (x0.2.1=x1.2.1)) h (by kernel_rfl) (fun h2=>?_) (fun h2=>?_)
  ·replace h2 : ¬ (x0.2.1 = x1.2.1) := of_decide_eq_false (notT h2)
   refine wp_seq ?_
   refine at_regq [] { ts:=[2,3,4],os:=[1,2] } [] gamOK hT h (by kernel_rfl) trivial fun a w h=>then_normal (wp_ret (then_ret ?_))
   exact at_return (false,()) [] h (by kernel_rfl) trivial (congrArg (fun z=>(z,())) (show (false)=(Sh.eqB s31) x0 x1 from by exact (Sh.eqB_ne (s:=s31) (fun e=>h2 (congrArg (fun (y:T31)=>y.2.1) e))).symm))
  ·replace h2 : x0.2.1 = x1.2.1 := of_decide_eq_true (notF h2)
   refine wp_skip (then_normal (wp_seq (wp_seq ?_)))
   refine at_regq [] { ts:=[2,3,4,20],os:=[1,2] } [True] gamOK hT h (by kernel_rfl) ⟨trivial,trivial⟩ fun a w h=>then_normal ?_
   refine at_test (!((Sh.eqB s22) x0.2.2.1 x1.2.2.1)) h (by kernel_rfl) (fun h3=>?_) (fun h3=>?_)
   ·replace h3 : ((Sh.eqB s22) x0.2.2.1 x1.2.2.1) = false := notT h3
    refine wp_seq ?_
    refine at_regq [] { ts:=[2,3,4],os:=[1,2] } [] gamOK hT h (by kernel_rfl) trivial fun a w h=>then_normal (wp_ret (then_ret ?_))
    exact at_return (false,()) [] h (by kernel_rfl) trivial (congrArg (fun z=>(z,())) (show (false)=(Sh.eqB s31) x0 x1 from by exact (Sh.eqB_ne (s:=s31) (fun e=>Sh.of_eqB_ne h3 (congrArg (fun (y:T31)=>y.2.2.1) e))).symm))
   ·replace h3 : ((Sh.eqB s22) x0.2.2.1 x1.2.2.1) = true := notF h3
    refine wp_skip (then_normal (wp_seq (wp_seq ?_)))
    refine at_regq [] { ts:=[2,3,4,26],os:=[1,2] } [True] gamOK hT h (by kernel_rfl) ⟨trivial,trivial⟩ fun a w h=>then_normal ?_
    refine at_test (!((Sh.eqB s28) x0.2.2.2.1 x1.2.2.2.1)) h (by kernel_rfl) (fun h4=>?_) (fun h4=>?_)
    ·replace h4 : ((Sh.eqB s28) x0.2.2.2.1 x1.2.2.2.1) = false := notT h4
     refine wp_seq ?_
     refine at_regq [] { ts:=[2,3,4],os:=[1,2] } [] gamOK hT h (by kernel_rfl) trivial fun a w h=>then_normal (wp_ret (then_ret ?_))
     exact at_return (false,()) [] h (by kernel_rfl) trivial (congrArg (fun z=>(z,())) (show (false)=(Sh.eqB s31) x0 x1 from by exact (Sh.eqB_ne (s:=s31) (fun e=>Sh.of_eqB_ne h4 (congrArg (fun (y:T31)=>y.2.2.2.1) e))).symm))
    ·replace h4 : ((Sh.eqB s28) x0.2.2.2.1 x1.2.2.2.1) = true := notF h4
     refine wp_skip (then_normal (wp_seq (wp_seq ?_)))
     refine at_regq [] { ts:=[2,3,4,32],os:=[1,2] } [True] gamOK hT h (by kernel_rfl) ⟨trivial,trivial⟩ fun a w h=>then_normal ?_
     refine at_test (!((Sh.eqB s29) x0.2.2.2.2.1 x1.2.2.2.2.1)) h (by kernel_rfl) (fun h5=>?_) (fun h5=>?_)
     ·replace h5 : ((Sh.eqB s29) x0.2.2.2.2.1 x1.2.2.2.2.1) = false := notT h5
      refine wp_seq ?_
      refine at_regq [] { ts:=[2,3,4],os:=[1,2] } [] gamOK hT h (by kernel_rfl) trivial fun a w h=>then_normal (wp_ret (then_ret ?_))
      exact at_return (false,()) [] h (by kernel_rfl) trivial (congrArg (fun z=>(z,())) (show (false)=(Sh.eqB s31) x0 x1 from by exact (Sh.eqB_ne (s:=s31) (fun e=>Sh.of_eqB_ne h5 (congrArg (fun (y:T31)=>y.2.2.2.2.1) e))).symm))
     ·replace h5 : ((Sh.eqB s29) x0.2.2.2.2.1 x1.2.2.2.2.1) = true := notF h5
      refine wp_skip (then_normal (wp_seq (wp_seq ?_)))
      refine at_regq [] { ts:=[4,37],os:=[] } [] gamOK hT h (by kernel_rfl) trivial fun a w h=>then_normal ?_
      refine at_test (!decide (x0.2.2.2.2.2=x1.2.2.2.2.2)) h (by kernel_rfl) (fun h6=>?_) (fun h6=>?_)
      ·replace h6 : ¬ (x0.2.2.2.2.2 = x1.2.2.2.2.2) := of_decide_eq_false (notT h6)
       refine wp_seq ?_
       refine at_regq [] { ts:=[4],os:=[] } [] gamOK hT h (by kernel_rfl) trivial fun a w h=>then_normal (wp_ret (then_ret ?_))
       exact at_return (false,()) [] h (by kernel_rfl) trivial (congrArg (fun z=>(z,())) (show (false)=(Sh.eqB s31) x0 x1 from by exact (Sh.eqB_ne (s:=s31) (fun e=>h6 (congrArg (fun (y:T31)=>y.2.2.2.2.2) e))).symm))
      ·replace h6 : x0.2.2.2.2.2 = x1.2.2.2.2.2 := of_decide_eq_true (notF h6)
       refine wp_skip (then_normal (wp_seq ?_))
       refine at_regq [] { ts:=[4],os:=[] } [] gamOK hT h (by kernel_rfl) trivial fun a w h=>then_normal (wp_ret ?_)
       exact at_return (true,()) [] h (by kernel_rfl) trivial (congrArg (fun z=>(z,())) (show (true)=(Sh.eqB s31) x0 x1 from by exact ((Sh.eqB_iff s31).2 (Prod.ext h1 (Prod.ext h2 (Prod.ext (Sh.of_eqB h3) (Prod.ext (Sh.of_eqB h4) (Prod.ext (Sh.of_eqB h5) h6)))))).symm))

def S_laws_heldIntS:Sum:={ fid:=40,dom:=[s22,(.int 3)],cod:=[(.int 3)],dp:=true,fz:=false,pre:=fun x=>(pMk s22) x.1 x.2.1,g:=fun x=>(((heldD s22) x.1 x.2.1),()) }
def S_laws_heldIntS_tab:List (Nat×Sum):=[]
theorem S_laws_heldIntS_ok:FnOK Try.prog 40 S_laws_heldIntS:=by
 refine at_enter 21 (fun x=>⟨[(0,aF (.int 3) x.1),(1,aI x.2.1)],[]⟩) Try.func40 rfl (by kernel_rfl) (fun x=>rfl) ?_
 rintro w0 Z0 ⟨x0,x1,u⟩ a w
 revert x0 x1
 intro (x0:(List Int)) (x1:Int) hpre hlens h
 replace hpre:(pMk s22) x0 x1:=hpre
 have hl1:List.length x0≤9223372036854775807:=hlens.1.1
 have hT:TabOK Try.prog S_laws_heldIntS_tab:=.nil
 have hp:0≤x1∧x1+((Sh.ct s22 x0:Nat):Int)≤4611686018427387904:=hpre
 have hct0:Sh.ct s22 x0=ctL (Sh.ct (.int 3)) x0:=rfl
 refine wp_seq ?_
 refine at_regq [] { ts:=[0,1,4],os:=[] } [] gamOK hT h (by kernel_rfl) trivial fun a w h=>then_normal (wp_seq (wp_seq ?_))
 refine at_regq [] { ts:=[0,1,4,5],os:=[] } [] gamOK hT h (by kernel_rfl) trivial fun a w h=>then_normal (wp_block ?_)
 replace h:=at_out (σ':=⟨[(0,aF (.int 3) x0),(1,aI x1),(4,aI 0),(5,aI 0)],[]⟩) { ts:=[0,1,4,5],os:=[] } h (by kernel_rfl)
 refine at_loop (fun i:Nat=>(⟨[(0,aF (.int 3) x0),(1,aI (x1+((ctL (Sh.ct (.int 3)) (List.take i x0):Nat):Int))),(4,aI 0),(5,aI ((i:Nat):Int))],[]⟩:St)) (fun i=>(i≤List.length x0∧mkL (Sh.mk (.int 3)) (Sh.ct (.int 3)) x1 (x0.take i)=x0.take i)) (fun i=>List.length x0 - i) (0) h (st_congr2 (fun (d0:Int) (d1:Int)=>(⟨[(0,aF (.int 3) x0),(1,aI d0),(4,aI 0),(5,aI d1)],[]⟩:St)) (show (x1:Int)=(x1+((ctL (Sh.ct (.int 3)) (List.take (0) x0):Nat):Int)) from by first | with_reducible rfl | (simp [ctL]) | rfl) (show (0:Int)=(((0):Nat):Int) from by first | with_reducible rfl | (simp [ctL]) | rfl)) (by exact ⟨Nat.zero_le _,by simp [mkL]⟩) ?_
 intro i a w hok0 h
 refine wp_seq (wp_seq ?_)
 refine at_regq [] { ts:=[0,1,4,5,9],os:=[] } [] gamOK hT h (by kernel_rfl) trivial fun a w h=>then_normal ?_
 refine at_test (decide (((i:Nat):Int) < ((List.length x0:Nat):Int))) h (by kernel_rfl) (fun h1=>?_) (fun h1=>?_)
 ·replace h1 : ((i : Nat) : Int) < ((List.length x0 : Nat) : Int) := of_decide_eq_true h1
  have hat:=ctL_at_le (c:=Sh.ct (.int 3)) (xs:=x0) (z:=0) (i:=i) (by omega)
  have hsu:=ctL_take_succ (c:=Sh.ct (.int 3)) (xs:=x0) (z:=0) (i:=i) (by omega)
  have hci:Sh.ct (.int 3) (x0.getD i 0)=1:=rfl
  refine wp_skip (then_normal (wp_seq (wp_block (wp_seq (wp_seq ?_)))))
  refine at_regq [] { ts:=[0,1,4,5,17],os:=[] } [(0:Int)≤((i:Nat):Int)∧((i:Nat):Int) < ((List.length x0:Nat):Int)] gamOK hT h (by kernel_rfl) ⟨(by refine ⟨?_,?_⟩<;>(first | omega | (simp only [lsA];omega) | (simp<;>omega))),trivial⟩ fun a w h=>then_normal ?_
  refine at_test (!decide ((x0.getD i 0)=(x1+((ctL (Sh.ct (.int 3)) (List.take i x0):Nat):Int)))) h (by kernel_rfl) (fun h2=>?_) (fun h2=>?_)
  ·replace h2 : ¬ ((x0.getD i 0) = (x1 + ((ctL (Sh.ct (.int 3)) (List.take i x0) : Nat) : Int))) := of_decide_eq_false (notT h2)
   refine wp_seq ?_
   refine at_regq [] { ts:=[0,1,4,5],os:=[] } [] gamOK hT h (by kernel_rfl) trivial fun a w h=>then_normal (wp_ret (then_ret (in_ret (then_ret (then_ret (in_ret (then_ret ?_)))))))
   exact at_return ((-1),()) [] h (by kernel_rfl) trivial (congrArg (fun z=>(z,())) (show ((-1))=(heldD s22) x0 x1 from by refine (heldD_no (s:=s22) (fun e=>?_)).symm;have e2:(x1+((ctL (Sh.ct (.int 3)) (List.take i x0):Nat):Int))=(x0.getD i 0):=congrArg (fun (y:Int)=>y) (mkL_get (z:=0) (i:=i) e (by omega));omega))
  ·replace h2 : (x0.getD i 0) = (x1 + ((ctL (Sh.ct (.int 3)) (List.take i x0) : Nat) : Int)) := of_decide_eq_true (notF h2)
   refine wp_skip (then_normal ?_)
   refine at_regq [{},{ nw:=true }] { ts:=[0,1,4,5],os:=[] } [I64 ((x1+((ctL (Sh.ct (.int 3)) (List.take i x0):Nat):Int))+1)] gamOK hT h (by kernel_rfl) ⟨⟨by first | omega | (simp only [lsA];omega) | (simp<;>omega),by first | omega | (simp only [lsA];omega) | (simp<;>omega)⟩,trivial⟩ fun a w h=>in_normal (then_normal ?_)
   refine at_regq [{},{ nw:=true }] { ts:=[0,1,4,5],os:=[] } [I64 (((i:Nat):Int)+1)] gamOK hT h (by kernel_rfl) ⟨⟨by first | omega | (simp only [lsA];omega) | (simp<;>omega),by first | omega | (simp only [lsA];omega) | (simp<;>omega)⟩,trivial⟩ fun a w h=>?_
   replace h:=at_out (σ':=⟨[(0,aF (.int 3) x0),(1,aI ((x1+((ctL (Sh.ct (.int 3)) (List.take i x0):Nat):Int))+1)),(4,aI 0),(5,aI (((i:Nat):Int)+1))],[]⟩) { ts:=[0,1,4,5],os:=[] } h (by kernel_rfl)
   exact ⟨i+1,at_eq h (st_congr2 (fun (d0:Int) (d1:Int)=>(⟨[(0,aF (.int 3) x0),(1,aI d0),(4,aI 0),(5,aI d1)],[]⟩:St)) (show ((x1+((ctL (Sh.ct (.int 3)) (List.take i x0):Nat):Int))+1:Int)=(x1+((ctL (Sh.ct (.int 3)) (List.take (i+1) x0):Nat):Int)) from by first | with_reducible rfl | (omega) | rfl) (show (((i:Nat):Int)+1:Int)=(((i+1):Nat):Int) from by first | with_reducible rfl | (omega) | rfl)),(by exact ⟨by omega,mkL_step (z:=0) (by omega) hok0.2 (by show ((x1+((ctL (Sh.ct (.int 3)) (List.take i x0):Nat):Int)):Int)=(x0.getD i 0);omega)⟩),(by omega)⟩
 ·replace h1 : ¬ (((i : Nat) : Int) < ((List.length x0 : Nat) : Int)) := of_decide_eq_false h1
  refine wp_exit (then_exit (then_exit (in_hit (then_normal (wp_seq ?_)))))
  refine at_regq [] { ts:=[4],os:=[] } [] gamOK hT h (by kernel_rfl) trivial fun a w h=>then_normal (wp_ret ?_)
  exact at_return ((x1+((ctL (Sh.ct (.int 3)) (List.take i x0):Nat):Int)),()) [] h (by kernel_rfl) trivial (congrArg (fun z=>(z,())) (show ((x1+((ctL (Sh.ct (.int 3)) (List.take i x0):Nat):Int)))=(heldD s22) x0 x1 from by have e:=hok0.2;rw [take_all (by omega)] at e;rw [heldD_pos (s:=s22) e,hct0,take_all (by omega)]))

def S_laws_heldIntSS:Sum:={ fid:=83,dom:=[s66,(.int 3)],cod:=[(.int 3)],dp:=true,fz:=false,pre:=fun x=>(pMk s66) x.1 x.2.1,g:=fun x=>(((heldD s66) x.1 x.2.1),()) }
def S_laws_heldIntSS_tab:List (Nat×Sum):=[(40,S_laws_heldIntS)]
theorem S_laws_heldIntSS_ok:FnOK Try.prog 83 S_laws_heldIntSS:=by
 refine at_enter 21 (fun x=>⟨[(0,aF s22 x.1),(1,aI x.2.1)],[]⟩) Try.func83 rfl (by kernel_rfl) (fun x=>rfl) ?_
 rintro w0 Z0 ⟨x0,x1,u⟩ a w
 revert x0 x1
 intro (x0:(List (List Int))) (x1:Int) hpre hlens h
 replace hpre:(pMk s66) x0 x1:=hpre
 have hl1:List.length x0≤9223372036854775807:=hlens.1.1
 have hT:TabOK Try.prog S_laws_heldIntSS_tab:=(.cons S_laws_heldIntS_ok .nil)
 have hp:0≤x1∧x1+((Sh.ct s66 x0:Nat):Int)≤4611686018427387904:=hpre
 have hct0:Sh.ct s66 x0=ctL (Sh.ct s22) x0:=rfl
 refine wp_seq ?_
 refine at_regq [] { ts:=[0,1,4],os:=[] } [] gamOK hT h (by kernel_rfl) trivial fun a w h=>then_normal (wp_seq (wp_seq ?_))
 refine at_regq [] { ts:=[0,1,4,5],os:=[] } [] gamOK hT h (by kernel_rfl) trivial fun a w h=>then_normal (wp_block ?_)
 replace h:=at_out (σ':=⟨[(0,aF s22 x0),(1,aI x1),(4,aI 0),(5,aI 0)],[]⟩) { ts:=[0,1,4,5],os:=[] } h (by kernel_rfl)
 refine at_loop (fun i:Nat=>(⟨[(0,aF s22 x0),(1,aI (x1+((ctL (Sh.ct s22) (List.take i x0):Nat):Int))),(4,aI 0),(5,aI ((i:Nat):Int))],[]⟩:St)) (fun i=>(i≤List.length x0∧mkL (Sh.mk s22) (Sh.ct s22) x1 (x0.take i)=x0.take i)) (fun i=>List.length x0 - i) (0) h (st_congr2 (fun (d0:Int) (d1:Int)=>(⟨[(0,aF s22 x0),(1,aI d0),(4,aI 0),(5,aI d1)],[]⟩:St)) (show (x1:Int)=(x1+((ctL (Sh.ct s22) (List.take (0) x0):Nat):Int)) from by first | with_reducible rfl | (simp [ctL]) | rfl) (show (0:Int)=(((0):Nat):Int) from by first | with_reducible rfl | (simp [ctL]) | rfl)) (by exact ⟨Nat.zero_le _,by simp [mkL]⟩) ?_
 intro i a w hok0 h
 refine wp_seq (wp_seq ?_)
 refine at_regq [] { ts:=[0,1,4,5,9],os:=[] } [] gamOK hT h (by kernel_rfl) trivial fun a w h=>then_normal ?_
 refine at_test (decide (((i:Nat):Int) < ((List.length x0:Nat):Int))) h (by kernel_rfl) (fun h1=>?_) (fun h1=>?_)
 ·replace h1 : ((i : Nat) : Int) < ((List.length x0 : Nat) : Int) := of_decide_eq_true h1
  have hat:=ctL_at_le (c:=Sh.ct s22) (xs:=x0) (z:=[]) (i:=i) (by omega)
  have hsu:=ctL_take_succ (c:=Sh.ct s22) (xs:=x0) (z:=[]) (i:=i) (by omega)
  have hci:Sh.ct s22 (x0.getD i [])=(Sh.ct s22 (x0.getD i [])):=rfl
  refine wp_skip (then_normal (wp_seq (wp_block (wp_seq ?_))))
  refine at_regq [] { ts:=[0,1,4,5],os:=[] } [(0:Int)≤((i:Nat):Int)∧((i:Nat):Int) < ((List.length x0:Nat):Int),(pMk s22) (x0.getD i []) (x1+((ctL (Sh.ct s22) (List.take i x0):Nat):Int))] gamOK hT h (by kernel_rfl) ⟨(by refine ⟨?_,?_⟩<;>(first | omega | (simp only [lsA];omega) | (simp<;>omega))),(by (first | (show (0:Int)≤_∧_+((Sh.ct _ _:Nat):Int)≤(4611686018427387904:Int);constructor<;>omega) | (show (0:Int)≤_∧_+((Sh.ctT _ _:Nat):Int)≤(4611686018427387904:Int);constructor<;>omega))),trivial⟩ fun a w h=>then_normal (wp_seq ?_)
  refine at_regq [] { ts:=[0,1,4,5,19],os:=[] } [] gamOK hT h (by kernel_rfl) trivial fun a w h=>then_normal ?_
  refine at_test (decide (((heldD s22) (x0.getD i []) (x1+((ctL (Sh.ct s22) (List.take i x0):Nat):Int))) < 0)) h (by kernel_rfl) (fun h2=>?_) (fun h2=>?_)
  ·replace h2 : ((heldD s22) (x0.getD i []) (x1 + ((ctL (Sh.ct s22) (List.take i x0) : Nat) : Int))) < 0 := of_decide_eq_true h2
   have hvh2:=heldD_neg (by omega) h2
   refine wp_seq ?_
   refine at_regq [] { ts:=[0,1,4,5],os:=[] } [] gamOK hT h (by kernel_rfl) trivial fun a w h=>then_normal (wp_ret (in_ret (then_ret (then_ret (in_ret (then_ret ?_))))))
   exact at_return ((-1),()) [] h (by kernel_rfl) trivial (congrArg (fun z=>(z,())) (show ((-1))=(heldD s66) x0 x1 from by refine (heldD_no (s:=s66) (fun e=>?_)).symm;have e2:Sh.mk s22 (x0.getD i []) ((x1+((ctL (Sh.ct s22) (List.take i x0):Nat):Int)))=(x0.getD i []):=congrArg (fun (y:(List Int))=>y) (mkL_get (z:=[]) (i:=i) e (by omega));exact hvh2 ((congrArg (fun k=>Sh.mk s22 (x0.getD i []) k) (show (_:Int)=(x1+((ctL (Sh.ct s22) (List.take i x0):Nat):Int)) from by first | rfl | omega)).trans e2)))
  ·replace h2 : ¬ (((heldD s22) (x0.getD i []) (x1 + ((ctL (Sh.ct s22) (List.take i x0) : Nat) : Int))) < 0) := of_decide_eq_false h2
   have hvh2:=heldD_val h2
   refine wp_skip (in_normal (then_normal ?_))
   refine at_regq [{},{ nw:=true }] { ts:=[0,1,4,5],os:=[] } [I64 (((i:Nat):Int)+1)] gamOK hT h (by kernel_rfl) ⟨⟨by first | omega | (simp only [lsA];omega) | (simp<;>omega),by first | omega | (simp only [lsA];omega) | (simp<;>omega)⟩,trivial⟩ fun a w h=>?_
   replace h:=at_out (σ':=⟨[(0,aF s22 x0),(1,aI ((heldD s22) (x0.getD i []) (x1+((ctL (Sh.ct s22) (List.take i x0):Nat):Int)))),(4,aI 0),(5,aI (((i:Nat):Int)+1))],[]⟩) { ts:=[0,1,4,5],os:=[] } h (by kernel_rfl)
   exact ⟨i+1,at_eq h (st_congr2 (fun (d0:Int) (d1:Int)=>(⟨[(0,aF s22 x0),(1,aI d0),(4,aI 0),(5,aI d1)],[]⟩:St)) (show (((heldD s22) (x0.getD i []) (x1+((ctL (Sh.ct s22) (List.take i x0):Nat):Int))):Int)=(x1+((ctL (Sh.ct s22) (List.take (i+1) x0):Nat):Int)) from by first | with_reducible rfl | (omega) | rfl) (show (((i:Nat):Int)+1:Int)=(((i+1):Nat):Int) from by first | with_reducible rfl | (omega) | rfl)),(by exact ⟨by omega,mkL_step (z:=[]) (by omega) hok0.2 ((congrArg (fun k=>Sh.mk s22 (x0.getD i []) k) (show ((x1+((ctL (Sh.ct s22) (List.take i x0):Nat):Int)):Int)=_ from by first | rfl | omega)).trans hvh2.1)⟩),(by omega)⟩
 ·replace h1 : ¬ (((i : Nat) : Int) < ((List.length x0 : Nat) : Int)) := of_decide_eq_false h1
  refine wp_exit (then_exit (then_exit (in_hit (then_normal (wp_seq ?_)))))
  refine at_regq [] { ts:=[4],os:=[] } [] gamOK hT h (by kernel_rfl) trivial fun a w h=>then_normal (wp_ret ?_)
  exact at_return ((x1+((ctL (Sh.ct s22) (List.take i x0):Nat):Int)),()) [] h (by kernel_rfl) trivial (congrArg (fun z=>(z,())) (show ((x1+((ctL (Sh.ct s22) (List.take i x0):Nat):Int)))=(heldD s66) x0 x1 from by have e:=hok0.2;rw [take_all (by omega)] at e;rw [heldD_pos (s:=s66) e,hct0,take_all (by omega)]))

def S_laws_heldDecoderS:Sum:={ fid:=41,dom:=[s28,(.int 3)],cod:=[(.int 3)],dp:=true,fz:=false,pre:=fun x=>(pMk s28) x.1 x.2.1,g:=fun x=>(((heldD s28) x.1 x.2.1),()) }
def S_laws_heldDecoderS_tab:List (Nat×Sum):=[(83,S_laws_heldIntSS)]
theorem S_laws_heldDecoderS_ok:FnOK Try.prog 41 S_laws_heldDecoderS:=by
 refine at_enter 60 (fun x=>⟨[(0,aF s97 x.1),(1,aI x.2.1)],[]⟩) Try.func41 rfl (by kernel_rfl) (fun x=>rfl) ?_
 rintro w0 Z0 ⟨x0,x1,u⟩ a w
 revert x0 x1
 intro (x0:(List T97)) (x1:Int) hpre hlens h
 replace hpre:(pMk s28) x0 x1:=hpre
 have hl1:List.length x0≤9223372036854775807:=hlens.1.1
 have hT:TabOK Try.prog S_laws_heldDecoderS_tab:=(.cons S_laws_heldIntSS_ok .nil)
 have hp:0≤x1∧x1+((Sh.ct s28 x0:Nat):Int)≤4611686018427387904:=hpre
 have hct0:Sh.ct s28 x0=ctL (Sh.ct s97) x0:=rfl
 refine wp_seq ?_
 refine at_regq [] { ts:=[0,1,4],os:=[] } [] gamOK hT h (by kernel_rfl) trivial fun a w h=>then_normal (wp_seq (wp_seq ?_))
 refine at_regq [] { ts:=[0,1,4,5],os:=[] } [] gamOK hT h (by kernel_rfl) trivial fun a w h=>then_normal (wp_block ?_)
 replace h:=at_out (σ':=⟨[(0,aF s97 x0),(1,aI x1),(4,aI 0),(5,aI 0)],[]⟩) { ts:=[0,1,4,5],os:=[] } h (by kernel_rfl)
 refine at_loop (fun i:Nat=>(⟨[(0,aF s97 x0),(1,aI (x1+((ctL (Sh.ct s97) (List.take i x0):Nat):Int))),(4,aI 0),(5,aI ((i:Nat):Int))],[]⟩:St)) (fun i=>(i≤List.length x0∧mkL (Sh.mk s97) (Sh.ct s97) x1 (x0.take i)=x0.take i)) (fun i=>List.length x0 - i) (0) h (st_congr2 (fun (d0:Int) (d1:Int)=>(⟨[(0,aF s97 x0),(1,aI d0),(4,aI 0),(5,aI d1)],[]⟩:St)) (show (x1:Int)=(x1+((ctL (Sh.ct s97) (List.take (0) x0):Nat):Int)) from by first | with_reducible rfl | (simp [ctL]) | rfl) (show (0:Int)=(((0):Nat):Int) from by first | with_reducible rfl | (simp [ctL]) | rfl)) (by exact ⟨Nat.zero_le _,by simp [mkL]⟩) ?_
 intro i a w hok0 h
 refine wp_seq (wp_seq ?_)
 refine at_regq [] { ts:=[0,1,4,5,9],os:=[] } [] gamOK hT h (by kernel_rfl) trivial fun a w h=>then_normal ?_
 refine at_test (decide (((i:Nat):Int) < ((List.length x0:Nat):Int))) h (by kernel_rfl) (fun h1=>?_) (fun h1=>?_)
 ·replace h1 : ((i : Nat) : Int) < ((List.length x0 : Nat) : Int) := of_decide_eq_true h1
  have hat:=ctL_at_le (c:=Sh.ct s97) (xs:=x0) (z:=(0,(0,(0,(0,[]))))) (i:=i) (by omega)
  have hsu:=ctL_take_succ (c:=Sh.ct s97) (xs:=x0) (z:=(0,(0,(0,(0,[]))))) (i:=i) (by omega)
  have hci:Sh.ct s97 (x0.getD i (0,(0,(0,(0,[])))))=(1+(1+(1+(1+(Sh.ct s66 (x0.getD i (0,(0,(0,(0,[]))))).2.2.2.2))))):=rfl
  refine wp_skip (then_normal (wp_seq (wp_block (wp_seq (wp_seq ?_)))))
  refine at_regq [] { ts:=[0,1,4,5,18],os:=[] } [(0:Int)≤((i:Nat):Int)∧((i:Nat):Int) < ((List.length x0:Nat):Int)] gamOK hT h (by kernel_rfl) ⟨(by refine ⟨?_,?_⟩<;>(first | omega | (simp only [lsA];omega) | (simp<;>omega))),trivial⟩ fun a w h=>then_normal ?_
  refine at_test (!decide ((x0.getD i (0,(0,(0,(0,[]))))).1=(x1+((ctL (Sh.ct s97) (List.take i x0):Nat):Int)))) h (by kernel_rfl) (fun h2=>?_) (fun h2=>?_)
  ·replace h2 : ¬ ((x0.getD i (0, (0, (0, (0, []))))).1 = (x1 + ((ctL (Sh.ct s97) (List.take i x0) : Nat) : Int))) := of_decide_eq_false (notT h2)
   refine wp_seq ?_
   refine at_regq [] { ts:=[0,1,4,5],os:=[] } [] gamOK hT h (by kernel_rfl) trivial fun a w h=>then_normal (wp_ret (then_ret (in_ret (then_ret (then_ret (in_ret (then_ret ?_)))))))
   exact at_return ((-1),()) [] h (by kernel_rfl) trivial (congrArg (fun z=>(z,())) (show ((-1))=(heldD s28) x0 x1 from by refine (heldD_no (s:=s28) (fun e=>?_)).symm;have e2:(x1+((ctL (Sh.ct s97) (List.take i x0):Nat):Int))=(x0.getD i (0,(0,(0,(0,[]))))).1:=congrArg (fun (y:T97)=>y.1) (mkL_get (z:=(0,(0,(0,(0,[]))))) (i:=i) e (by omega));omega))
  ·replace h2 : (x0.getD i (0, (0, (0, (0, []))))).1 = (x1 + ((ctL (Sh.ct s97) (List.take i x0) : Nat) : Int)) := of_decide_eq_true (notF h2)
   refine wp_skip (then_normal (wp_seq ?_))
   refine at_regq [{},{ nw:=true }] { ts:=[0,1,4,5],os:=[] } [I64 ((x1+((ctL (Sh.ct s97) (List.take i x0):Nat):Int))+1)] gamOK hT h (by kernel_rfl) ⟨⟨by first | omega | (simp only [lsA];omega) | (simp<;>omega),by first | omega | (simp only [lsA];omega) | (simp<;>omega)⟩,trivial⟩ fun a w h=>then_normal (wp_seq (wp_seq ?_))
   refine at_regq [] { ts:=[0,1,4,5,27],os:=[] } [(0:Int)≤((i:Nat):Int)∧((i:Nat):Int) < ((List.length x0:Nat):Int)] gamOK hT h (by kernel_rfl) ⟨(by refine ⟨?_,?_⟩<;>(first | omega | (simp only [lsA];omega) | (simp<;>omega))),trivial⟩ fun a w h=>then_normal ?_
   refine at_test (!decide ((x0.getD i (0,(0,(0,(0,[]))))).2.1=(x1+((ctL (Sh.ct s97) (List.take i x0):Nat):Int))+1)) h (by kernel_rfl) (fun h3=>?_) (fun h3=>?_)
   ·replace h3 : ¬ ((x0.getD i (0, (0, (0, (0, []))))).2.1 = (x1 + ((ctL (Sh.ct s97) (List.take i x0) : Nat) : Int)) + 1) := of_decide_eq_false (notT h3)
    refine wp_seq ?_
    refine at_regq [] { ts:=[0,1,4,5],os:=[] } [] gamOK hT h (by kernel_rfl) trivial fun a w h=>then_normal (wp_ret (then_ret (in_ret (then_ret (then_ret (in_ret (then_ret ?_)))))))
    exact at_return ((-1),()) [] h (by kernel_rfl) trivial (congrArg (fun z=>(z,())) (show ((-1))=(heldD s28) x0 x1 from by refine (heldD_no (s:=s28) (fun e=>?_)).symm;have e2:(x1+((ctL (Sh.ct s97) (List.take i x0):Nat):Int))+((1:Nat):Int)=(x0.getD i (0,(0,(0,(0,[]))))).2.1:=congrArg (fun (y:T97)=>y.2.1) (mkL_get (z:=(0,(0,(0,(0,[]))))) (i:=i) e (by omega));omega))
   ·replace h3 : (x0.getD i (0, (0, (0, (0, []))))).2.1 = (x1 + ((ctL (Sh.ct s97) (List.take i x0) : Nat) : Int)) + 1 := of_decide_eq_true (notF h3)
    refine wp_skip (then_normal (wp_seq ?_))
    refine at_regq [{},{ nw:=true }] { ts:=[0,1,4,5],os:=[] } [I64 (((x1+((ctL (Sh.ct s97) (List.take i x0):Nat):Int))+1)+1)] gamOK hT h (by kernel_rfl) ⟨⟨by first | omega | (simp only [lsA];omega) | (simp<;>omega),by first | omega | (simp only [lsA];omega) | (simp<;>omega)⟩,trivial⟩ fun a w h=>then_normal (wp_seq (wp_seq ?_))
    refine at_regq [] { ts:=[0,1,4,5,36],os:=[] } [(0:Int)≤((i:Nat):Int)∧((i:Nat):Int) < ((List.length x0:Nat):Int)] gamOK hT h (by kernel_rfl) ⟨(by refine ⟨?_,?_⟩<;>(first | omega | (simp only [lsA];omega) | (simp<;>omega))),trivial⟩ fun a w h=>then_normal ?_
    refine at_test (!decide ((x0.getD i (0,(0,(0,(0,[]))))).2.2.1=((x1+((ctL (Sh.ct s97) (List.take i x0):Nat):Int))+1)+1)) h (by kernel_rfl) (fun h4=>?_) (fun h4=>?_)
    ·replace h4 : ¬ ((x0.getD i (0, (0, (0, (0, []))))).2.2.1 = ((x1 + ((ctL (Sh.ct s97) (List.take i x0) : Nat) : Int)) + 1) + 1) := of_decide_eq_false (notT h4)
     refine wp_seq ?_
     refine at_regq [] { ts:=[0,1,4,5],os:=[] } [] gamOK hT h (by kernel_rfl) trivial fun a w h=>then_normal (wp_ret (then_ret (in_ret (then_ret (then_ret (in_ret (then_ret ?_)))))))
     exact at_return ((-1),()) [] h (by kernel_rfl) trivial (congrArg (fun z=>(z,())) (show ((-1))=(heldD s28) x0 x1 from by refine (heldD_no (s:=s28) (fun e=>?_)).symm;have e2:(x1+((ctL (Sh.ct s97) (List.take i x0):Nat):Int))+((1:Nat):Int)+((1:Nat):Int)=(x0.getD i (0,(0,(0,(0,[]))))).2.2.1:=congrArg (fun (y:T97)=>y.2.2.1) (mkL_get (z:=(0,(0,(0,(0,[]))))) (i:=i) e (by omega));omega))
    ·replace h4 : (x0.getD i (0, (0, (0, (0, []))))).2.2.1 = ((x1 + ((ctL (Sh.ct s97) (List.take i x0) : Nat) : Int)) + 1) + 1 := of_decide_eq_true (notF h4)
     refine wp_skip (then_normal (wp_seq ?_))
     refine at_regq [{},{ nw:=true }] { ts:=[0,1,4,5],os:=[] } [I64 ((((x1+((ctL (Sh.ct s97) (List.take i x0):Nat):Int))+1)+1)+1)] gamOK hT h (by kernel_rfl) ⟨⟨by first | omega | (simp only [lsA];omega) | (simp<;>omega),by first | omega | (simp only [lsA];omega) | (simp<;>omega)⟩,trivial⟩ fun a w h=>then_normal (wp_seq (wp_seq ?_))
     refine at_regq [] { ts:=[0,1,4,5,46],os:=[] } [(0:Int)≤((i:Nat):Int)∧((i:Nat):Int) < ((List.length x0:Nat):Int)] gamOK hT h (by kernel_rfl) ⟨(by refine ⟨?_,?_⟩<;>(first | omega | (simp only [lsA];omega) | (simp<;>omega))),trivial⟩ fun a w h=>then_normal ?_
     refine at_test (!decide ((x0.getD i (0,(0,(0,(0,[]))))).2.2.2.1=(((x1+((ctL (Sh.ct s97) (List.take i x0):Nat):Int))+1)+1)+1)) h (by kernel_rfl) (fun h5=>?_) (fun h5=>?_)
     ·replace h5 : ¬ ((x0.getD i (0, (0, (0, (0, []))))).2.2.2.1 = (((x1 + ((ctL (Sh.ct s97) (List.take i x0) : Nat) : Int)) + 1) + 1) + 1) := of_decide_eq_false (notT h5)
      refine wp_seq ?_
      refine at_regq [] { ts:=[0,1,4,5],os:=[] } [] gamOK hT h (by kernel_rfl) trivial fun a w h=>then_normal (wp_ret (then_ret (in_ret (then_ret (then_ret (in_ret (then_ret ?_)))))))
      exact at_return ((-1),()) [] h (by kernel_rfl) trivial (congrArg (fun z=>(z,())) (show ((-1))=(heldD s28) x0 x1 from by refine (heldD_no (s:=s28) (fun e=>?_)).symm;have e2:(x1+((ctL (Sh.ct s97) (List.take i x0):Nat):Int))+((1:Nat):Int)+((1:Nat):Int)+((1:Nat):Int)=(x0.getD i (0,(0,(0,(0,[]))))).2.2.2.1:=congrArg (fun (y:T97)=>y.2.2.2.1) (mkL_get (z:=(0,(0,(0,(0,[]))))) (i:=i) e (by omega));omega))
     ·replace h5 : (x0.getD i (0, (0, (0, (0, []))))).2.2.2.1 = (((x1 + ((ctL (Sh.ct s97) (List.take i x0) : Nat) : Int)) + 1) + 1) + 1 := of_decide_eq_true (notF h5)
      refine wp_skip (then_normal (wp_seq ?_))
      refine at_regq [{},{ nw:=true }] { ts:=[0,1,4,5],os:=[] } [I64 (((((x1+((ctL (Sh.ct s97) (List.take i x0):Nat):Int))+1)+1)+1)+1)] gamOK hT h (by kernel_rfl) ⟨⟨by first | omega | (simp only [lsA];omega) | (simp<;>omega),by first | omega | (simp only [lsA];omega) | (simp<;>omega)⟩,trivial⟩ fun a w h=>then_normal (wp_seq ?_)
      refine at_regq [] { ts:=[0,1,4,5],os:=[] } [(0:Int)≤((i:Nat):Int)∧((i:Nat):Int) < ((List.length x0:Nat):Int),(pMk s66) (x0.getD i (0,(0,(0,(0,[]))))).2.2.2.2 (((((x1+((ctL (Sh.ct s97) (List.take i x0):Nat):Int))+1)+1)+1)+1)] gamOK hT h (by kernel_rfl) ⟨(by refine ⟨?_,?_⟩<;>(first | omega | (simp only [lsA];omega) | (simp<;>omega))),(by (first | (show (0:Int)≤_∧_+((Sh.ct _ _:Nat):Int)≤(4611686018427387904:Int);constructor<;>omega) | (show (0:Int)≤_∧_+((Sh.ctT _ _:Nat):Int)≤(4611686018427387904:Int);constructor<;>omega))),trivial⟩ fun a w h=>then_normal (wp_seq ?_)
      refine at_regq [] { ts:=[0,1,4,5,58],os:=[] } [] gamOK hT h (by kernel_rfl) trivial fun a w h=>then_normal ?_
      refine at_test (decide (((heldD s66) (x0.getD i (0,(0,(0,(0,[]))))).2.2.2.2 (((((x1+((ctL (Sh.ct s97) (List.take i x0):Nat):Int))+1)+1)+1)+1)) < 0)) h (by kernel_rfl) (fun h6=>?_) (fun h6=>?_)
      ·replace h6 : ((heldD s66) (x0.getD i (0, (0, (0, (0, []))))).2.2.2.2 (((((x1 + ((ctL (Sh.ct s97) (List.take i x0) : Nat) : Int)) + 1) + 1) + 1) + 1)) < 0 := of_decide_eq_true h6
       have hvh6:=heldD_neg (by omega) h6
       refine wp_seq ?_
       refine at_regq [] { ts:=[0,1,4,5],os:=[] } [] gamOK hT h (by kernel_rfl) trivial fun a w h=>then_normal (wp_ret (in_ret (then_ret (then_ret (in_ret (then_ret ?_))))))
       exact at_return ((-1),()) [] h (by kernel_rfl) trivial (congrArg (fun z=>(z,())) (show ((-1))=(heldD s28) x0 x1 from by refine (heldD_no (s:=s28) (fun e=>?_)).symm;have e2:Sh.mk s66 (x0.getD i (0,(0,(0,(0,[]))))).2.2.2.2 ((x1+((ctL (Sh.ct s97) (List.take i x0):Nat):Int))+((1:Nat):Int)+((1:Nat):Int)+((1:Nat):Int)+((1:Nat):Int))=(x0.getD i (0,(0,(0,(0,[]))))).2.2.2.2:=congrArg (fun (y:T97)=>y.2.2.2.2) (mkL_get (z:=(0,(0,(0,(0,[]))))) (i:=i) e (by omega));exact hvh6 ((congrArg (fun k=>Sh.mk s66 (x0.getD i (0,(0,(0,(0,[]))))).2.2.2.2 k) (show (_:Int)=(x1+((ctL (Sh.ct s97) (List.take i x0):Nat):Int))+((1:Nat):Int)+((1:Nat):Int)+((1:Nat):Int)+((1:Nat):Int) from by first | rfl | omega)).trans e2)))
      ·replace h6 : ¬ (((heldD s66) (x0.getD i (0, (0, (0, (0, []))))).2.2.2.2 (((((x1 + ((ctL (Sh.ct s97) (List.take i x0) : Nat) : Int)) + 1) + 1) + 1) + 1)) < 0) := of_decide_eq_false h6
       have hvh6:=heldD_val h6
       refine wp_skip (in_normal (then_normal ?_))
       refine at_regq [{},{ nw:=true }] { ts:=[0,1,4,5],os:=[] } [I64 (((i:Nat):Int)+1)] gamOK hT h (by kernel_rfl) ⟨⟨by first | omega | (simp only [lsA];omega) | (simp<;>omega),by first | omega | (simp only [lsA];omega) | (simp<;>omega)⟩,trivial⟩ fun a w h=>?_
       replace h:=at_out (σ':=⟨[(0,aF s97 x0),(1,aI ((heldD s66) (x0.getD i (0,(0,(0,(0,[]))))).2.2.2.2 (((((x1+((ctL (Sh.ct s97) (List.take i x0):Nat):Int))+1)+1)+1)+1))),(4,aI 0),(5,aI (((i:Nat):Int)+1))],[]⟩) { ts:=[0,1,4,5],os:=[] } h (by kernel_rfl)
       exact ⟨i+1,at_eq h (st_congr2 (fun (d0:Int) (d1:Int)=>(⟨[(0,aF s97 x0),(1,aI d0),(4,aI 0),(5,aI d1)],[]⟩:St)) (show (((heldD s66) (x0.getD i (0,(0,(0,(0,[]))))).2.2.2.2 (((((x1+((ctL (Sh.ct s97) (List.take i x0):Nat):Int))+1)+1)+1)+1)):Int)=(x1+((ctL (Sh.ct s97) (List.take (i+1) x0):Nat):Int)) from by first | with_reducible rfl | (omega) | rfl) (show (((i:Nat):Int)+1:Int)=(((i+1):Nat):Int) from by first | with_reducible rfl | (omega) | rfl)),(by exact ⟨by omega,mkL_step (z:=(0,(0,(0,(0,[]))))) (by omega) hok0.2 (Prod.ext (by show ((x1+((ctL (Sh.ct s97) (List.take i x0):Nat):Int)):Int)=(x0.getD i (0,(0,(0,(0,[]))))).1;omega) (Prod.ext (by show ((x1+((ctL (Sh.ct s97) (List.take i x0):Nat):Int))+((1:Nat):Int):Int)=(x0.getD i (0,(0,(0,(0,[]))))).2.1;omega) (Prod.ext (by show ((x1+((ctL (Sh.ct s97) (List.take i x0):Nat):Int))+((1:Nat):Int)+((1:Nat):Int):Int)=(x0.getD i (0,(0,(0,(0,[]))))).2.2.1;omega) (Prod.ext (by show ((x1+((ctL (Sh.ct s97) (List.take i x0):Nat):Int))+((1:Nat):Int)+((1:Nat):Int)+((1:Nat):Int):Int)=(x0.getD i (0,(0,(0,(0,[]))))).2.2.2.1;omega) ((congrArg (fun k=>Sh.mk s66 (x0.getD i (0,(0,(0,(0,[]))))).2.2.2.2 k) (show ((x1+((ctL (Sh.ct s97) (List.take i x0):Nat):Int))+((1:Nat):Int)+((1:Nat):Int)+((1:Nat):Int)+((1:Nat):Int):Int)=_ from by first | rfl | omega)).trans hvh6.1)))))⟩),(by omega)⟩
 ·replace h1 : ¬ (((i : Nat) : Int) < ((List.length x0 : Nat) : Int)) := of_decide_eq_false h1
  refine wp_exit (then_exit (then_exit (in_hit (then_normal (wp_seq ?_)))))
  refine at_regq [] { ts:=[4],os:=[] } [] gamOK hT h (by kernel_rfl) trivial fun a w h=>then_normal (wp_ret ?_)
  exact at_return ((x1+((ctL (Sh.ct s97) (List.take i x0):Nat):Int)),()) [] h (by kernel_rfl) trivial (congrArg (fun z=>(z,())) (show ((x1+((ctL (Sh.ct s97) (List.take i x0):Nat):Int)))=(heldD s28) x0 x1 from by have e:=hok0.2;rw [take_all (by omega)] at e;rw [heldD_pos (s:=s28) e,hct0,take_all (by omega)]))

def S_laws_heldGenerationS:Sum:={ fid:=42,dom:=[s29,(.int 3)],cod:=[(.int 3)],dp:=true,fz:=false,pre:=fun x=>(pMk s29) x.1 x.2.1,g:=fun x=>(((heldD s29) x.1 x.2.1),()) }
def S_laws_heldGenerationS_tab:List (Nat×Sum):=[(83,S_laws_heldIntSS)]
theorem S_laws_heldGenerationS_ok:FnOK Try.prog 42 S_laws_heldGenerationS:=by
 refine at_enter 31 (fun x=>⟨[(0,aF s68 x.1),(1,aI x.2.1)],[]⟩) Try.func42 rfl (by kernel_rfl) (fun x=>rfl) ?_
 rintro w0 Z0 ⟨x0,x1,u⟩ a w
 revert x0 x1
 intro (x0:(List T68)) (x1:Int) hpre hlens h
 replace hpre:(pMk s29) x0 x1:=hpre
 have hl1:List.length x0≤9223372036854775807:=hlens.1.1
 have hT:TabOK Try.prog S_laws_heldGenerationS_tab:=(.cons S_laws_heldIntSS_ok .nil)
 have hp:0≤x1∧x1+((Sh.ct s29 x0:Nat):Int)≤4611686018427387904:=hpre
 have hct0:Sh.ct s29 x0=ctL (Sh.ct s68) x0:=rfl
 refine wp_seq ?_
 refine at_regq [] { ts:=[0,1,4],os:=[] } [] gamOK hT h (by kernel_rfl) trivial fun a w h=>then_normal (wp_seq (wp_seq ?_))
 refine at_regq [] { ts:=[0,1,4,5],os:=[] } [] gamOK hT h (by kernel_rfl) trivial fun a w h=>then_normal (wp_block ?_)
 replace h:=at_out (σ':=⟨[(0,aF s68 x0),(1,aI x1),(4,aI 0),(5,aI 0)],[]⟩) { ts:=[0,1,4,5],os:=[] } h (by kernel_rfl)
 refine at_loop (fun i:Nat=>(⟨[(0,aF s68 x0),(1,aI (x1+((ctL (Sh.ct s68) (List.take i x0):Nat):Int))),(4,aI 0),(5,aI ((i:Nat):Int))],[]⟩:St)) (fun i=>(i≤List.length x0∧mkL (Sh.mk s68) (Sh.ct s68) x1 (x0.take i)=x0.take i)) (fun i=>List.length x0 - i) (0) h (st_congr2 (fun (d0:Int) (d1:Int)=>(⟨[(0,aF s68 x0),(1,aI d0),(4,aI 0),(5,aI d1)],[]⟩:St)) (show (x1:Int)=(x1+((ctL (Sh.ct s68) (List.take (0) x0):Nat):Int)) from by first | with_reducible rfl | (simp [ctL]) | rfl) (show (0:Int)=(((0):Nat):Int) from by first | with_reducible rfl | (simp [ctL]) | rfl)) (by exact ⟨Nat.zero_le _,by simp [mkL]⟩) ?_
 intro i a w hok0 h
 refine wp_seq (wp_seq ?_)
 refine at_regq [] { ts:=[0,1,4,5,9],os:=[] } [] gamOK hT h (by kernel_rfl) trivial fun a w h=>then_normal ?_
 refine at_test (decide (((i:Nat):Int) < ((List.length x0:Nat):Int))) h (by kernel_rfl) (fun h1=>?_) (fun h1=>?_)
 ·replace h1 : ((i : Nat) : Int) < ((List.length x0 : Nat) : Int) := of_decide_eq_true h1
  have hat:=ctL_at_le (c:=Sh.ct s68) (xs:=x0) (z:=(0,[])) (i:=i) (by omega)
  have hsu:=ctL_take_succ (c:=Sh.ct s68) (xs:=x0) (z:=(0,[])) (i:=i) (by omega)
  have hci:Sh.ct s68 (x0.getD i (0,[]))=(1+(Sh.ct s66 (x0.getD i (0,[])).2)):=rfl
  refine wp_skip (then_normal (wp_seq (wp_block (wp_seq (wp_seq ?_)))))
  refine at_regq [] { ts:=[0,1,4,5,18],os:=[] } [(0:Int)≤((i:Nat):Int)∧((i:Nat):Int) < ((List.length x0:Nat):Int)] gamOK hT h (by kernel_rfl) ⟨(by refine ⟨?_,?_⟩<;>(first | omega | (simp only [lsA];omega) | (simp<;>omega))),trivial⟩ fun a w h=>then_normal ?_
  refine at_test (!decide ((x0.getD i (0,[])).1=(x1+((ctL (Sh.ct s68) (List.take i x0):Nat):Int)))) h (by kernel_rfl) (fun h2=>?_) (fun h2=>?_)
  ·replace h2 : ¬ ((x0.getD i (0, [])).1 = (x1 + ((ctL (Sh.ct s68) (List.take i x0) : Nat) : Int))) := of_decide_eq_false (notT h2)
   refine wp_seq ?_
   refine at_regq [] { ts:=[0,1,4,5],os:=[] } [] gamOK hT h (by kernel_rfl) trivial fun a w h=>then_normal (wp_ret (then_ret (in_ret (then_ret (then_ret (in_ret (then_ret ?_)))))))
   exact at_return ((-1),()) [] h (by kernel_rfl) trivial (congrArg (fun z=>(z,())) (show ((-1))=(heldD s29) x0 x1 from by refine (heldD_no (s:=s29) (fun e=>?_)).symm;have e2:(x1+((ctL (Sh.ct s68) (List.take i x0):Nat):Int))=(x0.getD i (0,[])).1:=congrArg (fun (y:T68)=>y.1) (mkL_get (z:=(0,[])) (i:=i) e (by omega));omega))
  ·replace h2 : (x0.getD i (0, [])).1 = (x1 + ((ctL (Sh.ct s68) (List.take i x0) : Nat) : Int)) := of_decide_eq_true (notF h2)
   refine wp_skip (then_normal (wp_seq ?_))
   refine at_regq [{},{ nw:=true }] { ts:=[0,1,4,5],os:=[] } [I64 ((x1+((ctL (Sh.ct s68) (List.take i x0):Nat):Int))+1)] gamOK hT h (by kernel_rfl) ⟨⟨by first | omega | (simp only [lsA];omega) | (simp<;>omega),by first | omega | (simp only [lsA];omega) | (simp<;>omega)⟩,trivial⟩ fun a w h=>then_normal (wp_seq ?_)
   refine at_regq [] { ts:=[0,1,4,5],os:=[] } [(0:Int)≤((i:Nat):Int)∧((i:Nat):Int) < ((List.length x0:Nat):Int),(pMk s66) (x0.getD i (0,[])).2 ((x1+((ctL (Sh.ct s68) (List.take i x0):Nat):Int))+1)] gamOK hT h (by kernel_rfl) ⟨(by refine ⟨?_,?_⟩<;>(first | omega | (simp only [lsA];omega) | (simp<;>omega))),(by (first | (show (0:Int)≤_∧_+((Sh.ct _ _:Nat):Int)≤(4611686018427387904:Int);constructor<;>omega) | (show (0:Int)≤_∧_+((Sh.ctT _ _:Nat):Int)≤(4611686018427387904:Int);constructor<;>omega))),trivial⟩ fun a w h=>then_normal (wp_seq ?_)
   refine at_regq [] { ts:=[0,1,4,5,29],os:=[] } [] gamOK hT h (by kernel_rfl) trivial fun a w h=>then_normal ?_
   refine at_test (decide (((heldD s66) (x0.getD i (0,[])).2 ((x1+((ctL (Sh.ct s68) (List.take i x0):Nat):Int))+1)) < 0)) h (by kernel_rfl) (fun h3=>?_) (fun h3=>?_)
   ·replace h3 : ((heldD s66) (x0.getD i (0, [])).2 ((x1 + ((ctL (Sh.ct s68) (List.take i x0) : Nat) : Int)) + 1)) < 0 := of_decide_eq_true h3
    have hvh3:=heldD_neg (by omega) h3
    refine wp_seq ?_
    refine at_regq [] { ts:=[0,1,4,5],os:=[] } [] gamOK hT h (by kernel_rfl) trivial fun a w h=>then_normal (wp_ret (in_ret (then_ret (then_ret (in_ret (then_ret ?_))))))
    exact at_return ((-1),()) [] h (by kernel_rfl) trivial (congrArg (fun z=>(z,())) (show ((-1))=(heldD s29) x0 x1 from by refine (heldD_no (s:=s29) (fun e=>?_)).symm;have e2:Sh.mk s66 (x0.getD i (0,[])).2 ((x1+((ctL (Sh.ct s68) (List.take i x0):Nat):Int))+((1:Nat):Int))=(x0.getD i (0,[])).2:=congrArg (fun (y:T68)=>y.2) (mkL_get (z:=(0,[])) (i:=i) e (by omega));exact hvh3 ((congrArg (fun k=>Sh.mk s66 (x0.getD i (0,[])).2 k) (show (_:Int)=(x1+((ctL (Sh.ct s68) (List.take i x0):Nat):Int))+((1:Nat):Int) from by first | rfl | omega)).trans e2)))
   ·replace h3 : ¬ (((heldD s66) (x0.getD i (0, [])).2 ((x1 + ((ctL (Sh.ct s68) (List.take i x0) : Nat) : Int)) + 1)) < 0) := of_decide_eq_false h3
    have hvh3:=heldD_val h3
    refine wp_skip (in_normal (then_normal ?_))
    refine at_regq [{},{ nw:=true }] { ts:=[0,1,4,5],os:=[] } [I64 (((i:Nat):Int)+1)] gamOK hT h (by kernel_rfl) ⟨⟨by first | omega | (simp only [lsA];omega) | (simp<;>omega),by first | omega | (simp only [lsA];omega) | (simp<;>omega)⟩,trivial⟩ fun a w h=>?_
    replace h:=at_out (σ':=⟨[(0,aF s68 x0),(1,aI ((heldD s66) (x0.getD i (0,[])).2 ((x1+((ctL (Sh.ct s68) (List.take i x0):Nat):Int))+1))),(4,aI 0),(5,aI (((i:Nat):Int)+1))],[]⟩) { ts:=[0,1,4,5],os:=[] } h (by kernel_rfl)
    exact ⟨i+1,at_eq h (st_congr2 (fun (d0:Int) (d1:Int)=>(⟨[(0,aF s68 x0),(1,aI d0),(4,aI 0),(5,aI d1)],[]⟩:St)) (show (((heldD s66) (x0.getD i (0,[])).2 ((x1+((ctL (Sh.ct s68) (List.take i x0):Nat):Int))+1)):Int)=(x1+((ctL (Sh.ct s68) (List.take (i+1) x0):Nat):Int)) from by first | with_reducible rfl | (omega) | rfl) (show (((i:Nat):Int)+1:Int)=(((i+1):Nat):Int) from by first | with_reducible rfl | (omega) | rfl)),(by exact ⟨by omega,mkL_step (z:=(0,[])) (by omega) hok0.2 (Prod.ext (by show ((x1+((ctL (Sh.ct s68) (List.take i x0):Nat):Int)):Int)=(x0.getD i (0,[])).1;omega) ((congrArg (fun k=>Sh.mk s66 (x0.getD i (0,[])).2 k) (show ((x1+((ctL (Sh.ct s68) (List.take i x0):Nat):Int))+((1:Nat):Int):Int)=_ from by first | rfl | omega)).trans hvh3.1))⟩),(by omega)⟩
 ·replace h1 : ¬ (((i : Nat) : Int) < ((List.length x0 : Nat) : Int)) := of_decide_eq_false h1
  refine wp_exit (then_exit (then_exit (in_hit (then_normal (wp_seq ?_)))))
  refine at_regq [] { ts:=[4],os:=[] } [] gamOK hT h (by kernel_rfl) trivial fun a w h=>then_normal (wp_ret ?_)
  exact at_return ((x1+((ctL (Sh.ct s68) (List.take i x0):Nat):Int)),()) [] h (by kernel_rfl) trivial (congrArg (fun z=>(z,())) (show ((x1+((ctL (Sh.ct s68) (List.take i x0):Nat):Int)))=(heldD s29) x0 x1 from by have e:=hok0.2;rw [take_all (by omega)] at e;rw [heldD_pos (s:=s29) e,hct0,take_all (by omega)]))

def S_laws_heldSink:Sum:={ fid:=11,dom:=[s31,(.int 3)],cod:=[(.int 3)],dp:=true,fz:=false,pre:=fun x=>(pMkT s31) x.1 x.2.1,g:=fun x=>(((heldDT s31) x.1 x.2.1),()) }
def S_laws_heldSink_tab:List (Nat×Sum):=[(40,S_laws_heldIntS),(41,S_laws_heldDecoderS),(42,S_laws_heldGenerationS)]
theorem S_laws_heldSink_ok:FnOK Try.prog 11 S_laws_heldSink:=by
 refine at_enter 24 (fun x=>⟨[(0,aG [cI x.1.1,cI x.1.2.1,.ro (.int 3) x.1.2.2.1,.ro s97 x.1.2.2.2.1,.ro s68 x.1.2.2.2.2.1,cI x.1.2.2.2.2.2]),(1,aI x.2.1)],[]⟩) Try.func11 rfl (by kernel_rfl) (fun x=>rfl) ?_
 rintro w0 Z0 ⟨x0,x1,u⟩ a w
 revert x0 x1
 intro (x0:T31) (x1:Int) hpre hlens h
 replace hpre:(pMkT s31) x0 x1:=hpre
 have hl1:List.length x0.2.2.1≤9223372036854775807:=hlens.1.2.2.1.1
 have hl2:List.length x0.2.2.2.1≤9223372036854775807:=hlens.1.2.2.2.1.1
 have hl3:List.length x0.2.2.2.2.1≤9223372036854775807:=hlens.1.2.2.2.2.1.1
 have hT:TabOK Try.prog S_laws_heldSink_tab:=(.cons S_laws_heldIntS_ok (.cons S_laws_heldDecoderS_ok (.cons S_laws_heldGenerationS_ok .nil)))
 have hp:0≤x1∧x1+((Sh.ctT s31 x0:Nat):Int)≤4611686018427387904:=hpre
 have hct0:Sh.ctT s31 x0=(0+(0+((Sh.ct s22 x0.2.2.1)+((Sh.ct s28 x0.2.2.2.1)+((Sh.ct s29 x0.2.2.2.2.1)+0))))):=rfl
 refine wp_seq ?_
 refine at_regq [{ ids:=[1] }] { ts:=[1,2,4],os:=[1] } [] gamOK hT h (by kernel_rfl) trivial fun a w h=>then_normal (wp_seq ?_)
 refine at_regq [] { ts:=[1,2,4],os:=[1] } [(pMk s22) x0.2.2.1 x1] gamOK hT h (by kernel_rfl) ⟨(by (first | (show (0:Int)≤_∧_+((Sh.ct _ _:Nat):Int)≤(4611686018427387904:Int);constructor<;>omega) | (show (0:Int)≤_∧_+((Sh.ctT _ _:Nat):Int)≤(4611686018427387904:Int);constructor<;>omega))),trivial⟩ fun a w h=>then_normal (wp_seq (wp_seq ?_))
 refine at_regq [] { ts:=[1,2,4,10],os:=[1] } [] gamOK hT h (by kernel_rfl) trivial fun a w h=>then_normal ?_
 refine at_test (decide (((heldD s22) x0.2.2.1 x1) < 0)) h (by kernel_rfl) (fun h1=>?_) (fun h1=>?_)
 ·replace h1 : ((heldD s22) x0.2.2.1 x1) < 0 := of_decide_eq_true h1
  have hvh1:=heldD_neg (by omega) h1
  refine wp_seq ?_
  refine at_regq [] { ts:=[1,2,4],os:=[1] } [] gamOK hT h (by kernel_rfl) trivial fun a w h=>then_normal (wp_ret (then_ret ?_))
  exact at_return ((-1),()) [] h (by kernel_rfl) trivial (congrArg (fun z=>(z,())) (show ((-1))=(heldDT s31) x0 x1 from by refine (heldDT_no (s:=s31) (fun e=>?_)).symm;have e2:Sh.mk s22 x0.2.2.1 (x1+((0:Nat):Int)+((0:Nat):Int))=x0.2.2.1:=(congrArg (fun (y:T31)=>y.2.2.1) e);exact hvh1 ((congrArg (fun k=>Sh.mk s22 x0.2.2.1 k) (show (_:Int)=x1+((0:Nat):Int)+((0:Nat):Int) from by first | rfl | omega)).trans e2)))
 ·replace h1 : ¬ (((heldD s22) x0.2.2.1 x1) < 0) := of_decide_eq_false h1
  have hvh1:=heldD_val h1
  refine wp_skip (then_normal (wp_seq ?_))
  refine at_regq [] { ts:=[1,2,4],os:=[1] } [(pMk s28) x0.2.2.2.1 ((heldD s22) x0.2.2.1 x1)] gamOK hT h (by kernel_rfl) ⟨(by (first | (show (0:Int)≤_∧_+((Sh.ct _ _:Nat):Int)≤(4611686018427387904:Int);constructor<;>omega) | (show (0:Int)≤_∧_+((Sh.ctT _ _:Nat):Int)≤(4611686018427387904:Int);constructor<;>omega))),trivial⟩ fun a w h=>then_normal (wp_seq (wp_seq ?_))
  refine at_regq [] { ts:=[1,2,4,16],os:=[1] } [] gamOK hT h (by kernel_rfl) trivial fun a w h=>then_normal ?_
  refine at_test (decide (((heldD s28) x0.2.2.2.1 ((heldD s22) x0.2.2.1 x1)) < 0)) h (by kernel_rfl) (fun h2=>?_) (fun h2=>?_)
  ·replace h2 : ((heldD s28) x0.2.2.2.1 ((heldD s22) x0.2.2.1 x1)) < 0 := of_decide_eq_true h2
   have hvh2:=heldD_neg (by omega) h2
   refine wp_seq ?_
   refine at_regq [] { ts:=[1,2,4],os:=[1] } [] gamOK hT h (by kernel_rfl) trivial fun a w h=>then_normal (wp_ret (then_ret ?_))
   exact at_return ((-1),()) [] h (by kernel_rfl) trivial (congrArg (fun z=>(z,())) (show ((-1))=(heldDT s31) x0 x1 from by refine (heldDT_no (s:=s31) (fun e=>?_)).symm;have e2:Sh.mk s28 x0.2.2.2.1 (x1+((0:Nat):Int)+((0:Nat):Int)+(((Sh.ct s22 x0.2.2.1):Nat):Int))=x0.2.2.2.1:=(congrArg (fun (y:T31)=>y.2.2.2.1) e);exact hvh2 ((congrArg (fun k=>Sh.mk s28 x0.2.2.2.1 k) (show (_:Int)=x1+((0:Nat):Int)+((0:Nat):Int)+(((Sh.ct s22 x0.2.2.1):Nat):Int) from by first | rfl | omega)).trans e2)))
  ·replace h2 : ¬ (((heldD s28) x0.2.2.2.1 ((heldD s22) x0.2.2.1 x1)) < 0) := of_decide_eq_false h2
   have hvh2:=heldD_val h2
   refine wp_skip (then_normal (wp_seq ?_))
   refine at_regq [] { ts:=[1,4],os:=[] } [(pMk s29) x0.2.2.2.2.1 ((heldD s28) x0.2.2.2.1 ((heldD s22) x0.2.2.1 x1))] gamOK hT h (by kernel_rfl) ⟨(by (first | (show (0:Int)≤_∧_+((Sh.ct _ _:Nat):Int)≤(4611686018427387904:Int);constructor<;>omega) | (show (0:Int)≤_∧_+((Sh.ctT _ _:Nat):Int)≤(4611686018427387904:Int);constructor<;>omega))),trivial⟩ fun a w h=>then_normal (wp_seq (wp_seq ?_))
   refine at_regq [] { ts:=[1,4,22],os:=[] } [] gamOK hT h (by kernel_rfl) trivial fun a w h=>then_normal ?_
   refine at_test (decide (((heldD s29) x0.2.2.2.2.1 ((heldD s28) x0.2.2.2.1 ((heldD s22) x0.2.2.1 x1))) < 0)) h (by kernel_rfl) (fun h3=>?_) (fun h3=>?_)
   ·replace h3 : ((heldD s29) x0.2.2.2.2.1 ((heldD s28) x0.2.2.2.1 ((heldD s22) x0.2.2.1 x1))) < 0 := of_decide_eq_true h3
    have hvh3:=heldD_neg (by omega) h3
    refine wp_seq ?_
    refine at_regq [] { ts:=[1,4],os:=[] } [] gamOK hT h (by kernel_rfl) trivial fun a w h=>then_normal (wp_ret (then_ret ?_))
    exact at_return ((-1),()) [] h (by kernel_rfl) trivial (congrArg (fun z=>(z,())) (show ((-1))=(heldDT s31) x0 x1 from by refine (heldDT_no (s:=s31) (fun e=>?_)).symm;have e2:Sh.mk s29 x0.2.2.2.2.1 (x1+((0:Nat):Int)+((0:Nat):Int)+(((Sh.ct s22 x0.2.2.1):Nat):Int)+(((Sh.ct s28 x0.2.2.2.1):Nat):Int))=x0.2.2.2.2.1:=(congrArg (fun (y:T31)=>y.2.2.2.2.1) e);exact hvh3 ((congrArg (fun k=>Sh.mk s29 x0.2.2.2.2.1 k) (show (_:Int)=x1+((0:Nat):Int)+((0:Nat):Int)+(((Sh.ct s22 x0.2.2.1):Nat):Int)+(((Sh.ct s28 x0.2.2.2.1):Nat):Int) from by first | rfl | omega)).trans e2)))
   ·replace h3 : ¬ (((heldD s29) x0.2.2.2.2.1 ((heldD s28) x0.2.2.2.1 ((heldD s22) x0.2.2.1 x1))) < 0) := of_decide_eq_false h3
    have hvh3:=heldD_val h3
    refine wp_skip (then_normal (wp_seq ?_))
    refine at_regq [] { ts:=[4],os:=[] } [] gamOK hT h (by kernel_rfl) trivial fun a w h=>then_normal (wp_ret ?_)
    exact at_return (((heldD s29) x0.2.2.2.2.1 ((heldD s28) x0.2.2.2.1 ((heldD s22) x0.2.2.1 x1))),()) [] h (by kernel_rfl) trivial (congrArg (fun z=>(z,())) (show (((heldD s29) x0.2.2.2.2.1 ((heldD s28) x0.2.2.2.1 ((heldD s22) x0.2.2.1 x1))))=(heldDT s31) x0 x1 from by rw [heldDT_pos (s:=s31) (show Sh.mkT s31 x0 x1=x0 from (Prod.ext rfl (Prod.ext rfl (Prod.ext ((congrArg (fun k=>Sh.mk s22 x0.2.2.1 k) (show (x1+((0:Nat):Int)+((0:Nat):Int):Int)=_ from by first | rfl | omega)).trans hvh1.1) (Prod.ext ((congrArg (fun k=>Sh.mk s28 x0.2.2.2.1 k) (show (x1+((0:Nat):Int)+((0:Nat):Int)+(((Sh.ct s22 x0.2.2.1):Nat):Int):Int)=_ from by first | rfl | omega)).trans hvh2.1) (Prod.ext ((congrArg (fun k=>Sh.mk s29 x0.2.2.2.2.1 k) (show (x1+((0:Nat):Int)+((0:Nat):Int)+(((Sh.ct s22 x0.2.2.1):Nat):Int)+(((Sh.ct s28 x0.2.2.2.1):Nat):Int):Int)=_ from by first | rfl | omega)).trans hvh3.1) rfl))))))];omega))

def S_laws_markIntS:Sum:={ fid:=37,dom:=[s22,(.int 3)],cod:=[(.int 3)],dp:=true,fz:=false,pre:=fun x=>(pMk s22) x.1 x.2.1,g:=fun x=>(((mkK s22) x.1 x.2.1),()),kinds:=[.io,.rd],upd:=fun x=>((Sh.mk s22) x.1 x.2.1,(x.2.1,())) }
def S_laws_markIntS_tab:List (Nat×Sum):=[]
theorem S_laws_markIntS_ok:FnOK Try.prog 37 S_laws_markIntS:=by
 refine at_enterI 19 [1] [2] (fun us x=>⟨[(0,aS 1),(1,aI x.2.1)],[(1,oR (.int 3) x.1),(2,oP 1 (S_laws_markIntS.hd us 0))]⟩) Try.func37 rfl (by kernel_rfl) (fun us x=>rfl) ?_
 rintro w0 Z0 us ⟨x0,x1,u⟩ L a w
 revert x0 x1
 intro (x0:(List Int)) (x1:Int) hio hpre hlens h
 replace h:At w0 Z0 L 19 ⟨[(0,aS 1),(1,aI x1)],[(1,oR (.int 3) x0),(2,oP 1 (S_laws_markIntS.hd us 0))]⟩ a w:=h
 replace hpre:(pMk s22) x0 x1:=hpre
 have hl1:List.length x0≤9223372036854775807:=hlens.1.1
 have hT:TabOK Try.prog S_laws_markIntS_tab:=.nil
 have hp:0≤x1∧x1+((Sh.ct s22 x0:Nat):Int)≤4611686018427387904:=hpre
 have hct0:Sh.ct s22 x0=ctL (Sh.ct (.int 3)) x0:=rfl
 refine wp_seq ?_
 refine at_regq [] { ts:=[0,1,4],os:=[1,2] } [] gamOK hT h (by kernel_rfl) trivial fun a w h=>then_normal (wp_seq (wp_seq ?_))
 refine at_regq [] { ts:=[0,1,4,5],os:=[1,2] } [] gamOK hT h (by kernel_rfl) trivial fun a w h=>then_normal (wp_block ?_)
 replace h:=at_out (σ':=⟨[(0,aS 1),(1,aI x1),(4,aI 0),(5,aI 0)],[(1,oR (.int 3) x0),(2,oP 1 (S_laws_markIntS.hd us 0))]⟩) { ts:=[0,1,4,5],os:=[1,2] } h (by kernel_rfl)
 refine at_loop (fun i:Nat=>(⟨[(0,aS 1),(1,aI (x1+((ctL (Sh.ct (.int 3)) (List.take i x0):Nat):Int))),(4,aI 0),(5,aI ((i:Nat):Int))],[(1,oR (.int 3) (mkAt (Sh.mk (.int 3)) (Sh.ct (.int 3)) x1 x0 i)),(2,oP 1 (S_laws_markIntS.hd us 0))]⟩:St)) (fun i=>i≤List.length x0) (fun i=>List.length x0 - i) (0) h (st_congr3 (fun (d0:List Int) (d1:Int) (d2:Int)=>(⟨[(0,aS 1),(1,aI d1),(4,aI 0),(5,aI d2)],[(1,oR (.int 3) d0),(2,oP 1 (S_laws_markIntS.hd us 0))]⟩:St)) (show (x0:List Int)=(mkAt (Sh.mk (.int 3)) (Sh.ct (.int 3)) x1 x0 (0)) from by first | with_reducible rfl | (first | exact mkAt_zero.symm | simp [ctL]) | rfl) (show (x1:Int)=(x1+((ctL (Sh.ct (.int 3)) (List.take (0) x0):Nat):Int)) from by first | with_reducible rfl | (first | exact mkAt_zero.symm | simp [ctL]) | rfl) (show (0:Int)=(((0):Nat):Int) from by first | with_reducible rfl | (first | exact mkAt_zero.symm | simp [ctL]) | rfl)) (by omega) ?_
 intro i a w hok0 h
 refine wp_seq (wp_seq ?_)
 refine at_regq [] { ts:=[0,1,4,5,9],os:=[1,2] } [] gamOK hT h (by kernel_rfl) trivial fun a w h=>then_normal ?_
 refine at_test (decide (((i:Nat):Int) < ((List.length (mkAt (Sh.mk (.int 3)) (Sh.ct (.int 3)) x1 x0 i):Nat):Int))) h (by kernel_rfl) (fun h1=>?_) (fun h1=>?_)
 ·replace h1 : ((i : Nat) : Int) < ((List.length (mkAt (Sh.mk (.int 3)) (Sh.ct (.int 3)) x1 x0 i) : Nat) : Int) := of_decide_eq_true h1
  have hml:List.length (mkAt (Sh.mk (.int 3)) (Sh.ct (.int 3)) x1 x0 i)=List.length x0:=mkAt_len
  rw [hml] at h1
  have hat:=ctL_at_le (c:=Sh.ct (.int 3)) (xs:=x0) (z:=0) (i:=i) (by omega)
  have hsu:=ctL_take_succ (c:=Sh.ct (.int 3)) (xs:=x0) (z:=0) (i:=i) (by omega)
  have hci:Sh.ct (.int 3) (x0.getD i 0)=1:=rfl
  have hge:List.getD (mkAt (Sh.mk (.int 3)) (Sh.ct (.int 3)) x1 x0 i) i 0=(x0.getD i 0):=mkAt_get (by omega)
  refine wp_skip (then_normal (wp_seq (wp_block (wp_seq ?_))))
  refine at_regq [] { ts:=[0,1,4,5],os:=[1,2] } [(0:Int)≤((i:Nat):Int)∧((i:Nat):Int) < ((List.length (mkAt (Sh.mk (.int 3)) (Sh.ct (.int 3)) x1 x0 i):Nat):Int),i < List.length (mkAt (Sh.mk (.int 3)) (Sh.ct (.int 3)) x1 x0 i)] gamOK hT h (by kernel_rfl) ⟨(by refine ⟨?_,?_⟩<;>(first | omega | ((try simp only [hge,mkK]);omega) | (simp only [lsA,mkAt_len];omega) | (simp;done) | (simp;omega))),(by first | omega | ((try simp only [hge,mkK]);omega) | (simp only [lsA,mkAt_len];omega) | (simp;done) | (simp;omega)),trivial⟩ fun a w h=>then_normal ?_
  refine at_regq [{},{ nw:=true }] { ts:=[0,1,4,5],os:=[1,2] } [I64 ((x1+((ctL (Sh.ct (.int 3)) (List.take i x0):Nat):Int))+1)] gamOK hT h (by kernel_rfl) ⟨⟨by first | omega | ((try simp only [hge,mkK]);omega) | (simp only [lsA,mkAt_len];omega) | (simp;done) | (simp;omega),by first | omega | ((try simp only [hge,mkK]);omega) | (simp only [lsA,mkAt_len];omega) | (simp;done) | (simp;omega)⟩,trivial⟩ fun a w h=>in_normal (then_normal ?_)
  refine at_regq [{},{ nw:=true }] { ts:=[0,1,4,5],os:=[1,2] } [I64 (((i:Nat):Int)+1)] gamOK hT h (by kernel_rfl) ⟨⟨by first | omega | ((try simp only [hge,mkK]);omega) | (simp only [lsA,mkAt_len];omega) | (simp;done) | (simp;omega),by first | omega | ((try simp only [hge,mkK]);omega) | (simp only [lsA,mkAt_len];omega) | (simp;done) | (simp;omega)⟩,trivial⟩ fun a w h=>?_
  replace h:=at_out (σ':=⟨[(0,aS 1),(1,aI ((x1+((ctL (Sh.ct (.int 3)) (List.take i x0):Nat):Int))+1)),(4,aI 0),(5,aI (((i:Nat):Int)+1))],[(1,oR (.int 3) (List.set (mkAt (Sh.mk (.int 3)) (Sh.ct (.int 3)) x1 x0 i) i (x1+((ctL (Sh.ct (.int 3)) (List.take i x0):Nat):Int)))),(2,oP 1 (S_laws_markIntS.hd us 0))]⟩) { ts:=[0,1,4,5],os:=[1,2] } h (by kernel_rfl)
  skip
  exact ⟨i+1,at_eq h (st_congr3 (fun (d0:List Int) (d1:Int) (d2:Int)=>(⟨[(0,aS 1),(1,aI d1),(4,aI 0),(5,aI d2)],[(1,oR (.int 3) d0),(2,oP 1 (S_laws_markIntS.hd us 0))]⟩:St)) (show ((List.set (mkAt (Sh.mk (.int 3)) (Sh.ct (.int 3)) x1 x0 i) i (x1+((ctL (Sh.ct (.int 3)) (List.take i x0):Nat):Int))):List Int)=(mkAt (Sh.mk (.int 3)) (Sh.ct (.int 3)) x1 x0 (i+1)) from by first | with_reducible rfl | (refine mkAt_set' (z:=0) (by omega) ?_;first | (simp only [hge,mkK];done) | ((try simp only [hge,mkK]);show _=Sh.mk (.int 3) (x0.getD i 0) _;exact (by show (_:Int)=_;first | rfl | omega))) | rfl) (show ((x1+((ctL (Sh.ct (.int 3)) (List.take i x0):Nat):Int))+1:Int)=(x1+((ctL (Sh.ct (.int 3)) (List.take (i+1) x0):Nat):Int)) from by first | with_reducible rfl | (((try simp only [hge,mkK]);omega)) | rfl) (show (((i:Nat):Int)+1:Int)=(((i+1):Nat):Int) from by first | with_reducible rfl | (omega) | rfl)),(by first | omega | (refine ⟨?_,?_⟩<;>omega)),(by omega)⟩
 ·replace h1 : ¬ (((i : Nat) : Int) < ((List.length (mkAt (Sh.mk (.int 3)) (Sh.ct (.int 3)) x1 x0 i) : Nat) : Int)) := of_decide_eq_false h1
  have hml:List.length (mkAt (Sh.mk (.int 3)) (Sh.ct (.int 3)) x1 x0 i)=List.length x0:=mkAt_len
  rw [hml] at h1
  refine wp_exit (then_exit (then_exit (in_hit (then_normal (wp_seq ?_)))))
  refine at_regq [] { ts:=[4],os:=[1,2] } [] gamOK hT h (by kernel_rfl) trivial fun a w h=>then_normal (wp_ret ?_)
  exact at_returnI (S:=S_laws_markIntS) (x:=(x0,x1,())) [1] [2] ((mkAt (Sh.mk (.int 3)) (Sh.ct (.int 3)) x1 x0 i),(x1,())) (some ((x1+((ctL (Sh.ct (.int 3)) (List.take i x0):Nat):Int)),())) [S_laws_markIntS.hd us 0=S_laws_markIntS.hd us 0] hio h (by kernel_rfl) ⟨rfl,trivial⟩ (by first | rfl | exact congrArg (fun (z:(List Int))=>(z,(x1,()))) (show ((mkAt (Sh.mk (.int 3)) (Sh.ct (.int 3)) x1 x0 i):(List Int))=(Sh.mk s22) x0 x1 from by exact mkAt_all (by omega))) (fun z e=>(Option.some.inj e) ▸ (congrArg (fun z=>(z,())) (show ((x1+((ctL (Sh.ct (.int 3)) (List.take i x0):Nat):Int)))=(mkK s22) x0 x1 from by (unfold mkK;rw [take_all (by omega)];rfl))))

def S_laws_markIntSS:Sum:={ fid:=82,dom:=[s66,(.int 3)],cod:=[(.int 3)],dp:=true,fz:=false,pre:=fun x=>(pMk s66) x.1 x.2.1,g:=fun x=>(((mkK s66) x.1 x.2.1),()),kinds:=[.io,.rd],upd:=fun x=>((Sh.mk s66) x.1 x.2.1,(x.2.1,())) }
def S_laws_markIntSS_tab:List (Nat×Sum):=[(37,S_laws_markIntS)]
theorem S_laws_markIntSS_ok:FnOK Try.prog 82 S_laws_markIntSS:=by
 refine at_enterI 19 [1] [2] (fun us x=>⟨[(0,aS 1),(1,aI x.2.1)],[(1,oR s22 x.1),(2,oP 1 (S_laws_markIntSS.hd us 0))]⟩) Try.func82 rfl (by kernel_rfl) (fun us x=>rfl) ?_
 rintro w0 Z0 us ⟨x0,x1,u⟩ L a w
 revert x0 x1
 intro (x0:(List (List Int))) (x1:Int) hio hpre hlens h
 replace h:At w0 Z0 L 19 ⟨[(0,aS 1),(1,aI x1)],[(1,oR s22 x0),(2,oP 1 (S_laws_markIntSS.hd us 0))]⟩ a w:=h
 replace hpre:(pMk s66) x0 x1:=hpre
 have hl1:List.length x0≤9223372036854775807:=hlens.1.1
 have hT:TabOK Try.prog S_laws_markIntSS_tab:=(.cons S_laws_markIntS_ok .nil)
 have hp:0≤x1∧x1+((Sh.ct s66 x0:Nat):Int)≤4611686018427387904:=hpre
 have hct0:Sh.ct s66 x0=ctL (Sh.ct s22) x0:=rfl
 refine wp_seq ?_
 refine at_regq [] { ts:=[0,1,4],os:=[1,2] } [] gamOK hT h (by kernel_rfl) trivial fun a w h=>then_normal (wp_seq (wp_seq ?_))
 refine at_regq [] { ts:=[0,1,4,5],os:=[1,2] } [] gamOK hT h (by kernel_rfl) trivial fun a w h=>then_normal (wp_block ?_)
 replace h:=at_out (σ':=⟨[(0,aS 1),(1,aI x1),(4,aI 0),(5,aI 0)],[(1,oR s22 x0),(2,oP 1 (S_laws_markIntSS.hd us 0))]⟩) { ts:=[0,1,4,5],os:=[1,2] } h (by kernel_rfl)
 refine at_loop (fun i:Nat=>(⟨[(0,aS 1),(1,aI (x1+((ctL (Sh.ct s22) (List.take i x0):Nat):Int))),(4,aI 0),(5,aI ((i:Nat):Int))],[(1,oR s22 (mkAt (Sh.mk s22) (Sh.ct s22) x1 x0 i)),(2,oP 1 (S_laws_markIntSS.hd us 0))]⟩:St)) (fun i=>i≤List.length x0) (fun i=>List.length x0 - i) (0) h (st_congr3 (fun (d0:List (List Int)) (d1:Int) (d2:Int)=>(⟨[(0,aS 1),(1,aI d1),(4,aI 0),(5,aI d2)],[(1,oR s22 d0),(2,oP 1 (S_laws_markIntSS.hd us 0))]⟩:St)) (show (x0:List (List Int))=(mkAt (Sh.mk s22) (Sh.ct s22) x1 x0 (0)) from by first | with_reducible rfl | (first | exact mkAt_zero.symm | simp [ctL]) | rfl) (show (x1:Int)=(x1+((ctL (Sh.ct s22) (List.take (0) x0):Nat):Int)) from by first | with_reducible rfl | (first | exact mkAt_zero.symm | simp [ctL]) | rfl) (show (0:Int)=(((0):Nat):Int) from by first | with_reducible rfl | (first | exact mkAt_zero.symm | simp [ctL]) | rfl)) (by omega) ?_
 intro i a w hok0 h
 refine wp_seq (wp_seq ?_)
 refine at_regq [] { ts:=[0,1,4,5,9],os:=[1,2] } [] gamOK hT h (by kernel_rfl) trivial fun a w h=>then_normal ?_
 refine at_test (decide (((i:Nat):Int) < ((List.length (mkAt (Sh.mk s22) (Sh.ct s22) x1 x0 i):Nat):Int))) h (by kernel_rfl) (fun h1=>?_) (fun h1=>?_)
 ·replace h1 : ((i : Nat) : Int) < ((List.length (mkAt (Sh.mk s22) (Sh.ct s22) x1 x0 i) : Nat) : Int) := of_decide_eq_true h1
  have hml:List.length (mkAt (Sh.mk s22) (Sh.ct s22) x1 x0 i)=List.length x0:=mkAt_len
  rw [hml] at h1
  have hat:=ctL_at_le (c:=Sh.ct s22) (xs:=x0) (z:=[]) (i:=i) (by omega)
  have hsu:=ctL_take_succ (c:=Sh.ct s22) (xs:=x0) (z:=[]) (i:=i) (by omega)
  have hci:Sh.ct s22 (x0.getD i [])=(Sh.ct s22 (x0.getD i [])):=rfl
  have hge:List.getD (mkAt (Sh.mk s22) (Sh.ct s22) x1 x0 i) i []=(x0.getD i []):=mkAt_get (by omega)
  refine wp_skip (then_normal (wp_seq (wp_block ?_)))
  replace h:=at_open (σ':=⟨[(0,aS 1),(1,aI (x1+((ctL (Sh.ct s22) (List.take i x0):Nat):Int))),(4,aI 0),(5,aI ((i:Nat):Int)),(9,aB (decide (((i:Nat):Int) < ((List.length (mkAt (Sh.mk s22) (Sh.ct s22) x1 x0 i):Nat):Int))))],[(1,some (.op s22 (mkAt (Sh.mk s22) (Sh.ct s22) x1 x0 i) i [.sl 3])),(2,oP 1 (S_laws_markIntSS.hd us 0)),(3,oR (.int 3) ((mkAt (Sh.mk s22) (Sh.ct s22) x1 x0 i).getD i []))]⟩) (ps:=[i < List.length (mkAt (Sh.mk s22) (Sh.ct s22) x1 x0 i)]) 1 i [3] { ts:=[0,1,4,5,9],os:=[1,2,3] } h (by kernel_rfl) ⟨(by first | omega | ((try simp only [hge,mkK]);omega) | (simp only [lsA,mkAt_len];omega) | (simp;done) | (simp;omega)),trivial⟩
  refine at_regq [] { ts:=[0,1,4,5],os:=[1,2,3] } [(0:Int)≤((i:Nat):Int)∧((i:Nat):Int) < ((List.length (mkAt (Sh.mk s22) (Sh.ct s22) x1 x0 i):Nat):Int),i=i,(pMk s22) ((mkAt (Sh.mk s22) (Sh.ct s22) x1 x0 i).getD i []) (x1+((ctL (Sh.ct s22) (List.take i x0):Nat):Int))] gamOK hT h (by kernel_rfl) ⟨(by refine ⟨?_,?_⟩<;>(first | omega | ((try simp only [hge,mkK]);omega) | (simp only [lsA,mkAt_len];omega) | (simp;done) | (simp;omega))),rfl,(by (show (0:Int)≤_∧_+((Sh.ct _ _:Nat):Int)≤(4611686018427387904:Int);(try simp only [hge,mkK]);constructor<;>omega)),trivial⟩ fun a w h=>in_normal (then_normal ?_)
  refine at_regq [{},{ nw:=true }] { ts:=[0,1,4,5],os:=[1,2,3] } [I64 (((i:Nat):Int)+1)] gamOK hT h (by kernel_rfl) ⟨⟨by first | omega | ((try simp only [hge,mkK]);omega) | (simp only [lsA,mkAt_len];omega) | (simp;done) | (simp;omega),by first | omega | ((try simp only [hge,mkK]);omega) | (simp only [lsA,mkAt_len];omega) | (simp;done) | (simp;omega)⟩,trivial⟩ fun a w h=>?_
  replace h:=at_shut (σ':=⟨[(0,aS 1),(1,aI ((mkK s22) ((mkAt (Sh.mk s22) (Sh.ct s22) x1 x0 i).getD i []) (x1+((ctL (Sh.ct s22) (List.take i x0):Nat):Int)))),(4,aI 0),(5,aI (((i:Nat):Int)+1))],[(1,oR s22 (List.set (mkAt (Sh.mk s22) (Sh.ct s22) x1 x0 i) i ((Sh.mk s22) ((mkAt (Sh.mk s22) (Sh.ct s22) x1 x0 i).getD i []) (x1+((ctL (Sh.ct s22) (List.take i x0):Nat):Int))))),(2,oP 1 (S_laws_markIntSS.hd us 0))]⟩) (ps:=[]) 1 { ts:=[0,1,4,5],os:=[1,2] } h (by kernel_rfl) trivial
  replace h:=at_out (σ':=⟨[(0,aS 1),(1,aI ((mkK s22) ((mkAt (Sh.mk s22) (Sh.ct s22) x1 x0 i).getD i []) (x1+((ctL (Sh.ct s22) (List.take i x0):Nat):Int)))),(4,aI 0),(5,aI (((i:Nat):Int)+1))],[(1,oR s22 (List.set (mkAt (Sh.mk s22) (Sh.ct s22) x1 x0 i) i ((Sh.mk s22) ((mkAt (Sh.mk s22) (Sh.ct s22) x1 x0 i).getD i []) (x1+((ctL (Sh.ct s22) (List.take i x0):Nat):Int))))),(2,oP 1 (S_laws_markIntSS.hd us 0))]⟩) { ts:=[0,1,4,5],os:=[1,2] } h (by kernel_rfl)
  skip
  exact ⟨i+1,at_eq h (st_congr3 (fun (d0:List (List Int)) (d1:Int) (d2:Int)=>(⟨[(0,aS 1),(1,aI d1),(4,aI 0),(5,aI d2)],[(1,oR s22 d0),(2,oP 1 (S_laws_markIntSS.hd us 0))]⟩:St)) (show ((List.set (mkAt (Sh.mk s22) (Sh.ct s22) x1 x0 i) i ((Sh.mk s22) ((mkAt (Sh.mk s22) (Sh.ct s22) x1 x0 i).getD i []) (x1+((ctL (Sh.ct s22) (List.take i x0):Nat):Int)))):List (List Int))=(mkAt (Sh.mk s22) (Sh.ct s22) x1 x0 (i+1)) from by first | with_reducible rfl | (refine mkAt_set' (z:=[]) (by omega) ?_;first | (simp only [hge,mkK];done) | ((try simp only [hge,mkK]);show _=Sh.mk s22 (x0.getD i []) _;exact (congrArg (fun k=>Sh.mk s22 (x0.getD i []) k) (by first | rfl | omega)))) | rfl) (show (((mkK s22) ((mkAt (Sh.mk s22) (Sh.ct s22) x1 x0 i).getD i []) (x1+((ctL (Sh.ct s22) (List.take i x0):Nat):Int))):Int)=(x1+((ctL (Sh.ct s22) (List.take (i+1) x0):Nat):Int)) from by first | with_reducible rfl | (((try simp only [hge,mkK]);omega)) | rfl) (show (((i:Nat):Int)+1:Int)=(((i+1):Nat):Int) from by first | with_reducible rfl | (omega) | rfl)),(by first | omega | (refine ⟨?_,?_⟩<;>omega)),(by omega)⟩
 ·replace h1 : ¬ (((i : Nat) : Int) < ((List.length (mkAt (Sh.mk s22) (Sh.ct s22) x1 x0 i) : Nat) : Int)) := of_decide_eq_false h1
  have hml:List.length (mkAt (Sh.mk s22) (Sh.ct s22) x1 x0 i)=List.length x0:=mkAt_len
  rw [hml] at h1
  refine wp_exit (then_exit (then_exit (in_hit (then_normal (wp_seq ?_)))))
  refine at_regq [] { ts:=[4],os:=[1,2] } [] gamOK hT h (by kernel_rfl) trivial fun a w h=>then_normal (wp_ret ?_)
  exact at_returnI (S:=S_laws_markIntSS) (x:=(x0,x1,())) [1] [2] ((mkAt (Sh.mk s22) (Sh.ct s22) x1 x0 i),(x1,())) (some ((x1+((ctL (Sh.ct s22) (List.take i x0):Nat):Int)),())) [S_laws_markIntSS.hd us 0=S_laws_markIntSS.hd us 0] hio h (by kernel_rfl) ⟨rfl,trivial⟩ (by first | rfl | exact congrArg (fun (z:(List (List Int)))=>(z,(x1,()))) (show ((mkAt (Sh.mk s22) (Sh.ct s22) x1 x0 i):(List (List Int)))=(Sh.mk s66) x0 x1 from by exact mkAt_all (by omega))) (fun z e=>(Option.some.inj e) ▸ (congrArg (fun z=>(z,())) (show ((x1+((ctL (Sh.ct s22) (List.take i x0):Nat):Int)))=(mkK s66) x0 x1 from by (unfold mkK;rw [take_all (by omega)];rfl))))

def S_laws_markDecoderS:Sum:={ fid:=38,dom:=[s28,(.int 3)],cod:=[(.int 3)],dp:=true,fz:=false,pre:=fun x=>(pMk s28) x.1 x.2.1,g:=fun x=>(((mkK s28) x.1 x.2.1),()),kinds:=[.io,.rd],upd:=fun x=>((Sh.mk s28) x.1 x.2.1,(x.2.1,())) }
def S_laws_markDecoderS_tab:List (Nat×Sum):=[(82,S_laws_markIntSS)]
theorem S_laws_markDecoderS_ok:FnOK Try.prog 38 S_laws_markDecoderS:=by
 refine at_enterI 50 [1] [2] (fun us x=>⟨[(0,aS 1),(1,aI x.2.1)],[(1,oR s97 x.1),(2,oP 1 (S_laws_markDecoderS.hd us 0))]⟩) Try.func38 rfl (by kernel_rfl) (fun us x=>rfl) ?_
 rintro w0 Z0 us ⟨x0,x1,u⟩ L a w
 revert x0 x1
 intro (x0:(List T97)) (x1:Int) hio hpre hlens h
 replace h:At w0 Z0 L 50 ⟨[(0,aS 1),(1,aI x1)],[(1,oR s97 x0),(2,oP 1 (S_laws_markDecoderS.hd us 0))]⟩ a w:=h
 replace hpre:(pMk s28) x0 x1:=hpre
 have hl1:List.length x0≤9223372036854775807:=hlens.1.1
 have hT:TabOK Try.prog S_laws_markDecoderS_tab:=(.cons S_laws_markIntSS_ok .nil)
 have hp:0≤x1∧x1+((Sh.ct s28 x0:Nat):Int)≤4611686018427387904:=hpre
 have hct0:Sh.ct s28 x0=ctL (Sh.ct s97) x0:=rfl
 refine wp_seq ?_
 refine at_regq [] { ts:=[0,1,4],os:=[1,2] } [] gamOK hT h (by kernel_rfl) trivial fun a w h=>then_normal (wp_seq (wp_seq ?_))
 refine at_regq [] { ts:=[0,1,4,5],os:=[1,2] } [] gamOK hT h (by kernel_rfl) trivial fun a w h=>then_normal (wp_block ?_)
 replace h:=at_out (σ':=⟨[(0,aS 1),(1,aI x1),(4,aI 0),(5,aI 0)],[(1,oR s97 x0),(2,oP 1 (S_laws_markDecoderS.hd us 0))]⟩) { ts:=[0,1,4,5],os:=[1,2] } h (by kernel_rfl)
 refine at_loop (fun i:Nat=>(⟨[(0,aS 1),(1,aI (x1+((ctL (Sh.ct s97) (List.take i x0):Nat):Int))),(4,aI 0),(5,aI ((i:Nat):Int))],[(1,oR s97 (mkAt (Sh.mk s97) (Sh.ct s97) x1 x0 i)),(2,oP 1 (S_laws_markDecoderS.hd us 0))]⟩:St)) (fun i=>i≤List.length x0) (fun i=>List.length x0 - i) (0) h (st_congr3 (fun (d0:List T97) (d1:Int) (d2:Int)=>(⟨[(0,aS 1),(1,aI d1),(4,aI 0),(5,aI d2)],[(1,oR s97 d0),(2,oP 1 (S_laws_markDecoderS.hd us 0))]⟩:St)) (show (x0:List T97)=(mkAt (Sh.mk s97) (Sh.ct s97) x1 x0 (0)) from by first | with_reducible rfl | (first | exact mkAt_zero.symm | simp [ctL]) | rfl) (show (x1:Int)=(x1+((ctL (Sh.ct s97) (List.take (0) x0):Nat):Int)) from by first | with_reducible rfl | (first | exact mkAt_zero.symm | simp [ctL]) | rfl) (show (0:Int)=(((0):Nat):Int) from by first | with_reducible rfl | (first | exact mkAt_zero.symm | simp [ctL]) | rfl)) (by omega) ?_
 intro i a w hok0 h
 refine wp_seq (wp_seq ?_)
 refine at_regq [] { ts:=[0,1,4,5,9],os:=[1,2] } [] gamOK hT h (by kernel_rfl) trivial fun a w h=>then_normal ?_
 refine at_test (decide (((i:Nat):Int) < ((List.length (mkAt (Sh.mk s97) (Sh.ct s97) x1 x0 i):Nat):Int))) h (by kernel_rfl) (fun h1=>?_) (fun h1=>?_)
 ·replace h1 : ((i : Nat) : Int) < ((List.length (mkAt (Sh.mk s97) (Sh.ct s97) x1 x0 i) : Nat) : Int) := of_decide_eq_true h1
  have hml:List.length (mkAt (Sh.mk s97) (Sh.ct s97) x1 x0 i)=List.length x0:=mkAt_len
  rw [hml] at h1
  have hat:=ctL_at_le (c:=Sh.ct s97) (xs:=x0) (z:=(0,(0,(0,(0,[]))))) (i:=i) (by omega)
  have hsu:=ctL_take_succ (c:=Sh.ct s97) (xs:=x0) (z:=(0,(0,(0,(0,[]))))) (i:=i) (by omega)
  have hci:Sh.ct s97 (x0.getD i (0,(0,(0,(0,[])))))=(1+(1+(1+(1+(Sh.ct s66 (x0.getD i (0,(0,(0,(0,[]))))).2.2.2.2))))):=rfl
  have hge:List.getD (mkAt (Sh.mk s97) (Sh.ct s97) x1 x0 i) i (0,(0,(0,(0,[]))))=(x0.getD i (0,(0,(0,(0,[]))))):=mkAt_get (by omega)
  refine wp_skip (then_normal (wp_seq (wp_block (wp_seq ?_))))
  replace h:=at_open (σ':=⟨[(0,aS 1),(1,aI (x1+((ctL (Sh.ct s97) (List.take i x0):Nat):Int))),(4,aI 0),(5,aI ((i:Nat):Int)),(9,aB (decide (((i:Nat):Int) < ((List.length (mkAt (Sh.mk s97) (Sh.ct s97) x1 x0 i):Nat):Int))))],[(1,some (.op s97 (mkAt (Sh.mk s97) (Sh.ct s97) x1 x0 i) i [cI ((mkAt (Sh.mk s97) (Sh.ct s97) x1 x0 i).getD i (0,(0,(0,(0,[]))))).1,cI ((mkAt (Sh.mk s97) (Sh.ct s97) x1 x0 i).getD i (0,(0,(0,(0,[]))))).2.1,cI ((mkAt (Sh.mk s97) (Sh.ct s97) x1 x0 i).getD i (0,(0,(0,(0,[]))))).2.2.1,cI ((mkAt (Sh.mk s97) (Sh.ct s97) x1 x0 i).getD i (0,(0,(0,(0,[]))))).2.2.2.1,.sl 3])),(2,oP 1 (S_laws_markDecoderS.hd us 0)),(3,oR s22 ((mkAt (Sh.mk s97) (Sh.ct s97) x1 x0 i).getD i (0,(0,(0,(0,[]))))).2.2.2.2)]⟩) (ps:=[i < List.length (mkAt (Sh.mk s97) (Sh.ct s97) x1 x0 i)]) 1 i [3] { ts:=[0,1,4,5,9],os:=[1,2,3] } h (by kernel_rfl) ⟨(by first | omega | ((try simp only [hge,mkK]);omega) | (simp only [lsA,mkAt_len];omega) | (simp;done) | (simp;omega)),trivial⟩
  refine at_regq [] { ts:=[0,1,4,5],os:=[1,2,3] } [(0:Int)≤((i:Nat):Int)∧((i:Nat):Int) < ((List.length (mkAt (Sh.mk s97) (Sh.ct s97) x1 x0 i):Nat):Int),i=i] gamOK hT h (by kernel_rfl) ⟨(by refine ⟨?_,?_⟩<;>(first | omega | ((try simp only [hge,mkK]);omega) | (simp only [lsA,mkAt_len];omega) | (simp;done) | (simp;omega))),rfl,trivial⟩ fun a w h=>then_normal (wp_seq ?_)
  refine at_regq [{},{ nw:=true }] { ts:=[0,1,4,5],os:=[1,2,3] } [I64 ((x1+((ctL (Sh.ct s97) (List.take i x0):Nat):Int))+1)] gamOK hT h (by kernel_rfl) ⟨⟨by first | omega | ((try simp only [hge,mkK]);omega) | (simp only [lsA,mkAt_len];omega) | (simp;done) | (simp;omega),by first | omega | ((try simp only [hge,mkK]);omega) | (simp only [lsA,mkAt_len];omega) | (simp;done) | (simp;omega)⟩,trivial⟩ fun a w h=>then_normal (wp_seq ?_)
  refine at_regq [] { ts:=[0,1,4,5],os:=[1,2,3] } [(0:Int)≤((i:Nat):Int)∧((i:Nat):Int) < ((List.length (mkAt (Sh.mk s97) (Sh.ct s97) x1 x0 i):Nat):Int),i=i] gamOK hT h (by kernel_rfl) ⟨(by refine ⟨?_,?_⟩<;>(first | omega | ((try simp only [hge,mkK]);omega) | (simp only [lsA,mkAt_len];omega) | (simp;done) | (simp;omega))),rfl,trivial⟩ fun a w h=>then_normal (wp_seq ?_)
  refine at_regq [{},{ nw:=true }] { ts:=[0,1,4,5],os:=[1,2,3] } [I64 (((x1+((ctL (Sh.ct s97) (List.take i x0):Nat):Int))+1)+1)] gamOK hT h (by kernel_rfl) ⟨⟨by first | omega | ((try simp only [hge,mkK]);omega) | (simp only [lsA,mkAt_len];omega) | (simp;done) | (simp;omega),by first | omega | ((try simp only [hge,mkK]);omega) | (simp only [lsA,mkAt_len];omega) | (simp;done) | (simp;omega)⟩,trivial⟩ fun a w h=>then_normal (wp_seq ?_)
  refine at_regq [] { ts:=[0,1,4,5],os:=[1,2,3] } [(0:Int)≤((i:Nat):Int)∧((i:Nat):Int) < ((List.length (mkAt (Sh.mk s97) (Sh.ct s97) x1 x0 i):Nat):Int),i=i] gamOK hT h (by kernel_rfl) ⟨(by refine ⟨?_,?_⟩<;>(first | omega | ((try simp only [hge,mkK]);omega) | (simp only [lsA,mkAt_len];omega) | (simp;done) | (simp;omega))),rfl,trivial⟩ fun a w h=>then_normal (wp_seq ?_)
  refine at_regq [{},{ nw:=true }] { ts:=[0,1,4,5],os:=[1,2,3] } [I64 ((((x1+((ctL (Sh.ct s97) (List.take i x0):Nat):Int))+1)+1)+1)] gamOK hT h (by kernel_rfl) ⟨⟨by first | omega | ((try simp only [hge,mkK]);omega) | (simp only [lsA,mkAt_len];omega) | (simp;done) | (simp;omega),by first | omega | ((try simp only [hge,mkK]);omega) | (simp only [lsA,mkAt_len];omega) | (simp;done) | (simp;omega)⟩,trivial⟩ fun a w h=>then_normal (wp_seq ?_)
  refine at_regq [] { ts:=[0,1,4,5],os:=[1,2,3] } [(0:Int)≤((i:Nat):Int)∧((i:Nat):Int) < ((List.length (mkAt (Sh.mk s97) (Sh.ct s97) x1 x0 i):Nat):Int),i=i] gamOK hT h (by kernel_rfl) ⟨(by refine ⟨?_,?_⟩<;>(first | omega | ((try simp only [hge,mkK]);omega) | (simp only [lsA,mkAt_len];omega) | (simp;done) | (simp;omega))),rfl,trivial⟩ fun a w h=>then_normal (wp_seq ?_)
  refine at_regq [{},{ nw:=true }] { ts:=[0,1,4,5],os:=[1,2,3] } [I64 (((((x1+((ctL (Sh.ct s97) (List.take i x0):Nat):Int))+1)+1)+1)+1)] gamOK hT h (by kernel_rfl) ⟨⟨by first | omega | ((try simp only [hge,mkK]);omega) | (simp only [lsA,mkAt_len];omega) | (simp;done) | (simp;omega),by first | omega | ((try simp only [hge,mkK]);omega) | (simp only [lsA,mkAt_len];omega) | (simp;done) | (simp;omega)⟩,trivial⟩ fun a w h=>then_normal ?_
  refine at_regq [] { ts:=[0,1,4,5],os:=[1,2,3] } [(0:Int)≤((i:Nat):Int)∧((i:Nat):Int) < ((List.length (mkAt (Sh.mk s97) (Sh.ct s97) x1 x0 i):Nat):Int),i=i,(pMk s66) ((mkAt (Sh.mk s97) (Sh.ct s97) x1 x0 i).getD i (0,(0,(0,(0,[]))))).2.2.2.2 (((((x1+((ctL (Sh.ct s97) (List.take i x0):Nat):Int))+1)+1)+1)+1)] gamOK hT h (by kernel_rfl) ⟨(by refine ⟨?_,?_⟩<;>(first | omega | ((try simp only [hge,mkK]);omega) | (simp only [lsA,mkAt_len];omega) | (simp;done) | (simp;omega))),rfl,(by (show (0:Int)≤_∧_+((Sh.ct _ _:Nat):Int)≤(4611686018427387904:Int);(try simp only [hge,mkK]);constructor<;>omega)),trivial⟩ fun a w h=>in_normal (then_normal ?_)
  refine at_regq [{},{ nw:=true }] { ts:=[0,1,4,5],os:=[1,2,3] } [I64 (((i:Nat):Int)+1)] gamOK hT h (by kernel_rfl) ⟨⟨by first | omega | ((try simp only [hge,mkK]);omega) | (simp only [lsA,mkAt_len];omega) | (simp;done) | (simp;omega),by first | omega | ((try simp only [hge,mkK]);omega) | (simp only [lsA,mkAt_len];omega) | (simp;done) | (simp;omega)⟩,trivial⟩ fun a w h=>?_
  replace h:=at_shut (σ':=⟨[(0,aS 1),(1,aI ((mkK s66) ((mkAt (Sh.mk s97) (Sh.ct s97) x1 x0 i).getD i (0,(0,(0,(0,[]))))).2.2.2.2 (((((x1+((ctL (Sh.ct s97) (List.take i x0):Nat):Int))+1)+1)+1)+1))),(4,aI 0),(5,aI (((i:Nat):Int)+1))],[(1,oR s97 (List.set (mkAt (Sh.mk s97) (Sh.ct s97) x1 x0 i) i ((x1+((ctL (Sh.ct s97) (List.take i x0):Nat):Int)),((x1+((ctL (Sh.ct s97) (List.take i x0):Nat):Int))+1,(((x1+((ctL (Sh.ct s97) (List.take i x0):Nat):Int))+1)+1,((((x1+((ctL (Sh.ct s97) (List.take i x0):Nat):Int))+1)+1)+1,((Sh.mk s66) ((mkAt (Sh.mk s97) (Sh.ct s97) x1 x0 i).getD i (0,(0,(0,(0,[]))))).2.2.2.2 (((((x1+((ctL (Sh.ct s97) (List.take i x0):Nat):Int))+1)+1)+1)+1)))))))),(2,oP 1 (S_laws_markDecoderS.hd us 0))]⟩) (ps:=[]) 1 { ts:=[0,1,4,5],os:=[1,2] } h (by kernel_rfl) trivial
  replace h:=at_out (σ':=⟨[(0,aS 1),(1,aI ((mkK s66) ((mkAt (Sh.mk s97) (Sh.ct s97) x1 x0 i).getD i (0,(0,(0,(0,[]))))).2.2.2.2 (((((x1+((ctL (Sh.ct s97) (List.take i x0):Nat):Int))+1)+1)+1)+1))),(4,aI 0),(5,aI (((i:Nat):Int)+1))],[(1,oR s97 (List.set (mkAt (Sh.mk s97) (Sh.ct s97) x1 x0 i) i ((x1+((ctL (Sh.ct s97) (List.take i x0):Nat):Int)),((x1+((ctL (Sh.ct s97) (List.take i x0):Nat):Int))+1,(((x1+((ctL (Sh.ct s97) (List.take i x0):Nat):Int))+1)+1,((((x1+((ctL (Sh.ct s97) (List.take i x0):Nat):Int))+1)+1)+1,((Sh.mk s66) ((mkAt (Sh.mk s97) (Sh.ct s97) x1 x0 i).getD i (0,(0,(0,(0,[]))))).2.2.2.2 (((((x1+((ctL (Sh.ct s97) (List.take i x0):Nat):Int))+1)+1)+1)+1)))))))),(2,oP 1 (S_laws_markDecoderS.hd us 0))]⟩) { ts:=[0,1,4,5],os:=[1,2] } h (by kernel_rfl)
  skip
  exact ⟨i+1,at_eq h (st_congr3 (fun (d0:List T97) (d1:Int) (d2:Int)=>(⟨[(0,aS 1),(1,aI d1),(4,aI 0),(5,aI d2)],[(1,oR s97 d0),(2,oP 1 (S_laws_markDecoderS.hd us 0))]⟩:St)) (show ((List.set (mkAt (Sh.mk s97) (Sh.ct s97) x1 x0 i) i ((x1+((ctL (Sh.ct s97) (List.take i x0):Nat):Int)),((x1+((ctL (Sh.ct s97) (List.take i x0):Nat):Int))+1,(((x1+((ctL (Sh.ct s97) (List.take i x0):Nat):Int))+1)+1,((((x1+((ctL (Sh.ct s97) (List.take i x0):Nat):Int))+1)+1)+1,((Sh.mk s66) ((mkAt (Sh.mk s97) (Sh.ct s97) x1 x0 i).getD i (0,(0,(0,(0,[]))))).2.2.2.2 (((((x1+((ctL (Sh.ct s97) (List.take i x0):Nat):Int))+1)+1)+1)+1))))))):List T97)=(mkAt (Sh.mk s97) (Sh.ct s97) x1 x0 (i+1)) from by first | with_reducible rfl | (refine mkAt_set' (z:=(0,(0,(0,(0,[]))))) (by omega) ?_;first | (simp only [hge,mkK];done) | ((try simp only [hge,mkK]);show _=Sh.mk s97 (x0.getD i (0,(0,(0,(0,[]))))) _;exact (Prod.ext (by show (_:Int)=_;first | rfl | omega) (Prod.ext (by show (_:Int)=_;first | rfl | omega) (Prod.ext (by show (_:Int)=_;first | rfl | omega) (Prod.ext (by show (_:Int)=_;first | rfl | omega) (congrArg (fun k=>Sh.mk s66 (x0.getD i (0,(0,(0,(0,[]))))).2.2.2.2 k) (by first | rfl | omega)))))))) | rfl) (show (((mkK s66) ((mkAt (Sh.mk s97) (Sh.ct s97) x1 x0 i).getD i (0,(0,(0,(0,[]))))).2.2.2.2 (((((x1+((ctL (Sh.ct s97) (List.take i x0):Nat):Int))+1)+1)+1)+1)):Int)=(x1+((ctL (Sh.ct s97) (List.take (i+1) x0):Nat):Int)) from by first | with_reducible rfl | (((try simp only [hge,mkK]);omega)) | rfl) (show (((i:Nat):Int)+1:Int)=(((i+1):Nat):Int) from by first | with_reducible rfl | (omega) | rfl)),(by first | omega | (refine ⟨?_,?_⟩<;>omega)),(by omega)⟩
 ·replace h1 : ¬ (((i : Nat) : Int) < ((List.length (mkAt (Sh.mk s97) (Sh.ct s97) x1 x0 i) : Nat) : Int)) := of_decide_eq_false h1
  have hml:List.length (mkAt (Sh.mk s97) (Sh.ct s97) x1 x0 i)=List.length x0:=mkAt_len
  rw [hml] at h1
  refine wp_exit (then_exit (then_exit (in_hit (then_normal (wp_seq ?_)))))
  refine at_regq [] { ts:=[4],os:=[1,2] } [] gamOK hT h (by kernel_rfl) trivial fun a w h=>then_normal (wp_ret ?_)
  exact at_returnI (S:=S_laws_markDecoderS) (x:=(x0,x1,())) [1] [2] ((mkAt (Sh.mk s97) (Sh.ct s97) x1 x0 i),(x1,())) (some ((x1+((ctL (Sh.ct s97) (List.take i x0):Nat):Int)),())) [S_laws_markDecoderS.hd us 0=S_laws_markDecoderS.hd us 0] hio h (by kernel_rfl) ⟨rfl,trivial⟩ (by first | rfl | exact congrArg (fun (z:(List T97))=>(z,(x1,()))) (show ((mkAt (Sh.mk s97) (Sh.ct s97) x1 x0 i):(List T97))=(Sh.mk s28) x0 x1 from by exact mkAt_all (by omega))) (fun z e=>(Option.some.inj e) ▸ (congrArg (fun z=>(z,())) (show ((x1+((ctL (Sh.ct s97) (List.take i x0):Nat):Int)))=(mkK s28) x0 x1 from by (unfold mkK;rw [take_all (by omega)];rfl))))

def S_laws_markGenerationS:Sum:={ fid:=39,dom:=[s29,(.int 3)],cod:=[(.int 3)],dp:=true,fz:=false,pre:=fun x=>(pMk s29) x.1 x.2.1,g:=fun x=>(((mkK s29) x.1 x.2.1),()),kinds:=[.io,.rd],upd:=fun x=>((Sh.mk s29) x.1 x.2.1,(x.2.1,())) }
def S_laws_markGenerationS_tab:List (Nat×Sum):=[(82,S_laws_markIntSS)]
theorem S_laws_markGenerationS_ok:FnOK Try.prog 39 S_laws_markGenerationS:=by
 refine at_enterI 27 [1] [2] (fun us x=>⟨[(0,aS 1),(1,aI x.2.1)],[(1,oR s68 x.1),(2,oP 1 (S_laws_markGenerationS.hd us 0))]⟩) Try.func39 rfl (by kernel_rfl) (fun us x=>rfl) ?_
 rintro w0 Z0 us ⟨x0,x1,u⟩ L a w
 revert x0 x1
 intro (x0:(List T68)) (x1:Int) hio hpre hlens h
 replace h:At w0 Z0 L 27 ⟨[(0,aS 1),(1,aI x1)],[(1,oR s68 x0),(2,oP 1 (S_laws_markGenerationS.hd us 0))]⟩ a w:=h
 replace hpre:(pMk s29) x0 x1:=hpre
 have hl1:List.length x0≤9223372036854775807:=hlens.1.1
 have hT:TabOK Try.prog S_laws_markGenerationS_tab:=(.cons S_laws_markIntSS_ok .nil)
 have hp:0≤x1∧x1+((Sh.ct s29 x0:Nat):Int)≤4611686018427387904:=hpre
 have hct0:Sh.ct s29 x0=ctL (Sh.ct s68) x0:=rfl
 refine wp_seq ?_
 refine at_regq [] { ts:=[0,1,4],os:=[1,2] } [] gamOK hT h (by kernel_rfl) trivial fun a w h=>then_normal (wp_seq (wp_seq ?_))
 refine at_regq [] { ts:=[0,1,4,5],os:=[1,2] } [] gamOK hT h (by kernel_rfl) trivial fun a w h=>then_normal (wp_block ?_)
 replace h:=at_out (σ':=⟨[(0,aS 1),(1,aI x1),(4,aI 0),(5,aI 0)],[(1,oR s68 x0),(2,oP 1 (S_laws_markGenerationS.hd us 0))]⟩) { ts:=[0,1,4,5],os:=[1,2] } h (by kernel_rfl)
 refine at_loop (fun i:Nat=>(⟨[(0,aS 1),(1,aI (x1+((ctL (Sh.ct s68) (List.take i x0):Nat):Int))),(4,aI 0),(5,aI ((i:Nat):Int))],[(1,oR s68 (mkAt (Sh.mk s68) (Sh.ct s68) x1 x0 i)),(2,oP 1 (S_laws_markGenerationS.hd us 0))]⟩:St)) (fun i=>i≤List.length x0) (fun i=>List.length x0 - i) (0) h (st_congr3 (fun (d0:List T68) (d1:Int) (d2:Int)=>(⟨[(0,aS 1),(1,aI d1),(4,aI 0),(5,aI d2)],[(1,oR s68 d0),(2,oP 1 (S_laws_markGenerationS.hd us 0))]⟩:St)) (show (x0:List T68)=(mkAt (Sh.mk s68) (Sh.ct s68) x1 x0 (0)) from by first | with_reducible rfl | (first | exact mkAt_zero.symm | simp [ctL]) | rfl) (show (x1:Int)=(x1+((ctL (Sh.ct s68) (List.take (0) x0):Nat):Int)) from by first | with_reducible rfl | (first | exact mkAt_zero.symm | simp [ctL]) | rfl) (show (0:Int)=(((0):Nat):Int) from by first | with_reducible rfl | (first | exact mkAt_zero.symm | simp [ctL]) | rfl)) (by omega) ?_
 intro i a w hok0 h
 refine wp_seq (wp_seq ?_)
 refine at_regq [] { ts:=[0,1,4,5,9],os:=[1,2] } [] gamOK hT h (by kernel_rfl) trivial fun a w h=>then_normal ?_
 refine at_test (decide (((i:Nat):Int) < ((List.length (mkAt (Sh.mk s68) (Sh.ct s68) x1 x0 i):Nat):Int))) h (by kernel_rfl) (fun h1=>?_) (fun h1=>?_)
 ·replace h1 : ((i : Nat) : Int) < ((List.length (mkAt (Sh.mk s68) (Sh.ct s68) x1 x0 i) : Nat) : Int) := of_decide_eq_true h1
  have hml:List.length (mkAt (Sh.mk s68) (Sh.ct s68) x1 x0 i)=List.length x0:=mkAt_len
  rw [hml] at h1
  have hat:=ctL_at_le (c:=Sh.ct s68) (xs:=x0) (z:=(0,[])) (i:=i) (by omega)
  have hsu:=ctL_take_succ (c:=Sh.ct s68) (xs:=x0) (z:=(0,[])) (i:=i) (by omega)
  have hci:Sh.ct s68 (x0.getD i (0,[]))=(1+(Sh.ct s66 (x0.getD i (0,[])).2)):=rfl
  have hge:List.getD (mkAt (Sh.mk s68) (Sh.ct s68) x1 x0 i) i (0,[])=(x0.getD i (0,[])):=mkAt_get (by omega)
  refine wp_skip (then_normal (wp_seq (wp_block (wp_seq ?_))))
  replace h:=at_open (σ':=⟨[(0,aS 1),(1,aI (x1+((ctL (Sh.ct s68) (List.take i x0):Nat):Int))),(4,aI 0),(5,aI ((i:Nat):Int)),(9,aB (decide (((i:Nat):Int) < ((List.length (mkAt (Sh.mk s68) (Sh.ct s68) x1 x0 i):Nat):Int))))],[(1,some (.op s68 (mkAt (Sh.mk s68) (Sh.ct s68) x1 x0 i) i [cI ((mkAt (Sh.mk s68) (Sh.ct s68) x1 x0 i).getD i (0,[])).1,.sl 3])),(2,oP 1 (S_laws_markGenerationS.hd us 0)),(3,oR s22 ((mkAt (Sh.mk s68) (Sh.ct s68) x1 x0 i).getD i (0,[])).2)]⟩) (ps:=[i < List.length (mkAt (Sh.mk s68) (Sh.ct s68) x1 x0 i)]) 1 i [3] { ts:=[0,1,4,5,9],os:=[1,2,3] } h (by kernel_rfl) ⟨(by first | omega | ((try simp only [hge,mkK]);omega) | (simp only [lsA,mkAt_len];omega) | (simp;done) | (simp;omega)),trivial⟩
  refine at_regq [] { ts:=[0,1,4,5],os:=[1,2,3] } [(0:Int)≤((i:Nat):Int)∧((i:Nat):Int) < ((List.length (mkAt (Sh.mk s68) (Sh.ct s68) x1 x0 i):Nat):Int),i=i] gamOK hT h (by kernel_rfl) ⟨(by refine ⟨?_,?_⟩<;>(first | omega | ((try simp only [hge,mkK]);omega) | (simp only [lsA,mkAt_len];omega) | (simp;done) | (simp;omega))),rfl,trivial⟩ fun a w h=>then_normal (wp_seq ?_)
  refine at_regq [{},{ nw:=true }] { ts:=[0,1,4,5],os:=[1,2,3] } [I64 ((x1+((ctL (Sh.ct s68) (List.take i x0):Nat):Int))+1)] gamOK hT h (by kernel_rfl) ⟨⟨by first | omega | ((try simp only [hge,mkK]);omega) | (simp only [lsA,mkAt_len];omega) | (simp;done) | (simp;omega),by first | omega | ((try simp only [hge,mkK]);omega) | (simp only [lsA,mkAt_len];omega) | (simp;done) | (simp;omega)⟩,trivial⟩ fun a w h=>then_normal ?_
  refine at_regq [] { ts:=[0,1,4,5],os:=[1,2,3] } [(0:Int)≤((i:Nat):Int)∧((i:Nat):Int) < ((List.length (mkAt (Sh.mk s68) (Sh.ct s68) x1 x0 i):Nat):Int),i=i,(pMk s66) ((mkAt (Sh.mk s68) (Sh.ct s68) x1 x0 i).getD i (0,[])).2 ((x1+((ctL (Sh.ct s68) (List.take i x0):Nat):Int))+1)] gamOK hT h (by kernel_rfl) ⟨(by refine ⟨?_,?_⟩<;>(first | omega | ((try simp only [hge,mkK]);omega) | (simp only [lsA,mkAt_len];omega) | (simp;done) | (simp;omega))),rfl,(by (show (0:Int)≤_∧_+((Sh.ct _ _:Nat):Int)≤(4611686018427387904:Int);(try simp only [hge,mkK]);constructor<;>omega)),trivial⟩ fun a w h=>in_normal (then_normal ?_)
  refine at_regq [{},{ nw:=true }] { ts:=[0,1,4,5],os:=[1,2,3] } [I64 (((i:Nat):Int)+1)] gamOK hT h (by kernel_rfl) ⟨⟨by first | omega | ((try simp only [hge,mkK]);omega) | (simp only [lsA,mkAt_len];omega) | (simp;done) | (simp;omega),by first | omega | ((try simp only [hge,mkK]);omega) | (simp only [lsA,mkAt_len];omega) | (simp;done) | (simp;omega)⟩,trivial⟩ fun a w h=>?_
  replace h:=at_shut (σ':=⟨[(0,aS 1),(1,aI ((mkK s66) ((mkAt (Sh.mk s68) (Sh.ct s68) x1 x0 i).getD i (0,[])).2 ((x1+((ctL (Sh.ct s68) (List.take i x0):Nat):Int))+1))),(4,aI 0),(5,aI (((i:Nat):Int)+1))],[(1,oR s68 (List.set (mkAt (Sh.mk s68) (Sh.ct s68) x1 x0 i) i ((x1+((ctL (Sh.ct s68) (List.take i x0):Nat):Int)),((Sh.mk s66) ((mkAt (Sh.mk s68) (Sh.ct s68) x1 x0 i).getD i (0,[])).2 ((x1+((ctL (Sh.ct s68) (List.take i x0):Nat):Int))+1))))),(2,oP 1 (S_laws_markGenerationS.hd us 0))]⟩) (ps:=[]) 1 { ts:=[0,1,4,5],os:=[1,2] } h (by kernel_rfl) trivial
  replace h:=at_out (σ':=⟨[(0,aS 1),(1,aI ((mkK s66) ((mkAt (Sh.mk s68) (Sh.ct s68) x1 x0 i).getD i (0,[])).2 ((x1+((ctL (Sh.ct s68) (List.take i x0):Nat):Int))+1))),(4,aI 0),(5,aI (((i:Nat):Int)+1))],[(1,oR s68 (List.set (mkAt (Sh.mk s68) (Sh.ct s68) x1 x0 i) i ((x1+((ctL (Sh.ct s68) (List.take i x0):Nat):Int)),((Sh.mk s66) ((mkAt (Sh.mk s68) (Sh.ct s68) x1 x0 i).getD i (0,[])).2 ((x1+((ctL (Sh.ct s68) (List.take i x0):Nat):Int))+1))))),(2,oP 1 (S_laws_markGenerationS.hd us 0))]⟩) { ts:=[0,1,4,5],os:=[1,2] } h (by kernel_rfl)
  skip
  exact ⟨i+1,at_eq h (st_congr3 (fun (d0:List T68) (d1:Int) (d2:Int)=>(⟨[(0,aS 1),(1,aI d1),(4,aI 0),(5,aI d2)],[(1,oR s68 d0),(2,oP 1 (S_laws_markGenerationS.hd us 0))]⟩:St)) (show ((List.set (mkAt (Sh.mk s68) (Sh.ct s68) x1 x0 i) i ((x1+((ctL (Sh.ct s68) (List.take i x0):Nat):Int)),((Sh.mk s66) ((mkAt (Sh.mk s68) (Sh.ct s68) x1 x0 i).getD i (0,[])).2 ((x1+((ctL (Sh.ct s68) (List.take i x0):Nat):Int))+1)))):List T68)=(mkAt (Sh.mk s68) (Sh.ct s68) x1 x0 (i+1)) from by first | with_reducible rfl | (refine mkAt_set' (z:=(0,[])) (by omega) ?_;first | (simp only [hge,mkK];done) | ((try simp only [hge,mkK]);show _=Sh.mk s68 (x0.getD i (0,[])) _;exact (Prod.ext (by show (_:Int)=_;first | rfl | omega) (congrArg (fun k=>Sh.mk s66 (x0.getD i (0,[])).2 k) (by first | rfl | omega))))) | rfl) (show (((mkK s66) ((mkAt (Sh.mk s68) (Sh.ct s68) x1 x0 i).getD i (0,[])).2 ((x1+((ctL (Sh.ct s68) (List.take i x0):Nat):Int))+1)):Int)=(x1+((ctL (Sh.ct s68) (List.take (i+1) x0):Nat):Int)) from by first | with_reducible rfl | (((try simp only [hge,mkK]);omega)) | rfl) (show (((i:Nat):Int)+1:Int)=(((i+1):Nat):Int) from by first | with_reducible rfl | (omega) | rfl)),(by first | omega | (refine ⟨?_,?_⟩<;>omega)),(by omega)⟩
 ·replace h1 : ¬ (((i : Nat) : Int) < ((List.length (mkAt (Sh.mk s68) (Sh.ct s68) x1 x0 i) : Nat) : Int)) := of_decide_eq_false h1
  have hml:List.length (mkAt (Sh.mk s68) (Sh.ct s68) x1 x0 i)=List.length x0:=mkAt_len
  rw [hml] at h1
  refine wp_exit (then_exit (then_exit (in_hit (then_normal (wp_seq ?_)))))
  refine at_regq [] { ts:=[4],os:=[1,2] } [] gamOK hT h (by kernel_rfl) trivial fun a w h=>then_normal (wp_ret ?_)
  exact at_returnI (S:=S_laws_markGenerationS) (x:=(x0,x1,())) [1] [2] ((mkAt (Sh.mk s68) (Sh.ct s68) x1 x0 i),(x1,())) (some ((x1+((ctL (Sh.ct s68) (List.take i x0):Nat):Int)),())) [S_laws_markGenerationS.hd us 0=S_laws_markGenerationS.hd us 0] hio h (by kernel_rfl) ⟨rfl,trivial⟩ (by first | rfl | exact congrArg (fun (z:(List T68))=>(z,(x1,()))) (show ((mkAt (Sh.mk s68) (Sh.ct s68) x1 x0 i):(List T68))=(Sh.mk s29) x0 x1 from by exact mkAt_all (by omega))) (fun z e=>(Option.some.inj e) ▸ (congrArg (fun z=>(z,())) (show ((x1+((ctL (Sh.ct s68) (List.take i x0):Nat):Int)))=(mkK s29) x0 x1 from by (unfold mkK;rw [take_all (by omega)];rfl))))

def S_laws_markSink:Sum:={ fid:=10,dom:=[s31,(.int 3)],cod:=[(.int 3)],dp:=true,fz:=false,pre:=fun x=>(pMkT s31) x.1 x.2.1,g:=fun x=>(((mkKT s31) x.1 x.2.1),()),kinds:=[.io,.rd],upd:=fun x=>((Sh.mkT s31) x.1 x.2.1,(x.2.1,())) }
def S_laws_markSink_tab:List (Nat×Sum):=[(37,S_laws_markIntS),(38,S_laws_markDecoderS),(39,S_laws_markGenerationS)]
theorem S_laws_markSink_ok:FnOK Try.prog 10 S_laws_markSink:=by
 refine at_enterI 18 [1,2,3] [4,5,6] (fun us x=>⟨[(0,aG [cI x.1.1,cI x.1.2.1,.sl 1,.sl 2,.sl 3,cI x.1.2.2.2.2.2]),(1,aI x.2.1)],[(1,oR (.int 3) x.1.2.2.1),(2,oR s97 x.1.2.2.2.1),(3,oR s68 x.1.2.2.2.2.1),(4,oP 1 (S_laws_markSink.hd us 0)),(5,oP 2 (S_laws_markSink.hd us 1)),(6,oP 3 (S_laws_markSink.hd us 2))]⟩) Try.func10 rfl (by kernel_rfl) (fun us x=>rfl) ?_
 rintro w0 Z0 us ⟨x0,x1,u⟩ L a w
 revert x0 x1
 intro (x0:T31) (x1:Int) hio hpre hlens h
 replace h:At w0 Z0 L 18 ⟨[(0,aG [cI x0.1,cI x0.2.1,.sl 1,.sl 2,.sl 3,cI x0.2.2.2.2.2]),(1,aI x1)],[(1,oR (.int 3) x0.2.2.1),(2,oR s97 x0.2.2.2.1),(3,oR s68 x0.2.2.2.2.1),(4,oP 1 (S_laws_markSink.hd us 0)),(5,oP 2 (S_laws_markSink.hd us 1)),(6,oP 3 (S_laws_markSink.hd us 2))]⟩ a w:=h
 replace hpre:(pMkT s31) x0 x1:=hpre
 have hl1:List.length x0.2.2.1≤9223372036854775807:=hlens.1.2.2.1.1
 have hl2:List.length x0.2.2.2.1≤9223372036854775807:=hlens.1.2.2.2.1.1
 have hl3:List.length x0.2.2.2.2.1≤9223372036854775807:=hlens.1.2.2.2.2.1.1
 have hT:TabOK Try.prog S_laws_markSink_tab:=(.cons S_laws_markIntS_ok (.cons S_laws_markDecoderS_ok (.cons S_laws_markGenerationS_ok .nil)))
 have hp:0≤x1∧x1+((Sh.ctT s31 x0:Nat):Int)≤4611686018427387904:=hpre
 have hct0:Sh.ctT s31 x0=(0+(0+((Sh.ct s22 x0.2.2.1)+((Sh.ct s28 x0.2.2.2.1)+((Sh.ct s29 x0.2.2.2.2.1)+0))))):=rfl
 refine wp_seq ?_
 refine at_regq [{ ids:=[7] }] { ts:=[1,2,4],os:=[1,2,3,4,5,6,7] } [] gamOK hT h (by kernel_rfl) trivial fun a w h=>then_normal (wp_seq ?_)
 refine at_regq [] { ts:=[1,2,4],os:=[1,2,3,4,5,6,7] } [(pMk s22) x0.2.2.1 x1] gamOK hT h (by kernel_rfl) ⟨(by (first | (show (0:Int)≤_∧_+((Sh.ct _ _:Nat):Int)≤(4611686018427387904:Int);(try simp only [mkK,mkKT]);constructor<;>omega) | (show (0:Int)≤_∧_+((Sh.ctT _ _:Nat):Int)≤(4611686018427387904:Int);(try simp only [mkK,mkKT]);constructor<;>omega))),trivial⟩ fun a w h=>then_normal (wp_seq ?_)
 refine at_regq [] { ts:=[1,2,4],os:=[1,2,3,4,5,6,7] } [(pMk s28) x0.2.2.2.1 ((mkK s22) x0.2.2.1 x1)] gamOK hT h (by kernel_rfl) ⟨(by (first | (show (0:Int)≤_∧_+((Sh.ct _ _:Nat):Int)≤(4611686018427387904:Int);(try simp only [mkK,mkKT]);constructor<;>omega) | (show (0:Int)≤_∧_+((Sh.ctT _ _:Nat):Int)≤(4611686018427387904:Int);(try simp only [mkK,mkKT]);constructor<;>omega))),trivial⟩ fun a w h=>then_normal (wp_seq ?_)
 refine at_regq [] { ts:=[1,4],os:=[1,2,3,4,5,6] } [(pMk s29) x0.2.2.2.2.1 ((mkK s28) x0.2.2.2.1 ((mkK s22) x0.2.2.1 x1))] gamOK hT h (by kernel_rfl) ⟨(by (first | (show (0:Int)≤_∧_+((Sh.ct _ _:Nat):Int)≤(4611686018427387904:Int);(try simp only [mkK,mkKT]);constructor<;>omega) | (show (0:Int)≤_∧_+((Sh.ctT _ _:Nat):Int)≤(4611686018427387904:Int);(try simp only [mkK,mkKT]);constructor<;>omega))),trivial⟩ fun a w h=>then_normal (wp_seq ?_)
 refine at_regq [] { ts:=[4],os:=[1,2,3,4,5,6] } [] gamOK hT h (by kernel_rfl) trivial fun a w h=>then_normal (wp_ret ?_)
 exact at_returnI (S:=S_laws_markSink) (x:=(x0,x1,())) [1,2,3] [4,5,6] ((x0.1,(x0.2.1,(((Sh.mk s22) x0.2.2.1 x1),(((Sh.mk s28) x0.2.2.2.1 ((mkK s22) x0.2.2.1 x1)),(((Sh.mk s29) x0.2.2.2.2.1 ((mkK s28) x0.2.2.2.1 ((mkK s22) x0.2.2.1 x1))),x0.2.2.2.2.2))))),(x1,())) (some (((mkK s29) x0.2.2.2.2.1 ((mkK s28) x0.2.2.2.1 ((mkK s22) x0.2.2.1 x1))),())) [S_laws_markSink.hd us 0=S_laws_markSink.hd us 0,S_laws_markSink.hd us 1=S_laws_markSink.hd us 1,S_laws_markSink.hd us 2=S_laws_markSink.hd us 2] hio h (by kernel_rfl) ⟨rfl,rfl,rfl,trivial⟩ (by first | rfl | exact congrArg (fun (z:T31)=>(z,(x1,()))) (show ((x0.1,(x0.2.1,(((Sh.mk s22) x0.2.2.1 x1),(((Sh.mk s28) x0.2.2.2.1 ((mkK s22) x0.2.2.1 x1)),(((Sh.mk s29) x0.2.2.2.2.1 ((mkK s28) x0.2.2.2.1 ((mkK s22) x0.2.2.1 x1))),x0.2.2.2.2.2))))):T31)=(Sh.mkT s31) x0 x1 from by show _=Sh.mkT s31 x0 x1;exact (Prod.ext rfl (Prod.ext rfl (Prod.ext (congrArg (fun k=>Sh.mk s22 x0.2.2.1 k) (show (_:Int)=x1+((0:Nat):Int)+((0:Nat):Int) from by first | rfl | ((try simp only [mkK,mkKT]);omega))) (Prod.ext (congrArg (fun k=>Sh.mk s28 x0.2.2.2.1 k) (show (_:Int)=x1+((0:Nat):Int)+((0:Nat):Int)+(((Sh.ct s22 x0.2.2.1):Nat):Int) from by first | rfl | ((try simp only [mkK,mkKT]);omega))) (Prod.ext (congrArg (fun k=>Sh.mk s29 x0.2.2.2.2.1 k) (show (_:Int)=x1+((0:Nat):Int)+((0:Nat):Int)+(((Sh.ct s22 x0.2.2.1):Nat):Int)+(((Sh.ct s28 x0.2.2.2.1):Nat):Int) from by first | rfl | ((try simp only [mkK,mkKT]);omega))) rfl))))))) (fun z e=>(Option.some.inj e) ▸ (congrArg (fun z=>(z,())) (show (((mkK s29) x0.2.2.2.2.1 ((mkK s28) x0.2.2.2.1 ((mkK s22) x0.2.2.1 x1))))=(mkKT s31) x0 x1 from by ((try simp only [mkK,mkKT]);omega))))

def S_laws_szIntS:Sum:={ fid:=23,dom:=[s22,(.int 3)],cod:=[(.int 3)],dp:=true,fz:=false,pre:=fun x=>(pSz s22) x.1 x.2.1,g:=fun x=>(((szD s22) x.1 x.2.1),()) }
def S_laws_szIntS_tab:List (Nat×Sum):=[]
theorem S_laws_szIntS_ok:FnOK Try.prog 23 S_laws_szIntS:=by
 refine at_enter 12 (fun x=>⟨[(0,aF (.int 3) x.1),(1,aI x.2.1)],[]⟩) Try.func23 rfl (by kernel_rfl) (fun x=>rfl) ?_
 rintro w0 Z0 ⟨x0,x1,u⟩ a w
 revert x0 x1
 intro (x0:(List Int)) (x1:Int) hpre hlens h
 replace hpre:(pSz s22) x0 x1:=hpre
 have hl1:List.length x0≤9223372036854775807:=hlens.1.1
 have hT:TabOK Try.prog S_laws_szIntS_tab:=.nil
 have hp:0≤x1∧x1≤9223372036854775807:=hpre
 refine wp_seq ?_
 refine at_regq [] { ts:=[0,1,4],os:=[] } [] gamOK hT h (by kernel_rfl) trivial fun a w h=>then_normal (wp_seq ?_)
 refine at_regq [{},{},{},{ nw:=true }] { ts:=[1,4],os:=[] } [I64 (x1 - ((List.length x0:Nat):Int))] gamOK hT h (by kernel_rfl) ⟨⟨by first | omega | (simp only [lsA];omega) | (simp<;>omega),by first | omega | (simp only [lsA];omega) | (simp<;>omega)⟩,trivial⟩ fun a w h=>then_normal (wp_seq (wp_seq ?_))
 refine at_regq [] { ts:=[1,4,10],os:=[] } [] gamOK hT h (by kernel_rfl) trivial fun a w h=>then_normal ?_
 refine at_test (decide (x1 - ((List.length x0:Nat):Int) < 0)) h (by kernel_rfl) (fun h1=>?_) (fun h1=>?_)
 ·replace h1 : x1 - ((List.length x0 : Nat) : Int) < 0 := of_decide_eq_true h1
  refine wp_seq ?_
  refine at_regq [] { ts:=[1,4],os:=[] } [] gamOK hT h (by kernel_rfl) trivial fun a w h=>then_normal (wp_ret (then_ret ?_))
  exact at_return ((-1),()) [] h (by kernel_rfl) trivial (congrArg (fun z=>(z,())) (show ((-1))=(szD s22) x0 x1 from by exact (szD_no (by rw [sz_flat (by rfl)];omega)).symm))
 ·replace h1 : ¬ (x1 - ((List.length x0 : Nat) : Int) < 0) := of_decide_eq_false h1
  refine wp_skip (then_normal (wp_seq ?_))
  refine at_regq [] { ts:=[4],os:=[] } [] gamOK hT h (by kernel_rfl) trivial fun a w h=>then_normal (wp_ret ?_)
  exact at_return (x1 - ((List.length x0:Nat):Int),()) [] h (by kernel_rfl) trivial (congrArg (fun z=>(z,())) (show (x1 - ((List.length x0:Nat):Int))=(szD s22) x0 x1 from by exact ((szD_ok (by rw [sz_flat (by rfl)];omega)).trans (by rw [sz_flat (by rfl)])).symm))

def S_laws_szIntSS:Sum:={ fid:=101,dom:=[s66,(.int 3)],cod:=[(.int 3)],dp:=true,fz:=false,pre:=fun x=>(pSz s66) x.1 x.2.1,g:=fun x=>(((szD s66) x.1 x.2.1),()) }
def S_laws_szIntSS_tab:List (Nat×Sum):=[(23,S_laws_szIntS)]
theorem S_laws_szIntSS_ok:FnOK Try.prog 101 S_laws_szIntSS:=by
 refine at_enter 27 (fun x=>⟨[(0,aF s22 x.1),(1,aI x.2.1)],[]⟩) Try.func101 rfl (by kernel_rfl) (fun x=>rfl) ?_
 rintro w0 Z0 ⟨x0,x1,u⟩ a w
 revert x0 x1
 intro (x0:(List (List Int))) (x1:Int) hpre hlens h
 replace hpre:(pSz s66) x0 x1:=hpre
 have hl1:List.length x0≤9223372036854775807:=hlens.1.1
 have hT:TabOK Try.prog S_laws_szIntSS_tab:=(.cons S_laws_szIntS_ok .nil)
 have hp:0≤x1∧x1≤9223372036854775807:=hpre
 have hsz:Sh.sz s66 x0=List.length x0+ctL (Sh.sz s22) x0:=rfl
 refine wp_seq ?_
 refine at_regq [] { ts:=[0,1,4],os:=[] } [] gamOK hT h (by kernel_rfl) trivial fun a w h=>then_normal (wp_seq ?_)
 refine at_regq [{},{},{},{ nw:=true }] { ts:=[0,1,4],os:=[] } [I64 (x1 - ((List.length x0:Nat):Int))] gamOK hT h (by kernel_rfl) ⟨⟨by first | omega | (simp only [lsA];omega) | (simp<;>omega),by first | omega | (simp only [lsA];omega) | (simp<;>omega)⟩,trivial⟩ fun a w h=>then_normal (wp_seq (wp_seq ?_))
 refine at_regq [] { ts:=[0,1,4,11],os:=[] } [] gamOK hT h (by kernel_rfl) trivial fun a w h=>then_normal ?_
 refine at_test (decide (x1 - ((List.length x0:Nat):Int) < 0)) h (by kernel_rfl) (fun h1=>?_) (fun h1=>?_)
 ·replace h1 : x1 - ((List.length x0 : Nat) : Int) < 0 := of_decide_eq_true h1
  refine wp_seq ?_
  refine at_regq [] { ts:=[0,1,4],os:=[] } [] gamOK hT h (by kernel_rfl) trivial fun a w h=>then_normal (wp_ret (then_ret ?_))
  exact at_return ((-1),()) [] h (by kernel_rfl) trivial (congrArg (fun z=>(z,())) (show ((-1))=(szD s66) x0 x1 from by exact (szD_no (by omega)).symm))
 ·replace h1 : ¬ (x1 - ((List.length x0 : Nat) : Int) < 0) := of_decide_eq_false h1
  refine wp_skip (then_normal (wp_seq (wp_seq ?_)))
  refine at_regq [] { ts:=[0,1,4,5],os:=[] } [] gamOK hT h (by kernel_rfl) trivial fun a w h=>then_normal (wp_block ?_)
  replace h:=at_out (σ':=⟨[(0,aF s22 x0),(1,aI (x1 - ((List.length x0:Nat):Int))),(4,aI 0),(5,aI 0)],[]⟩) { ts:=[0,1,4,5],os:=[] } h (by kernel_rfl)
  refine at_loop (fun i:Nat=>(⟨[(0,aF s22 x0),(1,aI (x1 - ((List.length x0:Nat):Int) - ((ctL (Sh.sz s22) (List.take i x0):Nat):Int))),(4,aI 0),(5,aI ((i:Nat):Int))],[]⟩:St)) (fun i=>(i≤List.length x0∧((List.length x0:Nat):Int)+((ctL (Sh.sz s22) (List.take i x0):Nat):Int)≤x1)) (fun i=>List.length x0 - i) (0) h (st_congr2 (fun (d0:Int) (d1:Int)=>(⟨[(0,aF s22 x0),(1,aI d0),(4,aI 0),(5,aI d1)],[]⟩:St)) (show (x1 - ((List.length x0:Nat):Int):Int)=(x1 - ((List.length x0:Nat):Int) - ((ctL (Sh.sz s22) (List.take (0) x0):Nat):Int)) from by first | with_reducible rfl | (simp [ctL]) | rfl) (show (0:Int)=(((0):Nat):Int) from by first | with_reducible rfl | (simp [ctL]) | rfl)) (by simp [ctL];omega) ?_
  intro i a w hok0 h
  refine wp_seq (wp_seq ?_)
  refine at_regq [] { ts:=[0,1,4,5,15],os:=[] } [] gamOK hT h (by kernel_rfl) trivial fun a w h=>then_normal ?_
  refine at_test (decide (((i:Nat):Int) < ((List.length x0:Nat):Int))) h (by kernel_rfl) (fun h2=>?_) (fun h2=>?_)
  ·replace h2 : ((i : Nat) : Int) < ((List.length x0 : Nat) : Int) := of_decide_eq_true h2
   have hat:=ctL_at_le (c:=Sh.sz s22) (xs:=x0) (z:=[]) (i:=i) (by omega)
   have hsu:=ctL_take_succ (c:=Sh.sz s22) (xs:=x0) (z:=[]) (i:=i) (by omega)
   refine wp_skip (then_normal (wp_seq (wp_block (wp_seq ?_))))
   refine at_regq [] { ts:=[0,1,4,5],os:=[] } [(0:Int)≤((i:Nat):Int)∧((i:Nat):Int) < ((List.length x0:Nat):Int),(pSz s22) (x0.getD i []) (x1 - ((List.length x0:Nat):Int) - ((ctL (Sh.sz s22) (List.take i x0):Nat):Int))] gamOK hT h (by kernel_rfl) ⟨(by refine ⟨?_,?_⟩<;>(first | omega | (simp only [lsA];omega) | (simp<;>omega))),(by (show (0:Int)≤_∧_≤(9223372036854775807:Int);constructor<;>omega)),trivial⟩ fun a w h=>then_normal (wp_seq ?_)
   refine at_regq [] { ts:=[0,1,4,5,25],os:=[] } [] gamOK hT h (by kernel_rfl) trivial fun a w h=>then_normal ?_
   refine at_test (decide (((szD s22) (x0.getD i []) (x1 - ((List.length x0:Nat):Int) - ((ctL (Sh.sz s22) (List.take i x0):Nat):Int))) < 0)) h (by kernel_rfl) (fun h3=>?_) (fun h3=>?_)
   ·replace h3 : ((szD s22) (x0.getD i []) (x1 - ((List.length x0 : Nat) : Int) - ((ctL (Sh.sz s22) (List.take i x0) : Nat) : Int))) < 0 := of_decide_eq_true h3
    have hvh3:=szD_neg h3 (by omega)
    refine wp_seq ?_
    refine at_regq [] { ts:=[0,1,4,5],os:=[] } [] gamOK hT h (by kernel_rfl) trivial fun a w h=>then_normal (wp_ret (in_ret (then_ret (then_ret (in_ret (then_ret ?_))))))
    exact at_return ((-1),()) [] h (by kernel_rfl) trivial (congrArg (fun z=>(z,())) (show ((-1))=(szD s66) x0 x1 from by exact (szD_no (by omega)).symm))
   ·replace h3 : ¬ (((szD s22) (x0.getD i []) (x1 - ((List.length x0 : Nat) : Int) - ((ctL (Sh.sz s22) (List.take i x0) : Nat) : Int))) < 0) := of_decide_eq_false h3
    have hvh3:=szD_val h3 (by omega)
    refine wp_skip (in_normal (then_normal ?_))
    refine at_regq [{},{ nw:=true }] { ts:=[0,1,4,5],os:=[] } [I64 (((i:Nat):Int)+1)] gamOK hT h (by kernel_rfl) ⟨⟨by first | omega | (simp only [lsA];omega) | (simp<;>omega),by first | omega | (simp only [lsA];omega) | (simp<;>omega)⟩,trivial⟩ fun a w h=>?_
    replace h:=at_out (σ':=⟨[(0,aF s22 x0),(1,aI ((szD s22) (x0.getD i []) (x1 - ((List.length x0:Nat):Int) - ((ctL (Sh.sz s22) (List.take i x0):Nat):Int)))),(4,aI 0),(5,aI (((i:Nat):Int)+1))],[]⟩) { ts:=[0,1,4,5],os:=[] } h (by kernel_rfl)
    exact ⟨i+1,at_eq h (st_congr2 (fun (d0:Int) (d1:Int)=>(⟨[(0,aF s22 x0),(1,aI d0),(4,aI 0),(5,aI d1)],[]⟩:St)) (show (((szD s22) (x0.getD i []) (x1 - ((List.length x0:Nat):Int) - ((ctL (Sh.sz s22) (List.take i x0):Nat):Int))):Int)=(x1 - ((List.length x0:Nat):Int) - ((ctL (Sh.sz s22) (List.take (i+1) x0):Nat):Int)) from by first | with_reducible rfl | (omega) | rfl) (show (((i:Nat):Int)+1:Int)=(((i+1):Nat):Int) from by first | with_reducible rfl | (omega) | rfl)),(by constructor<;>omega),(by omega)⟩
  ·replace h2 : ¬ (((i : Nat) : Int) < ((List.length x0 : Nat) : Int)) := of_decide_eq_false h2
   refine wp_exit (then_exit (then_exit (in_hit (then_normal (wp_seq ?_)))))
   refine at_regq [] { ts:=[4],os:=[] } [] gamOK hT h (by kernel_rfl) trivial fun a w h=>then_normal (wp_ret ?_)
   exact at_return ((x1 - ((List.length x0:Nat):Int) - ((ctL (Sh.sz s22) (List.take i x0):Nat):Int)),()) [] h (by kernel_rfl) trivial (congrArg (fun z=>(z,())) (show ((x1 - ((List.length x0:Nat):Int) - ((ctL (Sh.sz s22) (List.take i x0):Nat):Int)))=(szD s66) x0 x1 from by (have hta:ctL (Sh.sz s22) (List.take i x0)=ctL (Sh.sz s22) x0:=congrArg (ctL (Sh.sz s22)) (take_all (by omega));exact ((szD_ok (by omega)).trans (by omega)).symm)))

def S_laws_szBasis:Sum:={ fid:=100,dom:=[s90,(.int 3)],cod:=[(.int 3)],dp:=true,fz:=false,pre:=fun x=>(pSz s90) x.1 x.2.1,g:=fun x=>(((szD s90) x.1 x.2.1),()) }
def S_laws_szBasis_tab:List (Nat×Sum):=[(101,S_laws_szIntSS)]
theorem S_laws_szBasis_ok:FnOK Try.prog 100 S_laws_szBasis:=by
 refine at_enter 12 (fun x=>⟨[(0,aG [cI x.1.1,.ro s22 x.1.2]),(1,aI x.2.1)],[]⟩) Try.func100 rfl (by kernel_rfl) (fun x=>rfl) ?_
 rintro w0 Z0 ⟨x0,x1,u⟩ a w
 revert x0 x1
 intro (x0:T90) (x1:Int) hpre hlens h
 replace hpre:(pSz s90) x0 x1:=hpre
 have hl1:List.length x0.2≤9223372036854775807:=hlens.1.2.1
 have hT:TabOK Try.prog S_laws_szBasis_tab:=(.cons S_laws_szIntSS_ok .nil)
 have hp:0≤x1∧x1≤9223372036854775807:=hpre
 have hsz:Sh.sz s90 x0=(0+(Sh.sz s66 x0.2)):=rfl
 refine wp_seq ?_
 refine at_regq [{ ids:=[1] }] { ts:=[1,2,4],os:=[1] } [] gamOK hT h (by kernel_rfl) trivial fun a w h=>then_normal (wp_seq ?_)
 refine at_regq [] { ts:=[1,4],os:=[] } [(pSz s66) x0.2 x1] gamOK hT h (by kernel_rfl) ⟨(by (show (0:Int)≤_∧_≤(9223372036854775807:Int);constructor<;>omega)),trivial⟩ fun a w h=>then_normal (wp_seq (wp_seq ?_))
 refine at_regq [] { ts:=[1,4,10],os:=[] } [] gamOK hT h (by kernel_rfl) trivial fun a w h=>then_normal ?_
 refine at_test (decide (((szD s66) x0.2 x1) < 0)) h (by kernel_rfl) (fun h1=>?_) (fun h1=>?_)
 ·replace h1 : ((szD s66) x0.2 x1) < 0 := of_decide_eq_true h1
  have hvh1:=szD_neg h1 (by omega)
  refine wp_seq ?_
  refine at_regq [] { ts:=[1,4],os:=[] } [] gamOK hT h (by kernel_rfl) trivial fun a w h=>then_normal (wp_ret (then_ret ?_))
  exact at_return ((-1),()) [] h (by kernel_rfl) trivial (congrArg (fun z=>(z,())) (show ((-1))=(szD s90) x0 x1 from by (first | exact (szD_no (by omega)).symm | exact ((szD_ok (by omega)).trans (by omega)).symm)))
 ·replace h1 : ¬ (((szD s66) x0.2 x1) < 0) := of_decide_eq_false h1
  have hvh1:=szD_val h1 (by omega)
  refine wp_skip (then_normal (wp_seq ?_))
  refine at_regq [] { ts:=[4],os:=[] } [] gamOK hT h (by kernel_rfl) trivial fun a w h=>then_normal (wp_ret ?_)
  exact at_return (((szD s66) x0.2 x1),()) [] h (by kernel_rfl) trivial (congrArg (fun z=>(z,())) (show (((szD s66) x0.2 x1))=(szD s90) x0 x1 from by (first | exact (szD_no (by omega)).symm | exact ((szD_ok (by omega)).trans (by omega)).symm)))

def S_laws_szDecoder:Sum:={ fid:=55,dom:=[s92,(.int 3)],cod:=[(.int 3)],dp:=true,fz:=false,pre:=fun x=>(pSz s92) x.1 x.2.1,g:=fun x=>(((szD s92) x.1 x.2.1),()) }
def S_laws_szDecoder_tab:List (Nat×Sum):=[(100,S_laws_szBasis)]
theorem S_laws_szDecoder_ok:FnOK Try.prog 55 S_laws_szDecoder:=by
 refine at_enter 12 (fun x=>⟨[(0,aG [cI x.1.1,cI x.1.2.1,cI x.1.2.2.1,cI x.1.2.2.2.1,.ro s22 x.1.2.2.2.2]),(1,aI x.2.1)],[]⟩) Try.func55 rfl (by kernel_rfl) (fun x=>rfl) ?_
 rintro w0 Z0 ⟨x0,x1,u⟩ a w
 revert x0 x1
 intro (x0:T92) (x1:Int) hpre hlens h
 replace hpre:(pSz s92) x0 x1:=hpre
 have hl1:List.length x0.2.2.2.2≤9223372036854775807:=hlens.1.2.2.2.2.1
 have hT:TabOK Try.prog S_laws_szDecoder_tab:=(.cons S_laws_szBasis_ok .nil)
 have hp:0≤x1∧x1≤9223372036854775807:=hpre
 have hsz:Sh.sz s92 x0=(0+(0+(0+(Sh.sz s90 x0.2.2.2)))):=rfl
 refine wp_seq ?_
 refine at_regq [{ ids:=[1] }] { ts:=[1,2,4],os:=[1] } [] gamOK hT h (by kernel_rfl) trivial fun a w h=>then_normal (wp_seq ?_)
 refine at_regq [] { ts:=[1,4],os:=[] } [(pSz s90) x0.2.2.2 x1] gamOK hT h (by kernel_rfl) ⟨(by (show (0:Int)≤_∧_≤(9223372036854775807:Int);constructor<;>omega)),trivial⟩ fun a w h=>then_normal (wp_seq (wp_seq ?_))
 refine at_regq [] { ts:=[1,4,10],os:=[] } [] gamOK hT h (by kernel_rfl) trivial fun a w h=>then_normal ?_
 refine at_test (decide (((szD s90) x0.2.2.2 x1) < 0)) h (by kernel_rfl) (fun h1=>?_) (fun h1=>?_)
 ·replace h1 : ((szD s90) x0.2.2.2 x1) < 0 := of_decide_eq_true h1
  have hvh1:=szD_neg h1 (by omega)
  refine wp_seq ?_
  refine at_regq [] { ts:=[1,4],os:=[] } [] gamOK hT h (by kernel_rfl) trivial fun a w h=>then_normal (wp_ret (then_ret ?_))
  exact at_return ((-1),()) [] h (by kernel_rfl) trivial (congrArg (fun z=>(z,())) (show ((-1))=(szD s92) x0 x1 from by (first | exact (szD_no (by omega)).symm | exact ((szD_ok (by omega)).trans (by omega)).symm)))
 ·replace h1 : ¬ (((szD s90) x0.2.2.2 x1) < 0) := of_decide_eq_false h1
  have hvh1:=szD_val h1 (by omega)
  refine wp_skip (then_normal (wp_seq ?_))
  refine at_regq [] { ts:=[4],os:=[] } [] gamOK hT h (by kernel_rfl) trivial fun a w h=>then_normal (wp_ret ?_)
  exact at_return (((szD s90) x0.2.2.2 x1),()) [] h (by kernel_rfl) trivial (congrArg (fun z=>(z,())) (show (((szD s90) x0.2.2.2 x1))=(szD s92) x0 x1 from by (first | exact (szD_no (by omega)).symm | exact ((szD_ok (by omega)).trans (by omega)).symm)))

def S_laws_szDecoderS:Sum:={ fid:=24,dom:=[s23,(.int 3)],cod:=[(.int 3)],dp:=true,fz:=false,pre:=fun x=>(pSz s23) x.1 x.2.1,g:=fun x=>(((szD s23) x.1 x.2.1),()) }
def S_laws_szDecoderS_tab:List (Nat×Sum):=[(55,S_laws_szDecoder)]
theorem S_laws_szDecoderS_ok:FnOK Try.prog 24 S_laws_szDecoderS:=by
 refine at_enter 27 (fun x=>⟨[(0,aF s92 x.1),(1,aI x.2.1)],[]⟩) Try.func24 rfl (by kernel_rfl) (fun x=>rfl) ?_
 rintro w0 Z0 ⟨x0,x1,u⟩ a w
 revert x0 x1
 intro (x0:(List T92)) (x1:Int) hpre hlens h
 replace hpre:(pSz s23) x0 x1:=hpre
 have hl1:List.length x0≤9223372036854775807:=hlens.1.1
 have hT:TabOK Try.prog S_laws_szDecoderS_tab:=(.cons S_laws_szDecoder_ok .nil)
 have hp:0≤x1∧x1≤9223372036854775807:=hpre
 have hsz:Sh.sz s23 x0=List.length x0+ctL (Sh.sz s92) x0:=rfl
 refine wp_seq ?_
 refine at_regq [] { ts:=[0,1,4],os:=[] } [] gamOK hT h (by kernel_rfl) trivial fun a w h=>then_normal (wp_seq ?_)
 refine at_regq [{},{},{},{ nw:=true }] { ts:=[0,1,4],os:=[] } [I64 (x1 - ((List.length x0:Nat):Int))] gamOK hT h (by kernel_rfl) ⟨⟨by first | omega | (simp only [lsA];omega) | (simp<;>omega),by first | omega | (simp only [lsA];omega) | (simp<;>omega)⟩,trivial⟩ fun a w h=>then_normal (wp_seq (wp_seq ?_))
 refine at_regq [] { ts:=[0,1,4,11],os:=[] } [] gamOK hT h (by kernel_rfl) trivial fun a w h=>then_normal ?_
 refine at_test (decide (x1 - ((List.length x0:Nat):Int) < 0)) h (by kernel_rfl) (fun h1=>?_) (fun h1=>?_)
 ·replace h1 : x1 - ((List.length x0 : Nat) : Int) < 0 := of_decide_eq_true h1
  refine wp_seq ?_
  refine at_regq [] { ts:=[0,1,4],os:=[] } [] gamOK hT h (by kernel_rfl) trivial fun a w h=>then_normal (wp_ret (then_ret ?_))
  exact at_return ((-1),()) [] h (by kernel_rfl) trivial (congrArg (fun z=>(z,())) (show ((-1))=(szD s23) x0 x1 from by exact (szD_no (by omega)).symm))
 ·replace h1 : ¬ (x1 - ((List.length x0 : Nat) : Int) < 0) := of_decide_eq_false h1
  refine wp_skip (then_normal (wp_seq (wp_seq ?_)))
  refine at_regq [] { ts:=[0,1,4,5],os:=[] } [] gamOK hT h (by kernel_rfl) trivial fun a w h=>then_normal (wp_block ?_)
  replace h:=at_out (σ':=⟨[(0,aF s92 x0),(1,aI (x1 - ((List.length x0:Nat):Int))),(4,aI 0),(5,aI 0)],[]⟩) { ts:=[0,1,4,5],os:=[] } h (by kernel_rfl)
  refine at_loop (fun i:Nat=>(⟨[(0,aF s92 x0),(1,aI (x1 - ((List.length x0:Nat):Int) - ((ctL (Sh.sz s92) (List.take i x0):Nat):Int))),(4,aI 0),(5,aI ((i:Nat):Int))],[]⟩:St)) (fun i=>(i≤List.length x0∧((List.length x0:Nat):Int)+((ctL (Sh.sz s92) (List.take i x0):Nat):Int)≤x1)) (fun i=>List.length x0 - i) (0) h (st_congr2 (fun (d0:Int) (d1:Int)=>(⟨[(0,aF s92 x0),(1,aI d0),(4,aI 0),(5,aI d1)],[]⟩:St)) (show (x1 - ((List.length x0:Nat):Int):Int)=(x1 - ((List.length x0:Nat):Int) - ((ctL (Sh.sz s92) (List.take (0) x0):Nat):Int)) from by first | with_reducible rfl | (simp [ctL]) | rfl) (show (0:Int)=(((0):Nat):Int) from by first | with_reducible rfl | (simp [ctL]) | rfl)) (by simp [ctL];omega) ?_
  intro i a w hok0 h
  refine wp_seq (wp_seq ?_)
  refine at_regq [] { ts:=[0,1,4,5,15],os:=[] } [] gamOK hT h (by kernel_rfl) trivial fun a w h=>then_normal ?_
  refine at_test (decide (((i:Nat):Int) < ((List.length x0:Nat):Int))) h (by kernel_rfl) (fun h2=>?_) (fun h2=>?_)
  ·replace h2 : ((i : Nat) : Int) < ((List.length x0 : Nat) : Int) := of_decide_eq_true h2
   have hat:=ctL_at_le (c:=Sh.sz s92) (xs:=x0) (z:=(0,(0,(0,(0,[]))))) (i:=i) (by omega)
   have hsu:=ctL_take_succ (c:=Sh.sz s92) (xs:=x0) (z:=(0,(0,(0,(0,[]))))) (i:=i) (by omega)
   refine wp_skip (then_normal (wp_seq (wp_block (wp_seq ?_))))
   refine at_regq [] { ts:=[0,1,4,5],os:=[] } [(0:Int)≤((i:Nat):Int)∧((i:Nat):Int) < ((List.length x0:Nat):Int),(pSz s92) (x0.getD i (0,(0,(0,(0,[]))))) (x1 - ((List.length x0:Nat):Int) - ((ctL (Sh.sz s92) (List.take i x0):Nat):Int))] gamOK hT h (by kernel_rfl) ⟨(by refine ⟨?_,?_⟩<;>(first | omega | (simp only [lsA];omega) | (simp<;>omega))),(by (show (0:Int)≤_∧_≤(9223372036854775807:Int);constructor<;>omega)),trivial⟩ fun a w h=>then_normal (wp_seq ?_)
   refine at_regq [] { ts:=[0,1,4,5,25],os:=[] } [] gamOK hT h (by kernel_rfl) trivial fun a w h=>then_normal ?_
   refine at_test (decide (((szD s92) (x0.getD i (0,(0,(0,(0,[]))))) (x1 - ((List.length x0:Nat):Int) - ((ctL (Sh.sz s92) (List.take i x0):Nat):Int))) < 0)) h (by kernel_rfl) (fun h3=>?_) (fun h3=>?_)
   ·replace h3 : ((szD s92) (x0.getD i (0, (0, (0, (0, []))))) (x1 - ((List.length x0 : Nat) : Int) - ((ctL (Sh.sz s92) (List.take i x0) : Nat) : Int))) < 0 := of_decide_eq_true h3
    have hvh3:=szD_neg h3 (by omega)
    refine wp_seq ?_
    refine at_regq [] { ts:=[0,1,4,5],os:=[] } [] gamOK hT h (by kernel_rfl) trivial fun a w h=>then_normal (wp_ret (in_ret (then_ret (then_ret (in_ret (then_ret ?_))))))
    exact at_return ((-1),()) [] h (by kernel_rfl) trivial (congrArg (fun z=>(z,())) (show ((-1))=(szD s23) x0 x1 from by exact (szD_no (by omega)).symm))
   ·replace h3 : ¬ (((szD s92) (x0.getD i (0, (0, (0, (0, []))))) (x1 - ((List.length x0 : Nat) : Int) - ((ctL (Sh.sz s92) (List.take i x0) : Nat) : Int))) < 0) := of_decide_eq_false h3
    have hvh3:=szD_val h3 (by omega)
    refine wp_skip (in_normal (then_normal ?_))
    refine at_regq [{},{ nw:=true }] { ts:=[0,1,4,5],os:=[] } [I64 (((i:Nat):Int)+1)] gamOK hT h (by kernel_rfl) ⟨⟨by first | omega | (simp only [lsA];omega) | (simp<;>omega),by first | omega | (simp only [lsA];omega) | (simp<;>omega)⟩,trivial⟩ fun a w h=>?_
    replace h:=at_out (σ':=⟨[(0,aF s92 x0),(1,aI ((szD s92) (x0.getD i (0,(0,(0,(0,[]))))) (x1 - ((List.length x0:Nat):Int) - ((ctL (Sh.sz s92) (List.take i x0):Nat):Int)))),(4,aI 0),(5,aI (((i:Nat):Int)+1))],[]⟩) { ts:=[0,1,4,5],os:=[] } h (by kernel_rfl)
    exact ⟨i+1,at_eq h (st_congr2 (fun (d0:Int) (d1:Int)=>(⟨[(0,aF s92 x0),(1,aI d0),(4,aI 0),(5,aI d1)],[]⟩:St)) (show (((szD s92) (x0.getD i (0,(0,(0,(0,[]))))) (x1 - ((List.length x0:Nat):Int) - ((ctL (Sh.sz s92) (List.take i x0):Nat):Int))):Int)=(x1 - ((List.length x0:Nat):Int) - ((ctL (Sh.sz s92) (List.take (i+1) x0):Nat):Int)) from by first | with_reducible rfl | (omega) | rfl) (show (((i:Nat):Int)+1:Int)=(((i+1):Nat):Int) from by first | with_reducible rfl | (omega) | rfl)),(by constructor<;>omega),(by omega)⟩
  ·replace h2 : ¬ (((i : Nat) : Int) < ((List.length x0 : Nat) : Int)) := of_decide_eq_false h2
   refine wp_exit (then_exit (then_exit (in_hit (then_normal (wp_seq ?_)))))
   refine at_regq [] { ts:=[4],os:=[] } [] gamOK hT h (by kernel_rfl) trivial fun a w h=>then_normal (wp_ret ?_)
   exact at_return ((x1 - ((List.length x0:Nat):Int) - ((ctL (Sh.sz s92) (List.take i x0):Nat):Int)),()) [] h (by kernel_rfl) trivial (congrArg (fun z=>(z,())) (show ((x1 - ((List.length x0:Nat):Int) - ((ctL (Sh.sz s92) (List.take i x0):Nat):Int)))=(szD s23) x0 x1 from by (have hta:ctL (Sh.sz s92) (List.take i x0)=ctL (Sh.sz s92) x0:=congrArg (ctL (Sh.sz s92)) (take_all (by omega));exact ((szD_ok (by omega)).trans (by omega)).symm)))

def S_laws_szGeneration:Sum:={ fid:=56,dom:=[s94,(.int 3)],cod:=[(.int 3)],dp:=true,fz:=false,pre:=fun x=>(pSz s94) x.1 x.2.1,g:=fun x=>(((szD s94) x.1 x.2.1),()) }
def S_laws_szGeneration_tab:List (Nat×Sum):=[(101,S_laws_szIntSS)]
theorem S_laws_szGeneration_ok:FnOK Try.prog 56 S_laws_szGeneration:=by
 refine at_enter 12 (fun x=>⟨[(0,aG [cI x.1.1,.ro s22 x.1.2]),(1,aI x.2.1)],[]⟩) Try.func56 rfl (by kernel_rfl) (fun x=>rfl) ?_
 rintro w0 Z0 ⟨x0,x1,u⟩ a w
 revert x0 x1
 intro (x0:T94) (x1:Int) hpre hlens h
 replace hpre:(pSz s94) x0 x1:=hpre
 have hl1:List.length x0.2≤9223372036854775807:=hlens.1.2.1
 have hT:TabOK Try.prog S_laws_szGeneration_tab:=(.cons S_laws_szIntSS_ok .nil)
 have hp:0≤x1∧x1≤9223372036854775807:=hpre
 have hsz:Sh.sz s94 x0=(0+(Sh.sz s66 x0.2)):=rfl
 refine wp_seq ?_
 refine at_regq [{ ids:=[1] }] { ts:=[1,2,4],os:=[1] } [] gamOK hT h (by kernel_rfl) trivial fun a w h=>then_normal (wp_seq ?_)
 refine at_regq [] { ts:=[1,4],os:=[] } [(pSz s66) x0.2 x1] gamOK hT h (by kernel_rfl) ⟨(by (show (0:Int)≤_∧_≤(9223372036854775807:Int);constructor<;>omega)),trivial⟩ fun a w h=>then_normal (wp_seq (wp_seq ?_))
 refine at_regq [] { ts:=[1,4,10],os:=[] } [] gamOK hT h (by kernel_rfl) trivial fun a w h=>then_normal ?_
 refine at_test (decide (((szD s66) x0.2 x1) < 0)) h (by kernel_rfl) (fun h1=>?_) (fun h1=>?_)
 ·replace h1 : ((szD s66) x0.2 x1) < 0 := of_decide_eq_true h1
  have hvh1:=szD_neg h1 (by omega)
  refine wp_seq ?_
  refine at_regq [] { ts:=[1,4],os:=[] } [] gamOK hT h (by kernel_rfl) trivial fun a w h=>then_normal (wp_ret (then_ret ?_))
  exact at_return ((-1),()) [] h (by kernel_rfl) trivial (congrArg (fun z=>(z,())) (show ((-1))=(szD s94) x0 x1 from by (first | exact (szD_no (by omega)).symm | exact ((szD_ok (by omega)).trans (by omega)).symm)))
 ·replace h1 : ¬ (((szD s66) x0.2 x1) < 0) := of_decide_eq_false h1
  have hvh1:=szD_val h1 (by omega)
  refine wp_skip (then_normal (wp_seq ?_))
  refine at_regq [] { ts:=[4],os:=[] } [] gamOK hT h (by kernel_rfl) trivial fun a w h=>then_normal (wp_ret ?_)
  exact at_return (((szD s66) x0.2 x1),()) [] h (by kernel_rfl) trivial (congrArg (fun z=>(z,())) (show (((szD s66) x0.2 x1))=(szD s94) x0 x1 from by (first | exact (szD_no (by omega)).symm | exact ((szD_ok (by omega)).trans (by omega)).symm)))

def S_laws_szGenerationS:Sum:={ fid:=25,dom:=[s24,(.int 3)],cod:=[(.int 3)],dp:=true,fz:=false,pre:=fun x=>(pSz s24) x.1 x.2.1,g:=fun x=>(((szD s24) x.1 x.2.1),()) }
def S_laws_szGenerationS_tab:List (Nat×Sum):=[(56,S_laws_szGeneration)]
theorem S_laws_szGenerationS_ok:FnOK Try.prog 25 S_laws_szGenerationS:=by
 refine at_enter 27 (fun x=>⟨[(0,aF s94 x.1),(1,aI x.2.1)],[]⟩) Try.func25 rfl (by kernel_rfl) (fun x=>rfl) ?_
 rintro w0 Z0 ⟨x0,x1,u⟩ a w
 revert x0 x1
 intro (x0:(List T94)) (x1:Int) hpre hlens h
 replace hpre:(pSz s24) x0 x1:=hpre
 have hl1:List.length x0≤9223372036854775807:=hlens.1.1
 have hT:TabOK Try.prog S_laws_szGenerationS_tab:=(.cons S_laws_szGeneration_ok .nil)
 have hp:0≤x1∧x1≤9223372036854775807:=hpre
 have hsz:Sh.sz s24 x0=List.length x0+ctL (Sh.sz s94) x0:=rfl
 refine wp_seq ?_
 refine at_regq [] { ts:=[0,1,4],os:=[] } [] gamOK hT h (by kernel_rfl) trivial fun a w h=>then_normal (wp_seq ?_)
 refine at_regq [{},{},{},{ nw:=true }] { ts:=[0,1,4],os:=[] } [I64 (x1 - ((List.length x0:Nat):Int))] gamOK hT h (by kernel_rfl) ⟨⟨by first | omega | (simp only [lsA];omega) | (simp<;>omega),by first | omega | (simp only [lsA];omega) | (simp<;>omega)⟩,trivial⟩ fun a w h=>then_normal (wp_seq (wp_seq ?_))
 refine at_regq [] { ts:=[0,1,4,11],os:=[] } [] gamOK hT h (by kernel_rfl) trivial fun a w h=>then_normal ?_
 refine at_test (decide (x1 - ((List.length x0:Nat):Int) < 0)) h (by kernel_rfl) (fun h1=>?_) (fun h1=>?_)
 ·replace h1 : x1 - ((List.length x0 : Nat) : Int) < 0 := of_decide_eq_true h1
  refine wp_seq ?_
  refine at_regq [] { ts:=[0,1,4],os:=[] } [] gamOK hT h (by kernel_rfl) trivial fun a w h=>then_normal (wp_ret (then_ret ?_))
  exact at_return ((-1),()) [] h (by kernel_rfl) trivial (congrArg (fun z=>(z,())) (show ((-1))=(szD s24) x0 x1 from by exact (szD_no (by omega)).symm))
 ·replace h1 : ¬ (x1 - ((List.length x0 : Nat) : Int) < 0) := of_decide_eq_false h1
  refine wp_skip (then_normal (wp_seq (wp_seq ?_)))
  refine at_regq [] { ts:=[0,1,4,5],os:=[] } [] gamOK hT h (by kernel_rfl) trivial fun a w h=>then_normal (wp_block ?_)
  replace h:=at_out (σ':=⟨[(0,aF s94 x0),(1,aI (x1 - ((List.length x0:Nat):Int))),(4,aI 0),(5,aI 0)],[]⟩) { ts:=[0,1,4,5],os:=[] } h (by kernel_rfl)
  refine at_loop (fun i:Nat=>(⟨[(0,aF s94 x0),(1,aI (x1 - ((List.length x0:Nat):Int) - ((ctL (Sh.sz s94) (List.take i x0):Nat):Int))),(4,aI 0),(5,aI ((i:Nat):Int))],[]⟩:St)) (fun i=>(i≤List.length x0∧((List.length x0:Nat):Int)+((ctL (Sh.sz s94) (List.take i x0):Nat):Int)≤x1)) (fun i=>List.length x0 - i) (0) h (st_congr2 (fun (d0:Int) (d1:Int)=>(⟨[(0,aF s94 x0),(1,aI d0),(4,aI 0),(5,aI d1)],[]⟩:St)) (show (x1 - ((List.length x0:Nat):Int):Int)=(x1 - ((List.length x0:Nat):Int) - ((ctL (Sh.sz s94) (List.take (0) x0):Nat):Int)) from by first | with_reducible rfl | (simp [ctL]) | rfl) (show (0:Int)=(((0):Nat):Int) from by first | with_reducible rfl | (simp [ctL]) | rfl)) (by simp [ctL];omega) ?_
  intro i a w hok0 h
  refine wp_seq (wp_seq ?_)
  refine at_regq [] { ts:=[0,1,4,5,15],os:=[] } [] gamOK hT h (by kernel_rfl) trivial fun a w h=>then_normal ?_
  refine at_test (decide (((i:Nat):Int) < ((List.length x0:Nat):Int))) h (by kernel_rfl) (fun h2=>?_) (fun h2=>?_)
  ·replace h2 : ((i : Nat) : Int) < ((List.length x0 : Nat) : Int) := of_decide_eq_true h2
   have hat:=ctL_at_le (c:=Sh.sz s94) (xs:=x0) (z:=(0,[])) (i:=i) (by omega)
   have hsu:=ctL_take_succ (c:=Sh.sz s94) (xs:=x0) (z:=(0,[])) (i:=i) (by omega)
   refine wp_skip (then_normal (wp_seq (wp_block (wp_seq ?_))))
   refine at_regq [] { ts:=[0,1,4,5],os:=[] } [(0:Int)≤((i:Nat):Int)∧((i:Nat):Int) < ((List.length x0:Nat):Int),(pSz s94) (x0.getD i (0,[])) (x1 - ((List.length x0:Nat):Int) - ((ctL (Sh.sz s94) (List.take i x0):Nat):Int))] gamOK hT h (by kernel_rfl) ⟨(by refine ⟨?_,?_⟩<;>(first | omega | (simp only [lsA];omega) | (simp<;>omega))),(by (show (0:Int)≤_∧_≤(9223372036854775807:Int);constructor<;>omega)),trivial⟩ fun a w h=>then_normal (wp_seq ?_)
   refine at_regq [] { ts:=[0,1,4,5,25],os:=[] } [] gamOK hT h (by kernel_rfl) trivial fun a w h=>then_normal ?_
   refine at_test (decide (((szD s94) (x0.getD i (0,[])) (x1 - ((List.length x0:Nat):Int) - ((ctL (Sh.sz s94) (List.take i x0):Nat):Int))) < 0)) h (by kernel_rfl) (fun h3=>?_) (fun h3=>?_)
   ·replace h3 : ((szD s94) (x0.getD i (0, [])) (x1 - ((List.length x0 : Nat) : Int) - ((ctL (Sh.sz s94) (List.take i x0) : Nat) : Int))) < 0 := of_decide_eq_true h3
    have hvh3:=szD_neg h3 (by omega)
    refine wp_seq ?_
    refine at_regq [] { ts:=[0,1,4,5],os:=[] } [] gamOK hT h (by kernel_rfl) trivial fun a w h=>then_normal (wp_ret (in_ret (then_ret (then_ret (in_ret (then_ret ?_))))))
    exact at_return ((-1),()) [] h (by kernel_rfl) trivial (congrArg (fun z=>(z,())) (show ((-1))=(szD s24) x0 x1 from by exact (szD_no (by omega)).symm))
   ·replace h3 : ¬ (((szD s94) (x0.getD i (0, [])) (x1 - ((List.length x0 : Nat) : Int) - ((ctL (Sh.sz s94) (List.take i x0) : Nat) : Int))) < 0) := of_decide_eq_false h3
    have hvh3:=szD_val h3 (by omega)
    refine wp_skip (in_normal (then_normal ?_))
    refine at_regq [{},{ nw:=true }] { ts:=[0,1,4,5],os:=[] } [I64 (((i:Nat):Int)+1)] gamOK hT h (by kernel_rfl) ⟨⟨by first | omega | (simp only [lsA];omega) | (simp<;>omega),by first | omega | (simp only [lsA];omega) | (simp<;>omega)⟩,trivial⟩ fun a w h=>?_
    replace h:=at_out (σ':=⟨[(0,aF s94 x0),(1,aI ((szD s94) (x0.getD i (0,[])) (x1 - ((List.length x0:Nat):Int) - ((ctL (Sh.sz s94) (List.take i x0):Nat):Int)))),(4,aI 0),(5,aI (((i:Nat):Int)+1))],[]⟩) { ts:=[0,1,4,5],os:=[] } h (by kernel_rfl)
    exact ⟨i+1,at_eq h (st_congr2 (fun (d0:Int) (d1:Int)=>(⟨[(0,aF s94 x0),(1,aI d0),(4,aI 0),(5,aI d1)],[]⟩:St)) (show (((szD s94) (x0.getD i (0,[])) (x1 - ((List.length x0:Nat):Int) - ((ctL (Sh.sz s94) (List.take i x0):Nat):Int))):Int)=(x1 - ((List.length x0:Nat):Int) - ((ctL (Sh.sz s94) (List.take (i+1) x0):Nat):Int)) from by first | with_reducible rfl | (omega) | rfl) (show (((i:Nat):Int)+1:Int)=(((i+1):Nat):Int) from by first | with_reducible rfl | (omega) | rfl)),(by constructor<;>omega),(by omega)⟩
  ·replace h2 : ¬ (((i : Nat) : Int) < ((List.length x0 : Nat) : Int)) := of_decide_eq_false h2
   refine wp_exit (then_exit (then_exit (in_hit (then_normal (wp_seq ?_)))))
   refine at_regq [] { ts:=[4],os:=[] } [] gamOK hT h (by kernel_rfl) trivial fun a w h=>then_normal (wp_ret ?_)
   exact at_return ((x1 - ((List.length x0:Nat):Int) - ((ctL (Sh.sz s94) (List.take i x0):Nat):Int)),()) [] h (by kernel_rfl) trivial (congrArg (fun z=>(z,())) (show ((x1 - ((List.length x0:Nat):Int) - ((ctL (Sh.sz s94) (List.take i x0):Nat):Int)))=(szD s24) x0 x1 from by (have hta:ctL (Sh.sz s94) (List.take i x0)=ctL (Sh.sz s94) x0:=congrArg (ctL (Sh.sz s94)) (take_all (by omega));exact ((szD_ok (by omega)).trans (by omega)).symm)))

def S_laws_szSink:Sum:={ fid:=5,dom:=[s26,(.int 3)],cod:=[(.int 3)],dp:=true,fz:=false,pre:=fun x=>(pSz s26) x.1 x.2.1,g:=fun x=>(((szD s26) x.1 x.2.1),()) }
def S_laws_szSink_tab:List (Nat×Sum):=[(23,S_laws_szIntS),(24,S_laws_szDecoderS),(25,S_laws_szGenerationS)]
theorem S_laws_szSink_ok:FnOK Try.prog 5 S_laws_szSink:=by
 refine at_enter 24 (fun x=>⟨[(0,aG [cI x.1.1,cI x.1.2.1,.ro (.int 3) x.1.2.2.1,.ro s92 x.1.2.2.2.1,.ro s94 x.1.2.2.2.2.1,cI x.1.2.2.2.2.2]),(1,aI x.2.1)],[]⟩) Try.func5 rfl (by kernel_rfl) (fun x=>rfl) ?_
 rintro w0 Z0 ⟨x0,x1,u⟩ a w
 revert x0 x1
 intro (x0:T26) (x1:Int) hpre hlens h
 replace hpre:(pSz s26) x0 x1:=hpre
 have hl1:List.length x0.2.2.1≤9223372036854775807:=hlens.1.2.2.1.1
 have hl2:List.length x0.2.2.2.1≤9223372036854775807:=hlens.1.2.2.2.1.1
 have hl3:List.length x0.2.2.2.2.1≤9223372036854775807:=hlens.1.2.2.2.2.1.1
 have hT:TabOK Try.prog S_laws_szSink_tab:=(.cons S_laws_szIntS_ok (.cons S_laws_szDecoderS_ok (.cons S_laws_szGenerationS_ok .nil)))
 have hp:0≤x1∧x1≤9223372036854775807:=hpre
 have hsz:Sh.sz s26 x0=(0+(0+((Sh.sz s22 x0.2.2.1)+((Sh.sz s23 x0.2.2.2.1)+((Sh.sz s24 x0.2.2.2.2.1)+0))))):=rfl
 refine wp_seq ?_
 refine at_regq [{ ids:=[1] }] { ts:=[1,2,4],os:=[1] } [] gamOK hT h (by kernel_rfl) trivial fun a w h=>then_normal (wp_seq ?_)
 refine at_regq [] { ts:=[1,2,4],os:=[1] } [(pSz s22) x0.2.2.1 x1] gamOK hT h (by kernel_rfl) ⟨(by (show (0:Int)≤_∧_≤(9223372036854775807:Int);constructor<;>omega)),trivial⟩ fun a w h=>then_normal (wp_seq (wp_seq ?_))
 refine at_regq [] { ts:=[1,2,4,10],os:=[1] } [] gamOK hT h (by kernel_rfl) trivial fun a w h=>then_normal ?_
 refine at_test (decide (((szD s22) x0.2.2.1 x1) < 0)) h (by kernel_rfl) (fun h1=>?_) (fun h1=>?_)
 ·replace h1 : ((szD s22) x0.2.2.1 x1) < 0 := of_decide_eq_true h1
  have hvh1:=szD_neg h1 (by omega)
  refine wp_seq ?_
  refine at_regq [] { ts:=[1,2,4],os:=[1] } [] gamOK hT h (by kernel_rfl) trivial fun a w h=>then_normal (wp_ret (then_ret ?_))
  exact at_return ((-1),()) [] h (by kernel_rfl) trivial (congrArg (fun z=>(z,())) (show ((-1))=(szD s26) x0 x1 from by (first | exact (szD_no (by omega)).symm | exact ((szD_ok (by omega)).trans (by omega)).symm)))
 ·replace h1 : ¬ (((szD s22) x0.2.2.1 x1) < 0) := of_decide_eq_false h1
  have hvh1:=szD_val h1 (by omega)
  refine wp_skip (then_normal (wp_seq ?_))
  refine at_regq [] { ts:=[1,2,4],os:=[1] } [(pSz s23) x0.2.2.2.1 ((szD s22) x0.2.2.1 x1)] gamOK hT h (by kernel_rfl) ⟨(by (show (0:Int)≤_∧_≤(9223372036854775807:Int);constructor<;>omega)),trivial⟩ fun a w h=>then_normal (wp_seq (wp_seq ?_))
  refine at_regq [] { ts:=[1,2,4,16],os:=[1] } [] gamOK hT h (by kernel_rfl) trivial fun a w h=>then_normal ?_
  refine at_test (decide (((szD s23) x0.2.2.2.1 ((szD s22) x0.2.2.1 x1)) < 0)) h (by kernel_rfl) (fun h2=>?_) (fun h2=>?_)
  ·replace h2 : ((szD s23) x0.2.2.2.1 ((szD s22) x0.2.2.1 x1)) < 0 := of_decide_eq_true h2
   have hvh2:=szD_neg h2 (by omega)
   refine wp_seq ?_
   refine at_regq [] { ts:=[1,2,4],os:=[1] } [] gamOK hT h (by kernel_rfl) trivial fun a w h=>then_normal (wp_ret (then_ret ?_))
   exact at_return ((-1),()) [] h (by kernel_rfl) trivial (congrArg (fun z=>(z,())) (show ((-1))=(szD s26) x0 x1 from by (first | exact (szD_no (by omega)).symm | exact ((szD_ok (by omega)).trans (by omega)).symm)))
  ·replace h2 : ¬ (((szD s23) x0.2.2.2.1 ((szD s22) x0.2.2.1 x1)) < 0) := of_decide_eq_false h2
   have hvh2:=szD_val h2 (by omega)
   refine wp_skip (then_normal (wp_seq ?_))
   refine at_regq [] { ts:=[1,4],os:=[] } [(pSz s24) x0.2.2.2.2.1 ((szD s23) x0.2.2.2.1 ((szD s22) x0.2.2.1 x1))] gamOK hT h (by kernel_rfl) ⟨(by (show (0:Int)≤_∧_≤(9223372036854775807:Int);constructor<;>omega)),trivial⟩ fun a w h=>then_normal (wp_seq (wp_seq ?_))
   refine at_regq [] { ts:=[1,4,22],os:=[] } [] gamOK hT h (by kernel_rfl) trivial fun a w h=>then_normal ?_
   refine at_test (decide (((szD s24) x0.2.2.2.2.1 ((szD s23) x0.2.2.2.1 ((szD s22) x0.2.2.1 x1))) < 0)) h (by kernel_rfl) (fun h3=>?_) (fun h3=>?_)
   ·replace h3 : ((szD s24) x0.2.2.2.2.1 ((szD s23) x0.2.2.2.1 ((szD s22) x0.2.2.1 x1))) < 0 := of_decide_eq_true h3
    have hvh3:=szD_neg h3 (by omega)
    refine wp_seq ?_
    refine at_regq [] { ts:=[1,4],os:=[] } [] gamOK hT h (by kernel_rfl) trivial fun a w h=>then_normal (wp_ret (then_ret ?_))
    exact at_return ((-1),()) [] h (by kernel_rfl) trivial (congrArg (fun z=>(z,())) (show ((-1))=(szD s26) x0 x1 from by (first | exact (szD_no (by omega)).symm | exact ((szD_ok (by omega)).trans (by omega)).symm)))
   ·replace h3 : ¬ (((szD s24) x0.2.2.2.2.1 ((szD s23) x0.2.2.2.1 ((szD s22) x0.2.2.1 x1))) < 0) := of_decide_eq_false h3
    have hvh3:=szD_val h3 (by omega)
    refine wp_skip (then_normal (wp_seq ?_))
    refine at_regq [] { ts:=[4],os:=[] } [] gamOK hT h (by kernel_rfl) trivial fun a w h=>then_normal (wp_ret ?_)
    exact at_return (((szD s24) x0.2.2.2.2.1 ((szD s23) x0.2.2.2.1 ((szD s22) x0.2.2.1 x1))),()) [] h (by kernel_rfl) trivial (congrArg (fun z=>(z,())) (show (((szD s24) x0.2.2.2.2.1 ((szD s23) x0.2.2.2.1 ((szD s22) x0.2.2.1 x1))))=(szD s26) x0 x1 from by (first | exact (szD_no (by omega)).symm | exact ((szD_ok (by omega)).trans (by omega)).symm)))

def S_laws_toIntS:Sum:={ fid:=28,dom:=[s22],cod:=[s22],dp:=true,fz:=false,pre:=fun x=>(pTo s22) x.1,g:=fun x=>(((idD s22) x.1),()) }
def S_laws_toIntS_tab:List (Nat×Sum):=[]
theorem S_laws_toIntS_ok:FnOK Try.prog 28 S_laws_toIntS:=by
 refine at_enter 22 (fun x=>⟨[(0,aF (.int 3) x.1)],[]⟩) Try.func28 rfl (by kernel_rfl) (fun x=>rfl) ?_
 rintro w0 Z0 ⟨x0,u⟩ a w
 revert x0
 intro (x0:(List Int)) hpre hlens h
 replace hpre:(pTo s22) x0:=hpre
 have hl1:List.length x0≤9223372036854775807:=hlens.1.1
 have hT:TabOK Try.prog S_laws_toIntS_tab:=.nil
 have hp:Sh.sz s22 x0≤1048576:=hpre
 have hsz:Sh.sz s22 x0=List.length x0+ctL (Sh.sz (.int 3)) x0:=rfl
 refine wp_seq ?_
 refine at_regq [] { ts:=[0,2],os:=[] } [] gamOK hT h (by kernel_rfl) trivial fun a w h=>then_normal (wp_seq ?_)
 refine at_regq [{},{},{ ids:=[1] }] { ts:=[0,2,3],os:=[1] } [(0:Int)≤((List.length x0:Nat):Int)∧((List.length x0:Nat):Int)=((List.length x0:Nat):Int)∧((List.length x0:Nat):Int)*(8:Nat)≤(140737488355328:Int)] gamOK hT h (by kernel_rfl) ⟨(by refine ⟨?_,?_,?_⟩<;>((have hA0:=mul_f ((List.length x0:Nat):Int) (8:Nat);first | omega | (simp only [lsA,copyTo_len hok0];omega) | (simp<;>omega)))),trivial⟩ fun a w h=>then_normal (wp_seq (wp_seq ?_))
 refine at_regq [] { ts:=[0,2,3,4],os:=[1] } [] gamOK hT h (by kernel_rfl) trivial fun a w h=>then_normal (wp_block ?_)
 replace h:=at_out (σ':=⟨[(0,aF (.int 3) x0),(2,.p (.c (cN))),(3,aS 1),(4,aI 0)],[(1,oR (.int 3) (List.replicate (List.length x0) (0:Int)))]⟩) { ts:=[0,2,3,4],os:=[1] } h (by kernel_rfl)
 refine at_loop (fun i:Nat=>(⟨[(0,aF (.int 3) x0),(2,.p (.c (cN))),(3,aS 1),(4,aI ((i:Nat):Int))],[(1,oR (.int 3) (copyTo 0 x0 i))]⟩:St)) (fun i=>i≤List.length x0) (fun i=>List.length x0 - i) (0) h (st_congr2 (fun (d0:List Int) (d1:Int)=>(⟨[(0,aF (.int 3) x0),(2,.p (.c (cN))),(3,aS 1),(4,aI d1)],[(1,oR (.int 3) d0)]⟩:St)) (show ((List.replicate (List.length x0) (0:Int)):List Int)=(copyTo 0 x0 (0)) from by first | with_reducible rfl | (exact copyTo_zero) | rfl) (show (0:Int)=(((0):Nat):Int) from by first | with_reducible rfl | (exact copyTo_zero) | rfl)) (by first | omega | simp | (refine ⟨?_,?_⟩<;>first | omega | simp)) ?_
 intro i a w hok0 h
 refine wp_seq (wp_seq ?_)
 refine at_regq [] { ts:=[0,2,3,4,11],os:=[1] } [] gamOK hT h (by kernel_rfl) trivial fun a w h=>then_normal ?_
 refine at_test (decide (((i:Nat):Int) < ((List.length x0:Nat):Int))) h (by kernel_rfl) (fun h1=>?_) (fun h1=>?_)
 ·replace h1 : ((i : Nat) : Int) < ((List.length x0 : Nat) : Int) := of_decide_eq_true h1
  have hat:=ctL_at_le (c:=Sh.sz (.int 3)) (xs:=x0) (z:=0) (i:=i) (by omega)
  refine wp_skip (then_normal (wp_seq (wp_block ?_)))
  refine at_regq [] { ts:=[0,2,3,4],os:=[1] } [(0:Int)≤((i:Nat):Int)∧((i:Nat):Int) < ((List.length x0:Nat):Int),(0:Int)≤((i:Nat):Int)∧((i:Nat):Int) < ((List.length (copyTo 0 x0 i):Nat):Int),i < List.length (copyTo 0 x0 i)] gamOK hT h (by kernel_rfl) ⟨(by refine ⟨?_,?_⟩<;>(first | omega | (simp only [lsA,copyTo_len hok0];omega) | (simp<;>omega))),(by refine ⟨?_,?_⟩<;>(first | omega | (simp only [lsA,copyTo_len hok0];omega) | (simp<;>omega))),(by first | omega | (simp only [lsA,copyTo_len hok0];omega) | (simp<;>omega)),trivial⟩ fun a w h=>in_normal (then_normal ?_)
  refine at_regq [{},{ nw:=true }] { ts:=[0,2,3,4],os:=[1] } [I64 (((i:Nat):Int)+1)] gamOK hT h (by kernel_rfl) ⟨⟨by first | omega | (simp only [lsA,copyTo_len hok0];omega) | (simp<;>omega),by first | omega | (simp only [lsA,copyTo_len hok0];omega) | (simp<;>omega)⟩,trivial⟩ fun a w h=>?_
  replace h:=at_out (σ':=⟨[(0,aF (.int 3) x0),(2,.p (.c (cN))),(3,aS 1),(4,aI (((i:Nat):Int)+1))],[(1,oR (.int 3) (List.set (copyTo 0 x0 i) i (x0.getD i 0)))]⟩) { ts:=[0,2,3,4],os:=[1] } h (by kernel_rfl)
  exact ⟨i+1,at_eq h (st_congr2 (fun (d0:List Int) (d1:Int)=>(⟨[(0,aF (.int 3) x0),(2,.p (.c (cN))),(3,aS 1),(4,aI d1)],[(1,oR (.int 3) d0)]⟩:St)) (show ((List.set (copyTo 0 x0 i) i (x0.getD i 0)):List Int)=(copyTo 0 x0 (i+1)) from by first | with_reducible rfl | (exact copyTo_set (by omega)) | rfl) (show (((i:Nat):Int)+1:Int)=(((i+1):Nat):Int) from by first | with_reducible rfl | (omega) | rfl)),(by first | omega | (refine ⟨?_,?_⟩<;>omega)),(by omega)⟩
 ·replace h1 : ¬ (((i : Nat) : Int) < ((List.length x0 : Nat) : Int)) := of_decide_eq_false h1
  refine wp_exit (then_exit (then_exit (in_hit (then_normal (wp_seq ?_)))))
  refine at_regq [] { ts:=[2],os:=[1] } [] gamOK hT h (by kernel_rfl) trivial fun a w h=>then_normal (wp_ret ?_)
  exact at_return ((copyTo 0 x0 i),()) [] h (by kernel_rfl) trivial (congrArg (fun z=>(z,())) (show ((copyTo 0 x0 i))=(idD s22) x0 from by (rw [copyTo_all (by omega)];rfl)))

def S_laws_toIntSS:Sum:={ fid:=109,dom:=[s66],cod:=[s66],dp:=true,fz:=false,pre:=fun x=>(pTo s66) x.1,g:=fun x=>(((idD s66) x.1),()) }
def S_laws_toIntSS_tab:List (Nat×Sum):=[(28,S_laws_toIntS)]
theorem S_laws_toIntSS_ok:FnOK Try.prog 109 S_laws_toIntSS:=by
 refine at_enter 23 (fun x=>⟨[(0,aF s22 x.1)],[]⟩) Try.func109 rfl (by kernel_rfl) (fun x=>rfl) ?_
 rintro w0 Z0 ⟨x0,u⟩ a w
 revert x0
 intro (x0:(List (List Int))) hpre hlens h
 replace hpre:(pTo s66) x0:=hpre
 have hl1:List.length x0≤9223372036854775807:=hlens.1.1
 have hT:TabOK Try.prog S_laws_toIntSS_tab:=(.cons S_laws_toIntS_ok .nil)
 have hp:Sh.sz s66 x0≤1048576:=hpre
 have hsz:Sh.sz s66 x0=List.length x0+ctL (Sh.sz s22) x0:=rfl
 refine wp_seq ?_
 refine at_regq [] { ts:=[0,2],os:=[] } [] gamOK hT h (by kernel_rfl) trivial fun a w h=>then_normal (wp_seq ?_)
 refine at_regq [{},{},{ ids:=[1] }] { ts:=[0,2,3],os:=[1] } [(0:Int)≤((List.length x0:Nat):Int)∧((List.length x0:Nat):Int)=((List.length x0:Nat):Int)∧((List.length x0:Nat):Int)*(24:Nat)≤(140737488355328:Int)] gamOK hT h (by kernel_rfl) ⟨(by refine ⟨?_,?_,?_⟩<;>((have hA0:=mul_f ((List.length x0:Nat):Int) (24:Nat);first | omega | (simp only [lsA,copyTo_len hok0];omega) | (simp<;>omega)))),trivial⟩ fun a w h=>then_normal (wp_seq (wp_seq ?_))
 refine at_regq [] { ts:=[0,2,3,4],os:=[1] } [] gamOK hT h (by kernel_rfl) trivial fun a w h=>then_normal (wp_block ?_)
 replace h:=at_out (σ':=⟨[(0,aF s22 x0),(2,.p (.c (cN))),(3,aS 1),(4,aI 0)],[(1,oR s22 (List.replicate (List.length x0) ([]:(List Int))))]⟩) { ts:=[0,2,3,4],os:=[1] } h (by kernel_rfl)
 refine at_loop (fun i:Nat=>(⟨[(0,aF s22 x0),(2,.p (.c (cN))),(3,aS 1),(4,aI ((i:Nat):Int))],[(1,oR s22 (copyTo [] x0 i))]⟩:St)) (fun i=>i≤List.length x0) (fun i=>List.length x0 - i) (0) h (st_congr2 (fun (d0:List (List Int)) (d1:Int)=>(⟨[(0,aF s22 x0),(2,.p (.c (cN))),(3,aS 1),(4,aI d1)],[(1,oR s22 d0)]⟩:St)) (show ((List.replicate (List.length x0) ([]:(List Int))):List (List Int))=(copyTo [] x0 (0)) from by first | with_reducible rfl | (exact copyTo_zero) | rfl) (show (0:Int)=(((0):Nat):Int) from by first | with_reducible rfl | (exact copyTo_zero) | rfl)) (by first | omega | simp | (refine ⟨?_,?_⟩<;>first | omega | simp)) ?_
 intro i a w hok0 h
 refine wp_seq (wp_seq ?_)
 refine at_regq [] { ts:=[0,2,3,4,11],os:=[1] } [] gamOK hT h (by kernel_rfl) trivial fun a w h=>then_normal ?_
 refine at_test (decide (((i:Nat):Int) < ((List.length x0:Nat):Int))) h (by kernel_rfl) (fun h1=>?_) (fun h1=>?_)
 ·replace h1 : ((i : Nat) : Int) < ((List.length x0 : Nat) : Int) := of_decide_eq_true h1
  have hat:=ctL_at_le (c:=Sh.sz s22) (xs:=x0) (z:=[]) (i:=i) (by omega)
  refine wp_skip (then_normal (wp_seq (wp_block ?_)))
  refine at_regq [{},{},{},{},{},{},{ ids:=[2] }] { ts:=[0,2,3,4],os:=[1] } [(0:Int)≤((i:Nat):Int)∧((i:Nat):Int) < ((List.length x0:Nat):Int),(pTo s22) (x0.getD i []),(0:Int)≤((i:Nat):Int)∧((i:Nat):Int) < ((List.length (copyTo [] x0 i):Nat):Int),i < List.length (copyTo [] x0 i)] gamOK hT h (by kernel_rfl) ⟨(by refine ⟨?_,?_⟩<;>(first | omega | (simp only [lsA,copyTo_len hok0];omega) | (simp<;>omega))),(by (show Sh.sz _ _≤1048576;omega)),(by refine ⟨?_,?_⟩<;>(first | omega | (simp only [lsA,copyTo_len hok0];omega) | (simp<;>omega))),(by first | omega | (simp only [lsA,copyTo_len hok0];omega) | (simp<;>omega)),trivial⟩ fun a w h=>in_normal (then_normal ?_)
  refine at_regq [{},{ nw:=true }] { ts:=[0,2,3,4],os:=[1] } [I64 (((i:Nat):Int)+1)] gamOK hT h (by kernel_rfl) ⟨⟨by first | omega | (simp only [lsA,copyTo_len hok0];omega) | (simp<;>omega),by first | omega | (simp only [lsA,copyTo_len hok0];omega) | (simp<;>omega)⟩,trivial⟩ fun a w h=>?_
  replace h:=at_out (σ':=⟨[(0,aF s22 x0),(2,.p (.c (cN))),(3,aS 1),(4,aI (((i:Nat):Int)+1))],[(1,oR s22 (List.set (copyTo [] x0 i) i (x0.getD i [])))]⟩) { ts:=[0,2,3,4],os:=[1] } h (by kernel_rfl)
  exact ⟨i+1,at_eq h (st_congr2 (fun (d0:List (List Int)) (d1:Int)=>(⟨[(0,aF s22 x0),(2,.p (.c (cN))),(3,aS 1),(4,aI d1)],[(1,oR s22 d0)]⟩:St)) (show ((List.set (copyTo [] x0 i) i (x0.getD i [])):List (List Int))=(copyTo [] x0 (i+1)) from by first | with_reducible rfl | (exact copyTo_set (by omega)) | rfl) (show (((i:Nat):Int)+1:Int)=(((i+1):Nat):Int) from by first | with_reducible rfl | (omega) | rfl)),(by first | omega | (refine ⟨?_,?_⟩<;>omega)),(by omega)⟩
 ·replace h1 : ¬ (((i : Nat) : Int) < ((List.length x0 : Nat) : Int)) := of_decide_eq_false h1
  refine wp_exit (then_exit (then_exit (in_hit (then_normal (wp_seq ?_)))))
  refine at_regq [] { ts:=[2],os:=[1] } [] gamOK hT h (by kernel_rfl) trivial fun a w h=>then_normal (wp_ret ?_)
  exact at_return ((copyTo [] x0 i),()) [] h (by kernel_rfl) trivial (congrArg (fun z=>(z,())) (show ((copyTo [] x0 i))=(idD s66) x0 from by (rw [copyTo_all (by omega)];rfl)))

def S_laws_toBasis:Sum:={ fid:=108,dom:=[s90],cod:=[s95],dp:=true,fz:=false,pre:=fun x=>(pTo s90) x.1,g:=fun x=>(((idD s90) x.1),()) }
def S_laws_toBasis_tab:List (Nat×Sum):=[(109,S_laws_toIntSS)]
theorem S_laws_toBasis_ok:FnOK Try.prog 108 S_laws_toBasis:=by
 refine at_enter 12 (fun x=>⟨[(0,aG [cI x.1.1,.ro s22 x.1.2])],[]⟩) Try.func108 rfl (by kernel_rfl) (fun x=>rfl) ?_
 rintro w0 Z0 ⟨x0,u⟩ a w
 revert x0
 intro (x0:T90) hpre hlens h
 replace hpre:(pTo s90) x0:=hpre
 have hl1:List.length x0.2≤9223372036854775807:=hlens.1.2.1
 have hT:TabOK Try.prog S_laws_toBasis_tab:=(.cons S_laws_toIntSS_ok .nil)
 have hp:Sh.sz s90 x0≤1048576:=hpre
 have hsz:Sh.sz s90 x0=(0+(Sh.sz s66 x0.2)):=rfl
 refine wp_seq ?_
 refine at_regq [{ ids:=[1] },{ ids:=[2] }] { ts:=[1,2],os:=[1,2] } [] gamOK hT h (by kernel_rfl) trivial fun a w h=>then_normal (wp_seq ?_)
 refine at_regq [{ ids:=[3] }] { ts:=[1,2,3],os:=[1,2,3] } [] gamOK hT h (by kernel_rfl) trivial fun a w h=>then_normal (wp_seq ?_)
 refine at_regq [] { ts:=[1,2,3],os:=[1,2,3] } [] gamOK hT h (by kernel_rfl) trivial fun a w h=>then_normal (wp_seq ?_)
 refine at_regq [{},{},{ ids:=[4] }] { ts:=[2,3],os:=[2,3,4] } [(pTo s66) x0.2] gamOK hT h (by kernel_rfl) ⟨(by (show Sh.sz _ _≤1048576;first | omega | (show (0:Nat)≤1048576;decide))),trivial⟩ fun a w h=>then_normal (wp_seq ?_)
 refine at_regq [] { ts:=[2],os:=[2,4] } [] gamOK hT h (by kernel_rfl) trivial fun a w h=>then_normal (wp_ret ?_)
 exact at_return (x0,()) [] h (by kernel_rfl) trivial (congrArg (fun z=>(z,())) (show (x0)=(idD s90) x0 from by rfl))

def S_laws_toDecoder:Sum:={ fid:=67,dom:=[s92],cod:=[s97],dp:=true,fz:=false,pre:=fun x=>(pTo s92) x.1,g:=fun x=>(((idD s92) x.1),()) }
def S_laws_toDecoder_tab:List (Nat×Sum):=[(108,S_laws_toBasis)]
theorem S_laws_toDecoder_ok:FnOK Try.prog 67 S_laws_toDecoder:=by
 refine at_enter 18 (fun x=>⟨[(0,aG [cI x.1.1,cI x.1.2.1,cI x.1.2.2.1,cI x.1.2.2.2.1,.ro s22 x.1.2.2.2.2])],[]⟩) Try.func67 rfl (by kernel_rfl) (fun x=>rfl) ?_
 rintro w0 Z0 ⟨x0,u⟩ a w
 revert x0
 intro (x0:T92) hpre hlens h
 replace hpre:(pTo s92) x0:=hpre
 have hl1:List.length x0.2.2.2.2≤9223372036854775807:=hlens.1.2.2.2.2.1
 have hT:TabOK Try.prog S_laws_toDecoder_tab:=(.cons S_laws_toBasis_ok .nil)
 have hp:Sh.sz s92 x0≤1048576:=hpre
 have hsz:Sh.sz s92 x0=(0+(0+(0+(Sh.sz s90 x0.2.2.2)))):=rfl
 refine wp_seq ?_
 refine at_regq [{ ids:=[1] },{ ids:=[2] }] { ts:=[1,2],os:=[1,2] } [] gamOK hT h (by kernel_rfl) trivial fun a w h=>then_normal (wp_seq ?_)
 refine at_regq [{ ids:=[3] }] { ts:=[1,2,3],os:=[1,2,3] } [] gamOK hT h (by kernel_rfl) trivial fun a w h=>then_normal (wp_seq ?_)
 refine at_regq [] { ts:=[1,2,3],os:=[1,2,3] } [] gamOK hT h (by kernel_rfl) trivial fun a w h=>then_normal (wp_seq ?_)
 refine at_regq [] { ts:=[1,2,3],os:=[1,2,3] } [] gamOK hT h (by kernel_rfl) trivial fun a w h=>then_normal (wp_seq ?_)
 refine at_regq [] { ts:=[1,2,3],os:=[1,2,3] } [] gamOK hT h (by kernel_rfl) trivial fun a w h=>then_normal (wp_seq ?_)
 refine at_regq [{},{},{ ids:=[4] }] { ts:=[2,3],os:=[2,3,4] } [(pTo s90) x0.2.2.2] gamOK hT h (by kernel_rfl) ⟨(by (show Sh.sz _ _≤1048576;first | omega | (show (0:Nat)≤1048576;decide))),trivial⟩ fun a w h=>then_normal (wp_seq ?_)
 refine at_regq [] { ts:=[2],os:=[2,4] } [] gamOK hT h (by kernel_rfl) trivial fun a w h=>then_normal (wp_ret ?_)
 exact at_return (x0,()) [] h (by kernel_rfl) trivial (congrArg (fun z=>(z,())) (show (x0)=(idD s92) x0 from by rfl))

def S_laws_toDecoderS:Sum:={ fid:=29,dom:=[s23],cod:=[s28],dp:=true,fz:=false,pre:=fun x=>(pTo s23) x.1,g:=fun x=>(((idD s23) x.1),()) }
def S_laws_toDecoderS_tab:List (Nat×Sum):=[(67,S_laws_toDecoder)]
theorem S_laws_toDecoderS_ok:FnOK Try.prog 29 S_laws_toDecoderS:=by
 refine at_enter 23 (fun x=>⟨[(0,aF s92 x.1)],[]⟩) Try.func29 rfl (by kernel_rfl) (fun x=>rfl) ?_
 rintro w0 Z0 ⟨x0,u⟩ a w
 revert x0
 intro (x0:(List T92)) hpre hlens h
 replace hpre:(pTo s23) x0:=hpre
 have hl1:List.length x0≤9223372036854775807:=hlens.1.1
 have hT:TabOK Try.prog S_laws_toDecoderS_tab:=(.cons S_laws_toDecoder_ok .nil)
 have hp:Sh.sz s23 x0≤1048576:=hpre
 have hsz:Sh.sz s23 x0=List.length x0+ctL (Sh.sz s92) x0:=rfl
 refine wp_seq ?_
 refine at_regq [] { ts:=[0,2],os:=[] } [] gamOK hT h (by kernel_rfl) trivial fun a w h=>then_normal (wp_seq ?_)
 refine at_regq [{},{},{ ids:=[1] }] { ts:=[0,2,3],os:=[1] } [(0:Int)≤((List.length x0:Nat):Int)∧((List.length x0:Nat):Int)=((List.length x0:Nat):Int)∧((List.length x0:Nat):Int)*(56:Nat)≤(140737488355328:Int)] gamOK hT h (by kernel_rfl) ⟨(by refine ⟨?_,?_,?_⟩<;>((have hA0:=mul_f ((List.length x0:Nat):Int) (56:Nat);first | omega | (simp only [lsA,copyTo_len hok0];omega) | (simp<;>omega)))),trivial⟩ fun a w h=>then_normal (wp_seq (wp_seq ?_))
 refine at_regq [] { ts:=[0,2,3,4],os:=[1] } [] gamOK hT h (by kernel_rfl) trivial fun a w h=>then_normal (wp_block ?_)
 replace h:=at_out (σ':=⟨[(0,aF s92 x0),(2,.p (.c (cN))),(3,aS 1),(4,aI 0)],[(1,oR s97 (List.replicate (List.length x0) ((0,(0,(0,(0,[])))):T97)))]⟩) { ts:=[0,2,3,4],os:=[1] } h (by kernel_rfl)
 refine at_loop (fun i:Nat=>(⟨[(0,aF s92 x0),(2,.p (.c (cN))),(3,aS 1),(4,aI ((i:Nat):Int))],[(1,oR s97 (copyTo (0,(0,(0,(0,[])))) x0 i))]⟩:St)) (fun i=>i≤List.length x0) (fun i=>List.length x0 - i) (0) h (st_congr2 (fun (d0:List T97) (d1:Int)=>(⟨[(0,aF s92 x0),(2,.p (.c (cN))),(3,aS 1),(4,aI d1)],[(1,oR s97 d0)]⟩:St)) (show ((List.replicate (List.length x0) ((0,(0,(0,(0,[])))):T97)):List T97)=(copyTo (0,(0,(0,(0,[])))) x0 (0)) from by first | with_reducible rfl | (exact copyTo_zero) | rfl) (show (0:Int)=(((0):Nat):Int) from by first | with_reducible rfl | (exact copyTo_zero) | rfl)) (by first | omega | simp | (refine ⟨?_,?_⟩<;>first | omega | simp)) ?_
 intro i a w hok0 h
 refine wp_seq (wp_seq ?_)
 refine at_regq [] { ts:=[0,2,3,4,11],os:=[1] } [] gamOK hT h (by kernel_rfl) trivial fun a w h=>then_normal ?_
 refine at_test (decide (((i:Nat):Int) < ((List.length x0:Nat):Int))) h (by kernel_rfl) (fun h1=>?_) (fun h1=>?_)
 ·replace h1 : ((i : Nat) : Int) < ((List.length x0 : Nat) : Int) := of_decide_eq_true h1
  have hat:=ctL_at_le (c:=Sh.sz s92) (xs:=x0) (z:=(0,(0,(0,(0,[]))))) (i:=i) (by omega)
  refine wp_skip (then_normal (wp_seq (wp_block ?_)))
  refine at_regq [{},{},{},{},{},{},{ ids:=[2] }] { ts:=[0,2,3,4],os:=[1] } [(0:Int)≤((i:Nat):Int)∧((i:Nat):Int) < ((List.length x0:Nat):Int),(pTo s92) (x0.getD i (0,(0,(0,(0,[]))))),(0:Int)≤((i:Nat):Int)∧((i:Nat):Int) < ((List.length (copyTo (0,(0,(0,(0,[])))) x0 i):Nat):Int),i < List.length (copyTo (0,(0,(0,(0,[])))) x0 i)] gamOK hT h (by kernel_rfl) ⟨(by refine ⟨?_,?_⟩<;>(first | omega | (simp only [lsA,copyTo_len hok0];omega) | (simp<;>omega))),(by (show Sh.sz _ _≤1048576;omega)),(by refine ⟨?_,?_⟩<;>(first | omega | (simp only [lsA,copyTo_len hok0];omega) | (simp<;>omega))),(by first | omega | (simp only [lsA,copyTo_len hok0];omega) | (simp<;>omega)),trivial⟩ fun a w h=>in_normal (then_normal ?_)
  refine at_regq [{},{ nw:=true }] { ts:=[0,2,3,4],os:=[1] } [I64 (((i:Nat):Int)+1)] gamOK hT h (by kernel_rfl) ⟨⟨by first | omega | (simp only [lsA,copyTo_len hok0];omega) | (simp<;>omega),by first | omega | (simp only [lsA,copyTo_len hok0];omega) | (simp<;>omega)⟩,trivial⟩ fun a w h=>?_
  replace h:=at_out (σ':=⟨[(0,aF s92 x0),(2,.p (.c (cN))),(3,aS 1),(4,aI (((i:Nat):Int)+1))],[(1,oR s97 (List.set (copyTo (0,(0,(0,(0,[])))) x0 i) i (x0.getD i (0,(0,(0,(0,[])))))))]⟩) { ts:=[0,2,3,4],os:=[1] } h (by kernel_rfl)
  exact ⟨i+1,at_eq h (st_congr2 (fun (d0:List T97) (d1:Int)=>(⟨[(0,aF s92 x0),(2,.p (.c (cN))),(3,aS 1),(4,aI d1)],[(1,oR s97 d0)]⟩:St)) (show ((List.set (copyTo (0,(0,(0,(0,[])))) x0 i) i (x0.getD i (0,(0,(0,(0,[])))))):List T97)=(copyTo (0,(0,(0,(0,[])))) x0 (i+1)) from by first | with_reducible rfl | (exact copyTo_set (by omega)) | rfl) (show (((i:Nat):Int)+1:Int)=(((i+1):Nat):Int) from by first | with_reducible rfl | (omega) | rfl)),(by first | omega | (refine ⟨?_,?_⟩<;>omega)),(by omega)⟩
 ·replace h1 : ¬ (((i : Nat) : Int) < ((List.length x0 : Nat) : Int)) := of_decide_eq_false h1
  refine wp_exit (then_exit (then_exit (in_hit (then_normal (wp_seq ?_)))))
  refine at_regq [] { ts:=[2],os:=[1] } [] gamOK hT h (by kernel_rfl) trivial fun a w h=>then_normal (wp_ret ?_)
  exact at_return ((copyTo (0,(0,(0,(0,[])))) x0 i),()) [] h (by kernel_rfl) trivial (congrArg (fun z=>(z,())) (show ((copyTo (0,(0,(0,(0,[])))) x0 i))=(idD s23) x0 from by (rw [copyTo_all (by omega)];rfl)))

def S_laws_toGeneration:Sum:={ fid:=68,dom:=[s94],cod:=[s68],dp:=true,fz:=false,pre:=fun x=>(pTo s94) x.1,g:=fun x=>(((idD s94) x.1),()) }
def S_laws_toGeneration_tab:List (Nat×Sum):=[(109,S_laws_toIntSS)]
theorem S_laws_toGeneration_ok:FnOK Try.prog 68 S_laws_toGeneration:=by
 refine at_enter 12 (fun x=>⟨[(0,aG [cI x.1.1,.ro s22 x.1.2])],[]⟩) Try.func68 rfl (by kernel_rfl) (fun x=>rfl) ?_
 rintro w0 Z0 ⟨x0,u⟩ a w
 revert x0
 intro (x0:T94) hpre hlens h
 replace hpre:(pTo s94) x0:=hpre
 have hl1:List.length x0.2≤9223372036854775807:=hlens.1.2.1
 have hT:TabOK Try.prog S_laws_toGeneration_tab:=(.cons S_laws_toIntSS_ok .nil)
 have hp:Sh.sz s94 x0≤1048576:=hpre
 have hsz:Sh.sz s94 x0=(0+(Sh.sz s66 x0.2)):=rfl
 refine wp_seq ?_
 refine at_regq [{ ids:=[1] },{ ids:=[2] }] { ts:=[1,2],os:=[1,2] } [] gamOK hT h (by kernel_rfl) trivial fun a w h=>then_normal (wp_seq ?_)
 refine at_regq [{ ids:=[3] }] { ts:=[1,2,3],os:=[1,2,3] } [] gamOK hT h (by kernel_rfl) trivial fun a w h=>then_normal (wp_seq ?_)
 refine at_regq [] { ts:=[1,2,3],os:=[1,2,3] } [] gamOK hT h (by kernel_rfl) trivial fun a w h=>then_normal (wp_seq ?_)
 refine at_regq [{},{},{ ids:=[4] }] { ts:=[2,3],os:=[2,3,4] } [(pTo s66) x0.2] gamOK hT h (by kernel_rfl) ⟨(by (show Sh.sz _ _≤1048576;first | omega | (show (0:Nat)≤1048576;decide))),trivial⟩ fun a w h=>then_normal (wp_seq ?_)
 refine at_regq [] { ts:=[2],os:=[2,4] } [] gamOK hT h (by kernel_rfl) trivial fun a w h=>then_normal (wp_ret ?_)
 exact at_return (x0,()) [] h (by kernel_rfl) trivial (congrArg (fun z=>(z,())) (show (x0)=(idD s94) x0 from by rfl))

def S_laws_toGenerationS:Sum:={ fid:=30,dom:=[s24],cod:=[s29],dp:=true,fz:=false,pre:=fun x=>(pTo s24) x.1,g:=fun x=>(((idD s24) x.1),()) }
def S_laws_toGenerationS_tab:List (Nat×Sum):=[(68,S_laws_toGeneration)]
theorem S_laws_toGenerationS_ok:FnOK Try.prog 30 S_laws_toGenerationS:=by
 refine at_enter 23 (fun x=>⟨[(0,aF s94 x.1)],[]⟩) Try.func30 rfl (by kernel_rfl) (fun x=>rfl) ?_
 rintro w0 Z0 ⟨x0,u⟩ a w
 revert x0
 intro (x0:(List T94)) hpre hlens h
 replace hpre:(pTo s24) x0:=hpre
 have hl1:List.length x0≤9223372036854775807:=hlens.1.1
 have hT:TabOK Try.prog S_laws_toGenerationS_tab:=(.cons S_laws_toGeneration_ok .nil)
 have hp:Sh.sz s24 x0≤1048576:=hpre
 have hsz:Sh.sz s24 x0=List.length x0+ctL (Sh.sz s94) x0:=rfl
 refine wp_seq ?_
 refine at_regq [] { ts:=[0,2],os:=[] } [] gamOK hT h (by kernel_rfl) trivial fun a w h=>then_normal (wp_seq ?_)
 refine at_regq [{},{},{ ids:=[1] }] { ts:=[0,2,3],os:=[1] } [(0:Int)≤((List.length x0:Nat):Int)∧((List.length x0:Nat):Int)=((List.length x0:Nat):Int)∧((List.length x0:Nat):Int)*(32:Nat)≤(140737488355328:Int)] gamOK hT h (by kernel_rfl) ⟨(by refine ⟨?_,?_,?_⟩<;>((have hA0:=mul_f ((List.length x0:Nat):Int) (32:Nat);first | omega | (simp only [lsA,copyTo_len hok0];omega) | (simp<;>omega)))),trivial⟩ fun a w h=>then_normal (wp_seq (wp_seq ?_))
 refine at_regq [] { ts:=[0,2,3,4],os:=[1] } [] gamOK hT h (by kernel_rfl) trivial fun a w h=>then_normal (wp_block ?_)
 replace h:=at_out (σ':=⟨[(0,aF s94 x0),(2,.p (.c (cN))),(3,aS 1),(4,aI 0)],[(1,oR s68 (List.replicate (List.length x0) ((0,[]):T68)))]⟩) { ts:=[0,2,3,4],os:=[1] } h (by kernel_rfl)
 refine at_loop (fun i:Nat=>(⟨[(0,aF s94 x0),(2,.p (.c (cN))),(3,aS 1),(4,aI ((i:Nat):Int))],[(1,oR s68 (copyTo (0,[]) x0 i))]⟩:St)) (fun i=>i≤List.length x0) (fun i=>List.length x0 - i) (0) h (st_congr2 (fun (d0:List T68) (d1:Int)=>(⟨[(0,aF s94 x0),(2,.p (.c (cN))),(3,aS 1),(4,aI d1)],[(1,oR s68 d0)]⟩:St)) (show ((List.replicate (List.length x0) ((0,[]):T68)):List T68)=(copyTo (0,[]) x0 (0)) from by first | with_reducible rfl | (exact copyTo_zero) | rfl) (show (0:Int)=(((0):Nat):Int) from by first | with_reducible rfl | (exact copyTo_zero) | rfl)) (by first | omega | simp | (refine ⟨?_,?_⟩<;>first | omega | simp)) ?_
 intro i a w hok0 h
 refine wp_seq (wp_seq ?_)
 refine at_regq [] { ts:=[0,2,3,4,11],os:=[1] } [] gamOK hT h (by kernel_rfl) trivial fun a w h=>then_normal ?_
 refine at_test (decide (((i:Nat):Int) < ((List.length x0:Nat):Int))) h (by kernel_rfl) (fun h1=>?_) (fun h1=>?_)
 ·replace h1 : ((i : Nat) : Int) < ((List.length x0 : Nat) : Int) := of_decide_eq_true h1
  have hat:=ctL_at_le (c:=Sh.sz s94) (xs:=x0) (z:=(0,[])) (i:=i) (by omega)
  refine wp_skip (then_normal (wp_seq (wp_block ?_)))
  refine at_regq [{},{},{},{},{},{},{ ids:=[2] }] { ts:=[0,2,3,4],os:=[1] } [(0:Int)≤((i:Nat):Int)∧((i:Nat):Int) < ((List.length x0:Nat):Int),(pTo s94) (x0.getD i (0,[])),(0:Int)≤((i:Nat):Int)∧((i:Nat):Int) < ((List.length (copyTo (0,[]) x0 i):Nat):Int),i < List.length (copyTo (0,[]) x0 i)] gamOK hT h (by kernel_rfl) ⟨(by refine ⟨?_,?_⟩<;>(first | omega | (simp only [lsA,copyTo_len hok0];omega) | (simp<;>omega))),(by (show Sh.sz _ _≤1048576;omega)),(by refine ⟨?_,?_⟩<;>(first | omega | (simp only [lsA,copyTo_len hok0];omega) | (simp<;>omega))),(by first | omega | (simp only [lsA,copyTo_len hok0];omega) | (simp<;>omega)),trivial⟩ fun a w h=>in_normal (then_normal ?_)
  refine at_regq [{},{ nw:=true }] { ts:=[0,2,3,4],os:=[1] } [I64 (((i:Nat):Int)+1)] gamOK hT h (by kernel_rfl) ⟨⟨by first | omega | (simp only [lsA,copyTo_len hok0];omega) | (simp<;>omega),by first | omega | (simp only [lsA,copyTo_len hok0];omega) | (simp<;>omega)⟩,trivial⟩ fun a w h=>?_
  replace h:=at_out (σ':=⟨[(0,aF s94 x0),(2,.p (.c (cN))),(3,aS 1),(4,aI (((i:Nat):Int)+1))],[(1,oR s68 (List.set (copyTo (0,[]) x0 i) i (x0.getD i (0,[]))))]⟩) { ts:=[0,2,3,4],os:=[1] } h (by kernel_rfl)
  exact ⟨i+1,at_eq h (st_congr2 (fun (d0:List T68) (d1:Int)=>(⟨[(0,aF s94 x0),(2,.p (.c (cN))),(3,aS 1),(4,aI d1)],[(1,oR s68 d0)]⟩:St)) (show ((List.set (copyTo (0,[]) x0 i) i (x0.getD i (0,[]))):List T68)=(copyTo (0,[]) x0 (i+1)) from by first | with_reducible rfl | (exact copyTo_set (by omega)) | rfl) (show (((i:Nat):Int)+1:Int)=(((i+1):Nat):Int) from by first | with_reducible rfl | (omega) | rfl)),(by first | omega | (refine ⟨?_,?_⟩<;>omega)),(by omega)⟩
 ·replace h1 : ¬ (((i : Nat) : Int) < ((List.length x0 : Nat) : Int)) := of_decide_eq_false h1
  refine wp_exit (then_exit (then_exit (in_hit (then_normal (wp_seq ?_)))))
  refine at_regq [] { ts:=[2],os:=[1] } [] gamOK hT h (by kernel_rfl) trivial fun a w h=>then_normal (wp_ret ?_)
  exact at_return ((copyTo (0,[]) x0 i),()) [] h (by kernel_rfl) trivial (congrArg (fun z=>(z,())) (show ((copyTo (0,[]) x0 i))=(idD s24) x0 from by (rw [copyTo_all (by omega)];rfl)))

def S_laws_toSink:Sum:={ fid:=7,dom:=[s26],cod:=[s31],dp:=true,fz:=false,pre:=fun x=>(pTo s26) x.1,g:=fun x=>(((idD s26) x.1),()) }
def S_laws_toSink_tab:List (Nat×Sum):=[(28,S_laws_toIntS),(29,S_laws_toDecoderS),(30,S_laws_toGenerationS)]
theorem S_laws_toSink_ok:FnOK Try.prog 7 S_laws_toSink:=by
 refine at_enter 26 (fun x=>⟨[(0,aG [cI x.1.1,cI x.1.2.1,.ro (.int 3) x.1.2.2.1,.ro s92 x.1.2.2.2.1,.ro s94 x.1.2.2.2.2.1,cI x.1.2.2.2.2.2])],[]⟩) Try.func7 rfl (by kernel_rfl) (fun x=>rfl) ?_
 rintro w0 Z0 ⟨x0,u⟩ a w
 revert x0
 intro (x0:T26) hpre hlens h
 replace hpre:(pTo s26) x0:=hpre
 have hl1:List.length x0.2.2.1≤9223372036854775807:=hlens.1.2.2.1.1
 have hl2:List.length x0.2.2.2.1≤9223372036854775807:=hlens.1.2.2.2.1.1
 have hl3:List.length x0.2.2.2.2.1≤9223372036854775807:=hlens.1.2.2.2.2.1.1
 have hT:TabOK Try.prog S_laws_toSink_tab:=(.cons S_laws_toIntS_ok (.cons S_laws_toDecoderS_ok (.cons S_laws_toGenerationS_ok .nil)))
 have hp:Sh.sz s26 x0≤1048576:=hpre
 have hsz:Sh.sz s26 x0=(0+(0+((Sh.sz s22 x0.2.2.1)+((Sh.sz s23 x0.2.2.2.1)+((Sh.sz s24 x0.2.2.2.2.1)+0))))):=rfl
 refine wp_seq ?_
 refine at_regq [{ ids:=[1] },{ ids:=[2] }] { ts:=[1,2],os:=[1,2] } [] gamOK hT h (by kernel_rfl) trivial fun a w h=>then_normal (wp_seq ?_)
 refine at_regq [{ ids:=[3] }] { ts:=[1,2,3],os:=[1,2,3] } [] gamOK hT h (by kernel_rfl) trivial fun a w h=>then_normal (wp_seq ?_)
 refine at_regq [] { ts:=[1,2,3],os:=[1,2,3] } [] gamOK hT h (by kernel_rfl) trivial fun a w h=>then_normal (wp_seq ?_)
 refine at_regq [] { ts:=[1,2,3],os:=[1,2,3] } [] gamOK hT h (by kernel_rfl) trivial fun a w h=>then_normal (wp_seq ?_)
 refine at_regq [{},{},{ ids:=[4] }] { ts:=[1,2,3],os:=[1,2,3,4] } [(pTo s22) x0.2.2.1] gamOK hT h (by kernel_rfl) ⟨(by (show Sh.sz _ _≤1048576;first | omega | (show (0:Nat)≤1048576;decide))),trivial⟩ fun a w h=>then_normal (wp_seq ?_)
 refine at_regq [{},{},{ ids:=[5] }] { ts:=[1,2,3],os:=[1,2,3,4,5] } [(pTo s23) x0.2.2.2.1] gamOK hT h (by kernel_rfl) ⟨(by (show Sh.sz _ _≤1048576;first | omega | (show (0:Nat)≤1048576;decide))),trivial⟩ fun a w h=>then_normal (wp_seq ?_)
 refine at_regq [{},{},{ ids:=[6] }] { ts:=[1,2,3],os:=[1,2,3,4,5,6] } [(pTo s24) x0.2.2.2.2.1] gamOK hT h (by kernel_rfl) ⟨(by (show Sh.sz _ _≤1048576;first | omega | (show (0:Nat)≤1048576;decide))),trivial⟩ fun a w h=>then_normal (wp_seq ?_)
 refine at_regq [] { ts:=[2,3],os:=[2,3,4,5,6] } [] gamOK hT h (by kernel_rfl) trivial fun a w h=>then_normal (wp_seq ?_)
 refine at_regq [] { ts:=[2],os:=[2,4,5,6] } [] gamOK hT h (by kernel_rfl) trivial fun a w h=>then_normal (wp_ret ?_)
 exact at_return (x0,()) [] h (by kernel_rfl) trivial (congrArg (fun z=>(z,())) (show (x0)=(idD s26) x0 from by rfl))

def S_spec_EqualInts:Sum:={ fid:=160,dom:=[s22,s22],cod:=[(.bool 4)],dp:=true,fz:=false,pre:=fun x=>True,g:=fun x=>(((Sh.eqB s22) x.1 x.2.1),()) }
def S_spec_EqualInts_tab:List (Nat×Sum):=[]
theorem S_spec_EqualInts_ok:FnOK Try.prog 160 S_spec_EqualInts:=by
 refine at_enter 26 (fun x=>⟨[(0,aF (.int 3) x.1),(1,aF (.int 3) x.2.1)],[]⟩) Try.func160 rfl (by kernel_rfl) (fun x=>rfl) ?_
 rintro w0 Z0 ⟨x0,x1,u⟩ a w
 revert x0 x1
 intro (x0:(List Int)) (x1:(List Int)) hpre hlens h
 have hl1:List.length x0≤9223372036854775807:=hlens.1.1
 have hl2:List.length x1≤9223372036854775807:=hlens.2.1.1
 have hT:TabOK Try.prog S_spec_EqualInts_tab:=.nil
 refine wp_seq ?_
 refine at_regq [] { ts:=[0,1,4],os:=[] } [] gamOK hT h (by kernel_rfl) trivial fun a w h=>then_normal (wp_seq (wp_seq ?_))
 refine at_regq [] { ts:=[0,1,4,10],os:=[] } [] gamOK hT h (by kernel_rfl) trivial fun a w h=>then_normal ?_
 refine at_test (!decide (((List.length x0:Nat):Int)=((List.length x1:Nat):Int))) h (by kernel_rfl) (fun h1=>?_) (fun h1=>?_)
 ·replace h1 : ¬ (((List.length x0 : Nat) : Int) = ((List.length x1 : Nat) : Int)) := of_decide_eq_false (notT h1)
  refine wp_seq ?_
  refine at_regq [] { ts:=[0,1,4],os:=[] } [] gamOK hT h (by kernel_rfl) trivial fun a w h=>then_normal (wp_ret (then_ret ?_))
  exact at_return (false,()) [] h (by kernel_rfl) trivial (congrArg (fun z=>(z,())) (show (false)=(Sh.eqB s22) x0 x1 from by exact (Sh.eqB_ne (fun e=>h1 (by rw [e]))).symm))
 ·replace h1 : ((List.length x0 : Nat) : Int) = ((List.length x1 : Nat) : Int) := of_decide_eq_true (notF h1)
  refine wp_skip (then_normal (wp_seq (wp_seq ?_)))
  refine at_regq [] { ts:=[0,1,4,5],os:=[] } [] gamOK hT h (by kernel_rfl) trivial fun a w h=>then_normal (wp_block ?_)
  replace h:=at_out (σ':=⟨[(0,aF (.int 3) x0),(1,aF (.int 3) x1),(4,aB false),(5,aI 0)],[]⟩) { ts:=[0,1,4,5],os:=[] } h (by kernel_rfl)
  refine at_loop (fun i:Nat=>(⟨[(0,aF (.int 3) x0),(1,aF (.int 3) x1),(4,aB false),(5,aI ((i:Nat):Int))],[]⟩:St)) (fun i=>(i≤List.length x0∧x0.take i=x1.take i)) (fun i=>List.length x0 - i) (0) h (st_congr1 (fun (d0:Int)=>(⟨[(0,aF (.int 3) x0),(1,aF (.int 3) x1),(4,aB false),(5,aI d0)],[]⟩:St)) (show (0:Int)=(((0):Nat):Int) from by first | with_reducible rfl | (rfl) | rfl)) (by exact ⟨Nat.zero_le _,rfl⟩) ?_
  intro i a w hok0 h
  refine wp_seq (wp_seq ?_)
  refine at_regq [] { ts:=[0,1,4,5,14],os:=[] } [] gamOK hT h (by kernel_rfl) trivial fun a w h=>then_normal ?_
  refine at_test (decide (((i:Nat):Int) < ((List.length x0:Nat):Int))) h (by kernel_rfl) (fun h2=>?_) (fun h2=>?_)
  ·replace h2 : ((i : Nat) : Int) < ((List.length x0 : Nat) : Int) := of_decide_eq_true h2
   refine wp_skip (then_normal (wp_seq (wp_block (wp_seq ?_))))
   refine at_anyq [{},{},{},{},{},{},{},{},{}] { ts:=[0,1,4,5,25],os:=[] } [(0:Int)≤((i:Nat):Int)∧((i:Nat):Int) < ((List.length x0:Nat):Int),(0:Int)≤((i:Nat):Int)∧((i:Nat):Int) < ((List.length x1:Nat):Int)] gamOK hT mixed h (by kernel_rfl) ⟨(by refine ⟨?_,?_⟩<;>(first | omega | (simp only [lsA];omega) | (simp<;>omega))),(by refine ⟨?_,?_⟩<;>(first | omega | (simp only [lsA];omega) | (simp<;>omega))),trivial⟩ fun a w h=>then_normal ?_
   refine at_test (!decide ((x0.getD i 0)=(x1.getD i 0))) h (by kernel_rfl) (fun h3=>?_) (fun h3=>?_)
   ·replace h3 : ¬ ((x0.getD i 0) = (x1.getD i 0)) := of_decide_eq_false (notT h3)
    refine wp_seq ?_
    refine at_regq [] { ts:=[0,1,4,5],os:=[] } [] gamOK hT h (by kernel_rfl) trivial fun a w h=>then_normal (wp_ret (in_ret (then_ret (then_ret (in_ret (then_ret ?_))))))
    exact at_return (false,()) [] h (by kernel_rfl) trivial (congrArg (fun z=>(z,())) (show (false)=(Sh.eqB s22) x0 x1 from by exact (Sh.eqB_ne (s:=s22) (fun e=>h3 (by rw [e]))).symm))
   ·replace h3 : (x0.getD i 0) = (x1.getD i 0) := of_decide_eq_true (notF h3)
    refine wp_skip (in_normal (then_normal ?_))
    refine at_regq [{},{ nw:=true }] { ts:=[0,1,4,5],os:=[] } [I64 (((i:Nat):Int)+1)] gamOK hT h (by kernel_rfl) ⟨⟨by first | omega | (simp only [lsA];omega) | (simp<;>omega),by first | omega | (simp only [lsA];omega) | (simp<;>omega)⟩,trivial⟩ fun a w h=>?_
    replace h:=at_out (σ':=⟨[(0,aF (.int 3) x0),(1,aF (.int 3) x1),(4,aB false),(5,aI (((i:Nat):Int)+1))],[]⟩) { ts:=[0,1,4,5],os:=[] } h (by kernel_rfl)
    exact ⟨i+1,at_eq h (st_congr1 (fun (d0:Int)=>(⟨[(0,aF (.int 3) x0),(1,aF (.int 3) x1),(4,aB false),(5,aI d0)],[]⟩:St)) (show (((i:Nat):Int)+1:Int)=(((i+1):Nat):Int) from by first | with_reducible rfl | (omega) | rfl)),(by exact ⟨by omega,eqTo_step (z:=0) (by omega) (by omega) hok0.2 h3⟩),(by omega)⟩
  ·replace h2 : ¬ (((i : Nat) : Int) < ((List.length x0 : Nat) : Int)) := of_decide_eq_false h2
   refine wp_exit (then_exit (then_exit (in_hit (then_normal (wp_seq ?_)))))
   refine at_regq [] { ts:=[4],os:=[] } [] gamOK hT h (by kernel_rfl) trivial fun a w h=>then_normal (wp_ret ?_)
   exact at_return (true,()) [] h (by kernel_rfl) trivial (congrArg (fun z=>(z,())) (show (true)=(Sh.eqB s22) x0 x1 from by (have e:=hok0.2;rw [take_all (by omega),take_all (by omega)] at e;exact ((Sh.eqB_iff s22).2 e).symm)))

def D_spec_l30Sizes (x0:(List Int)):Bool:=(if (List.all x0 (fun n=>inR n 1 8))=true then decide (((List.length x0:Nat):Int)≤60) else false)
def S_spec_l30Sizes:Sum:={ fid:=60,dom:=[s22],cod:=[(.bool 4)],dp:=true,fz:=false,pre:=fun x=>True,g:=fun x=>((D_spec_l30Sizes x.1),()) }
def S_spec_l30Sizes_tab:List (Nat×Sum):=[(59,S_spec_l1In)]
theorem S_spec_l30Sizes_ok:FnOK Try.prog 60 S_spec_l30Sizes:=by
 refine at_enter 19 (fun x=>⟨[(0,aF (.int 3) x.1)],[]⟩) Try.func60 rfl (by kernel_rfl) (fun x=>rfl) ?_
 rintro w0 Z0 ⟨x0,u⟩ a w
 revert x0
 intro (x0:(List Int)) hpre hlens h
 have hl1:List.length x0≤9223372036854775807:=hlens.1.1
 have hT:TabOK Try.prog S_spec_l30Sizes_tab:=(.cons S_spec_l1In_ok .nil)
 refine wp_seq ?_
 refine at_regq [] { ts:=[0,2],os:=[] } [] gamOK hT h (by kernel_rfl) trivial fun a w h=>then_normal (wp_seq (wp_seq ?_))
 refine at_regq [] { ts:=[0,2,3],os:=[] } [] gamOK hT h (by kernel_rfl) trivial fun a w h=>then_normal (wp_block ?_)
 replace h:=at_out (σ':=⟨[(0,aF (.int 3) x0),(2,aB false),(3,aI 0)],[]⟩) { ts:=[0,2,3],os:=[] } h (by kernel_rfl)
 refine at_loop (fun i:Nat=>(⟨[(0,aF (.int 3) x0),(2,aB false),(3,aI ((i:Nat):Int))],[]⟩:St)) (fun i=>(i≤List.length x0∧allTo1 (fun n=>inR n 1 8) x0 0 i)) (fun i=>List.length x0 - i) (0) h (st_congr1 (fun (d0:Int)=>(⟨[(0,aF (.int 3) x0),(2,aB false),(3,aI d0)],[]⟩:St)) (show (0:Int)=(((0):Nat):Int) from by first | with_reducible rfl | (rfl) | rfl)) (by exact ⟨Nat.zero_le _,allTo1_zero⟩) ?_
 intro i a w hok0 h
 refine wp_seq (wp_seq ?_)
 refine at_regq [] { ts:=[0,2,3,7],os:=[] } [] gamOK hT h (by kernel_rfl) trivial fun a w h=>then_normal ?_
 refine at_test (decide (((i:Nat):Int) < ((List.length x0:Nat):Int))) h (by kernel_rfl) (fun h1=>?_) (fun h1=>?_)
 ·replace h1 : ((i : Nat) : Int) < ((List.length x0 : Nat) : Int) := of_decide_eq_true h1
  refine wp_skip (then_normal (wp_seq (wp_block (wp_seq ?_))))
  refine at_regq [] { ts:=[0,2,3,15],os:=[] } [(0:Int)≤((i:Nat):Int)∧((i:Nat):Int) < ((List.length x0:Nat):Int),True] gamOK hT h (by kernel_rfl) ⟨(by refine ⟨?_,?_⟩<;>(first | omega | (simp only [lsA];omega) | (simp<;>omega))),trivial,trivial⟩ fun a w h=>then_normal ?_
  refine at_test (!(inR (x0.getD i 0) 1 8)) h (by kernel_rfl) (fun h2=>?_) (fun h2=>?_)
  ·replace h2 : (inR (x0.getD i 0) 1 8) = false := notT h2
   have hvh2:=inR_f h2
   refine wp_seq ?_
   refine at_regq [] { ts:=[0,2,3],os:=[] } [] gamOK hT h (by kernel_rfl) trivial fun a w h=>then_normal (wp_ret (in_ret (then_ret ?_)))
   have hs3:(List.all x0 (fun n=>inR n 1 8))=false:=by exact all_at (z:=0) (i:=i) (by omega) (by first | assumption | (simp_all;done))
   refine then_ret (in_ret (then_ret ?_))
   exact at_return (false,()) [] h (by kernel_rfl) trivial (congrArg (fun z=>(z,())) (show (false)=D_spec_l30Sizes x0 from by first | rfl | (unfold D_spec_l30Sizes;rw [if_neg (neT hs3)])))
  ·replace h2 : (inR (x0.getD i 0) 1 8) = true := notF h2
   have hvh2:=inR_t h2
   refine wp_skip (in_normal (then_normal ?_))
   refine at_regq [{},{ nw:=true }] { ts:=[0,2,3],os:=[] } [I64 (((i:Nat):Int)+1)] gamOK hT h (by kernel_rfl) ⟨⟨by first | omega | (simp only [lsA];omega) | (simp<;>omega),by first | omega | (simp only [lsA];omega) | (simp<;>omega)⟩,trivial⟩ fun a w h=>?_
   replace h:=at_out (σ':=⟨[(0,aF (.int 3) x0),(2,aB false),(3,aI (((i:Nat):Int)+1))],[]⟩) { ts:=[0,2,3],os:=[] } h (by kernel_rfl)
   exact ⟨i+1,at_eq h (st_congr1 (fun (d0:Int)=>(⟨[(0,aF (.int 3) x0),(2,aB false),(3,aI d0)],[]⟩:St)) (show (((i:Nat):Int)+1:Int)=(((i+1):Nat):Int) from by first | with_reducible rfl | (omega) | rfl)),(by exact ⟨by omega,allTo1_succ hok0.2 (by first | assumption | (simp_all;done))⟩),(by omega)⟩
 ·replace h1 : ¬ (((i : Nat) : Int) < ((List.length x0 : Nat) : Int)) := of_decide_eq_false h1
  refine wp_exit (then_exit ?_)
  have hs4:(List.all x0 (fun n=>inR n 1 8))=true:=by exact all_of (z:=0) (i:=i) (by omega) hok0.2
  refine then_exit (in_hit (then_normal (wp_seq ?_)))
  refine at_regq [] { ts:=[2],os:=[] } [] gamOK hT h (by kernel_rfl) trivial fun a w h=>then_normal (wp_ret ?_)
  exact at_return (decide (((List.length x0:Nat):Int)≤60),()) [] h (by kernel_rfl) trivial (congrArg (fun z=>(z,())) (show (decide (((List.length x0:Nat):Int)≤60))=D_spec_l30Sizes x0 from by first | rfl | (unfold D_spec_l30Sizes;rw [if_pos hs4])))

def D_impl_NewSink_1:=(fun n=>!inR n 1 8)
def S_impl_NewSink_1:Sum:={ fid:=113,dom:=[(.int 3)],cod:=[(.bool 4)],dp:=true,fz:=false,pre:=fun x=>True,g:=fun x=>((D_impl_NewSink_1 x.1),()) }
def S_impl_NewSink_1_tab:List (Nat×Sum):=[(73,S_impl_InRange)]
theorem S_impl_NewSink_1_ok:FnOK Try.prog 113 S_impl_NewSink_1:=by
 refine at_enter 6 (fun x=>⟨[(0,aI x.1)],[]⟩) Try.func113 rfl (by kernel_rfl) (fun x=>rfl) ?_
 rintro w0 Z0 ⟨x0,u⟩ a w
 revert x0
 intro (x0:Int) hpre hlens h
 have hT:TabOK Try.prog S_impl_NewSink_1_tab:=(.cons S_impl_InRange_ok .nil)
 refine wp_seq ?_
 refine at_regq [] { ts:=[0,2],os:=[] } [] gamOK hT h (by kernel_rfl) trivial fun a w h=>then_normal (wp_seq ?_)
 refine at_regq [] { ts:=[2],os:=[] } [True] gamOK hT h (by kernel_rfl) ⟨trivial,trivial⟩ fun a w h=>then_normal (wp_ret ?_)
 exact at_return (!(inR x0 1 8),()) [] h (by kernel_rfl) trivial (congrArg (fun z=>(z,())) (show (!(inR x0 1 8))=D_impl_NewSink_1 x0 from by unfold D_impl_NewSink_1;rfl))

def D_slices_IndexFunc_S_int_int__NewSink_1:=(fun (xs:List Int) (cap:Unit)=>idxF (fun e=>!inR e 1 8) xs)
def S_slices_IndexFunc_S_int_int__NewSink_1:Sum:={ fid:=140,dom:=[s22,(.fn0 113)],cod:=[(.int 3)],dp:=true,fz:=false,pre:=fun x=>True,g:=fun x=>((D_slices_IndexFunc_S_int_int__NewSink_1 x.1 x.2.1),()) }
def S_slices_IndexFunc_S_int_int__NewSink_1_tab:List (Nat×Sum):=[(113,S_impl_NewSink_1)]
theorem S_slices_IndexFunc_S_int_int__NewSink_1_ok:FnOK Try.prog 140 S_slices_IndexFunc_S_int_int__NewSink_1:=by
 refine at_enter 19 (fun x=>⟨[(0,aF (.int 3) x.1),(1,.p (.c (.cl 113 .cnil)))],[]⟩) Try.func140 rfl (by kernel_rfl) (fun x=>rfl) ?_
 rintro w0 Z0 ⟨x0,x1,u⟩ a w
 revert x0 x1
 intro (x0:(List Int)) (x1:Unit) hpre hlens h
 have hl1:List.length x0≤9223372036854775807:=hlens.1.1
 have hT:TabOK Try.prog S_slices_IndexFunc_S_int_int__NewSink_1_tab:=(.cons S_impl_NewSink_1_ok .nil)
 refine wp_seq ?_
 refine at_regq [] { ts:=[0,1,4],os:=[] } [] gamOK hT h (by kernel_rfl) trivial fun a w h=>then_normal (wp_seq (wp_seq ?_))
 refine at_regq [] { ts:=[0,1,4,7,8],os:=[] } [] gamOK hT h (by kernel_rfl) trivial fun a w h=>then_normal (wp_block ?_)
 replace h:=at_out (σ':=⟨[(0,aF (.int 3) x0),(1,.p (.c (.cl 113 .cnil))),(4,aI 0),(7,aI ((List.length x0:Nat):Int)),(8,aI 0)],[]⟩) { ts:=[0,1,4,7,8],os:=[] } h (by kernel_rfl)
 refine at_loop (fun i:Nat=>(⟨[(0,aF (.int 3) x0),(1,.p (.c (.cl 113 .cnil))),(4,aI 0),(7,aI ((List.length x0:Nat):Int)),(8,aI ((i:Nat):Int))],[]⟩:St)) (fun i=>(i≤List.length x0∧noneTo (fun e=>!inR e 1 8) x0 0 i)) (fun i=>List.length x0 - i) (0) h (st_congr1 (fun (d0:Int)=>(⟨[(0,aF (.int 3) x0),(1,.p (.c (.cl 113 .cnil))),(4,aI 0),(7,aI ((List.length x0:Nat):Int)),(8,aI d0)],[]⟩:St)) (show (0:Int)=(((0):Nat):Int) from by first | with_reducible rfl | (rfl) | rfl)) (by exact ⟨Nat.zero_le _,noneTo_zero⟩) ?_
 intro i a w hok0 h
 refine wp_seq ?_
 refine at_regq [] { ts:=[0,1,4,7,8,9],os:=[] } [] gamOK hT h (by kernel_rfl) trivial fun a w h=>then_normal (wp_seq ?_)
 refine at_test (decide (((i:Nat):Int) < ((List.length x0:Nat):Int))) h (by kernel_rfl) (fun h1=>?_) (fun h1=>?_)
 ·replace h1 : ((i : Nat) : Int) < ((List.length x0 : Nat) : Int) := of_decide_eq_true h1
  refine wp_skip (then_normal (wp_seq (wp_block (wp_seq ?_))))
  refine at_regq [] { ts:=[0,1,4,5,7,8],os:=[] } [] gamOK hT h (by kernel_rfl) trivial fun a w h=>then_normal (wp_seq ?_)
  refine at_regq [] { ts:=[0,1,4,5,7,8,16],os:=[] } [(0:Int)≤((i:Nat):Int)∧((i:Nat):Int) < ((List.length x0:Nat):Int),True] gamOK hT h (by kernel_rfl) ⟨(by refine ⟨?_,?_⟩<;>(first | omega | (simp only [lsA];omega) | (simp<;>omega))),trivial,trivial⟩ fun a w h=>then_normal ?_
  refine at_test ((D_impl_NewSink_1 (x0.getD i 0))) h (by kernel_rfl) (fun h2=>?_) (fun h2=>?_)
  ·refine wp_seq ?_
   refine at_regq [] { ts:=[0,1,4,7,8],os:=[] } [] gamOK hT h (by kernel_rfl) trivial fun a w h=>then_normal (wp_ret (in_ret (then_ret (then_ret (in_ret (then_ret ?_))))))
   exact at_return (((i:Nat):Int),()) [] h (by kernel_rfl) trivial (congrArg (fun z=>(z,())) (show (((i:Nat):Int))=D_slices_IndexFunc_S_int_int__NewSink_1 x0 x1 from by unfold D_slices_IndexFunc_S_int_int__NewSink_1;exact (idxF_at (z:=0) (by omega) hok0.2 h2).symm))
  ·refine wp_skip (in_normal (then_normal ?_))
   refine at_regq [{ nw:=true }] { ts:=[0,1,4,7,8],os:=[] } [I64 (((i:Nat):Int)+1)] gamOK hT h (by kernel_rfl) ⟨⟨by first | omega | (simp only [lsA];omega) | (simp<;>omega),by first | omega | (simp only [lsA];omega) | (simp<;>omega)⟩,trivial⟩ fun a w h=>?_
   replace h:=at_out (σ':=⟨[(0,aF (.int 3) x0),(1,.p (.c (.cl 113 .cnil))),(4,aI 0),(7,aI ((List.length x0:Nat):Int)),(8,aI (((i:Nat):Int)+1))],[]⟩) { ts:=[0,1,4,7,8],os:=[] } h (by kernel_rfl)
   exact ⟨i+1,at_eq h (st_congr1 (fun (d0:Int)=>(⟨[(0,aF (.int 3) x0),(1,.p (.c (.cl 113 .cnil))),(4,aI 0),(7,aI ((List.length x0:Nat):Int)),(8,aI d0)],[]⟩:St)) (show (((i:Nat):Int)+1:Int)=(((i+1):Nat):Int) from by first | with_reducible rfl | (omega) | rfl)),(by exact ⟨by omega,noneTo_succ hok0.2 h2⟩),(by omega)⟩
 ·replace h1 : ¬ (((i : Nat) : Int) < ((List.length x0 : Nat) : Int)) := of_decide_eq_false h1
  refine wp_exit (then_exit (then_exit (in_hit (then_normal (wp_seq ?_)))))
  refine at_regq [] { ts:=[4],os:=[] } [] gamOK hT h (by kernel_rfl) trivial fun a w h=>then_normal (wp_ret ?_)
  exact at_return ((-1),()) [] h (by kernel_rfl) trivial (congrArg (fun z=>(z,())) (show ((-1))=D_slices_IndexFunc_S_int_int__NewSink_1 x0 x1 from by unfold D_slices_IndexFunc_S_int_int__NewSink_1;exact (idxF_none (z:=0) (by omega) hok0.2).symm))

def D_slices_ContainsFunc_S_int_int__NewSink_1:=(fun (xs:List Int) (cap:Unit)=>xs.any fun e=>!inR e 1 8)
def S_slices_ContainsFunc_S_int_int__NewSink_1:Sum:={ fid:=112,dom:=[s22,(.fn0 113)],cod:=[(.bool 4)],dp:=true,fz:=false,pre:=fun x=>True,g:=fun x=>((D_slices_ContainsFunc_S_int_int__NewSink_1 x.1 x.2.1),()) }
def S_slices_ContainsFunc_S_int_int__NewSink_1_tab:List (Nat×Sum):=[(100001,S_slices_IndexFunc_S_int_int__NewSink_1)]
theorem S_slices_ContainsFunc_S_int_int__NewSink_1_ok:FnOK Try.prog 112 S_slices_ContainsFunc_S_int_int__NewSink_1:=by
 refine at_enter 9 (fun x=>⟨[(0,aF (.int 3) x.1),(1,.p (.c (.cl 113 .cnil)))],[]⟩) Try.func112 rfl (by kernel_rfl) (fun x=>rfl) ?_
 rintro w0 Z0 ⟨x0,x1,u⟩ a w
 revert x0 x1
 intro (x0:(List Int)) (x1:Unit) hpre hlens h
 have hl1:List.length x0≤9223372036854775807:=hlens.1.1
 have hT:TabOK Try.prog S_slices_ContainsFunc_S_int_int__NewSink_1_tab:=(.cons S_slices_IndexFunc_S_int_int__NewSink_1_ok .nil)
 refine wp_seq ?_
 refine at_regq [] { ts:=[0,1,4],os:=[] } [] gamOK hT h (by kernel_rfl) trivial fun a w h=>then_normal (wp_seq ?_)
 refine at_regq [{},{},{ key:=some 100001 }] { ts:=[4],os:=[] } [True] gamOK hT h (by kernel_rfl) ⟨trivial,trivial⟩ fun a w h=>then_normal (wp_ret ?_)
 exact at_return (decide ((D_slices_IndexFunc_S_int_int__NewSink_1 x0 ())≥0),()) [] h (by kernel_rfl) trivial (congrArg (fun z=>(z,())) (show (decide ((D_slices_IndexFunc_S_int_int__NewSink_1 x0 ())≥0))=D_slices_ContainsFunc_S_int_int__NewSink_1 x0 x1 from by unfold D_slices_ContainsFunc_S_int_int__NewSink_1;exact idxF_any))

end Go.Proofs.Ytamibfjeldfphaa
