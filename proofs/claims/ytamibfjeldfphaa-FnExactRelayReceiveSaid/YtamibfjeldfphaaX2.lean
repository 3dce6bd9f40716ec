/- The walks of the functions that the law reaches: each summary holds. No condition. -/
import Derived.Test.YtamibfjeldfphaaX1
import Derived.Test.YtamibfjeldfphaaLA
import Derived.Test.YtamibfjeldfphaaProg
namespace Go.Proofs.Ytamibfjeldfphaa
open Go.RowKit
set_option linter.unusedVariables false
set_option linter.unusedSimpArgs false
abbrev Q_spec_IsValidVector:=(fun (x0:(List Int))=>Sh.fit s22 x0)
def S_spec_IsValidVector:Sum:={ fid:=139,dom:=[s22],cod:=[(.bool 4)],dp:=true,fz:=false,pre:=fun x=>Q_spec_IsValidVector x.1,g:=fun x=>((validV x.1),()) }
def S_spec_IsValidVector_tab:List (Nat×Sum):=[(153,S_spec_IsElement)]
theorem S_spec_IsValidVector_ok:FnOK Try.prog 139 S_spec_IsValidVector:=by
 refine at_enter 19 (fun x=>⟨[(0,aF (.int 3) x.1)],[]⟩) Try.func139 rfl (by kernel_rfl) (fun x=>rfl) ?_
 rintro w0 Z0 ⟨x0,u⟩ a w
 revert x0
 intro (x0:(List Int)) hpre hlens h
 replace hpre:Q_spec_IsValidVector x0:=hpre
 have hT:TabOK Try.prog S_spec_IsValidVector_tab:=(.cons S_spec_IsElement_ok .nil)
 have hf0:Sh.fit s22 x0:=hpre
 have hn0_1:List.length x0≤1073741824:=hf0.1
 refine wp_seq ?_
 refine at_regq [] { ts:=[0,2],os:=[] } [] gamOK hT h (by kernel_rfl) trivial fun a w h=>then_normal (wp_seq (wp_seq ?_))
 refine at_regq [] { ts:=[0,2,3],os:=[] } [] gamOK hT h (by kernel_rfl) trivial fun a w h=>then_normal (wp_block ?_)
 replace h:=at_out (σ':=⟨[(0,aF (.int 3) x0),(2,aB false),(3,aI 0)],[]⟩) { ts:=[0,2,3],os:=[] } h (by kernel_rfl)
 refine at_loop (fun i:Nat=>(⟨[(0,aF (.int 3) x0),(2,aB false),(3,aI ((i:Nat):Int))],[]⟩:St)) (fun i=>(i≤List.length x0∧allTo1 isEl x0 0 i)) (fun i=>List.length x0 - i) (0) h (st_congr1 (fun (d0:Int)=>(⟨[(0,aF (.int 3) x0),(2,aB false),(3,aI d0)],[]⟩:St)) (show (0:Int)=(((0):Nat):Int) from by first | with_reducible rfl | (rfl) | rfl)) (by exact ⟨Nat.zero_le _,allTo1_zero⟩) ?_
 intro i a w hok0 h
 refine wp_seq (wp_seq ?_)
 refine at_regq [] { ts:=[0,2,3,7],os:=[] } [] gamOK hT h (by kernel_rfl) trivial fun a w h=>then_normal ?_
 refine at_test (decide (((i:Nat):Int) < ((List.length x0:Nat):Int))) h (by kernel_rfl) (fun h1=>?_) (fun h1=>?_)
 ·replace h1 : ((i : Nat) : Int) < ((List.length x0 : Nat) : Int) := of_decide_eq_true h1
  refine wp_skip (then_normal (wp_seq (wp_block (wp_seq ?_))))
  refine at_regq [] { ts:=[0,2,3,15],os:=[] } [(0:Int)≤((i:Nat):Int)∧((i:Nat):Int) < ((List.length x0:Nat):Int),True] gamOK hT h (by kernel_rfl) ⟨(by refine ⟨?_,?_⟩<;>(first | omega | (simp only [lsA];omega) | (simp<;>omega))),trivial,trivial⟩ fun a w h=>then_normal ?_
  refine at_test (!(isEl (x0.getD i 0))) h (by kernel_rfl) (fun h2=>?_) (fun h2=>?_)
  ·replace h2 : (isEl (x0.getD i 0)) = false := notT h2
   refine wp_seq ?_
   refine at_regq [] { ts:=[0,2,3],os:=[] } [] gamOK hT h (by kernel_rfl) trivial fun a w h=>then_normal (wp_ret (in_ret (then_ret ?_)))
   have hs3:(List.all x0 isEl)=false:=by exact all_at (z:=0) (i:=i) (by omega) (by first | assumption | (simp_all;done))
   refine then_ret (in_ret (then_ret ?_))
   exact at_return (false,()) [] h (by kernel_rfl) trivial (congrArg (fun z=>(z,())) (show (false)=validV x0 from by first | rfl | (unfold validV;rw [if_neg (neT hs3)];done) | (unfold validV;simp_all)))
  ·replace h2 : (isEl (x0.getD i 0)) = true := notF h2
   have hvh2:=isEl_t h2
   refine wp_skip (in_normal (then_normal ?_))
   refine at_regq [{},{ nw:=true }] { ts:=[0,2,3],os:=[] } [I64 (((i:Nat):Int)+1)] gamOK hT h (by kernel_rfl) ⟨⟨by first | omega | (simp only [lsA];omega) | (simp<;>omega),by first | omega | (simp only [lsA];omega) | (simp<;>omega)⟩,trivial⟩ fun a w h=>?_
   replace h:=at_out (σ':=⟨[(0,aF (.int 3) x0),(2,aB false),(3,aI (((i:Nat):Int)+1))],[]⟩) { ts:=[0,2,3],os:=[] } h (by kernel_rfl)
   exact ⟨i+1,at_eq h (st_congr1 (fun (d0:Int)=>(⟨[(0,aF (.int 3) x0),(2,aB false),(3,aI d0)],[]⟩:St)) (show (((i:Nat):Int)+1:Int)=(((i+1):Nat):Int) from by first | with_reducible rfl | (omega) | rfl)),(by exact ⟨by omega,allTo1_succ hok0.2 (by first | assumption | (simp_all;done))⟩),(by omega)⟩
 ·replace h1 : ¬ (((i : Nat) : Int) < ((List.length x0 : Nat) : Int)) := of_decide_eq_false h1
  refine wp_exit (then_exit ?_)
  have hs4:(List.all x0 isEl)=true:=by exact all_of (z:=0) (i:=i) (by omega) hok0.2
  refine then_exit (in_hit (then_normal (wp_seq ?_)))
  refine at_regq [] { ts:=[2],os:=[] } [] gamOK hT h (by kernel_rfl) trivial fun a w h=>then_normal (wp_ret ?_)
  exact at_return (decide (((List.length x0:Nat):Int)≤40),()) [] h (by kernel_rfl) trivial (congrArg (fun z=>(z,())) (show (decide (((List.length x0:Nat):Int)≤40))=validV x0 from by first | rfl | (unfold validV;rw [if_pos hs4];done) | (unfold validV;simp_all)))

def D_impl_LeadingIndex_1:=(fun (e:Int)=>!decide (e=0))
def S_impl_LeadingIndex_1:Sum:={ fid:=142,dom:=[(.int 3)],cod:=[(.bool 4)],dp:=true,fz:=false,pre:=fun x=>True,g:=fun x=>((D_impl_LeadingIndex_1 x.1),()) }
def S_impl_LeadingIndex_1_tab:List (Nat×Sum):=[]
theorem S_impl_LeadingIndex_1_ok:FnOK Try.prog 142 S_impl_LeadingIndex_1:=by
 refine at_enter 5 (fun x=>⟨[(0,aI x.1)],[]⟩) Try.func142 rfl (by kernel_rfl) (fun x=>rfl) ?_
 rintro w0 Z0 ⟨x0,u⟩ a w
 revert x0
 intro (x0:Int) hpre hlens h
 have hT:TabOK Try.prog S_impl_LeadingIndex_1_tab:=.nil
 refine wp_seq ?_
 refine at_regq [] { ts:=[0,2],os:=[] } [] gamOK hT h (by kernel_rfl) trivial fun a w h=>then_normal (wp_seq ?_)
 refine at_regq [] { ts:=[2],os:=[] } [] gamOK hT h (by kernel_rfl) trivial fun a w h=>then_normal (wp_ret ?_)
 exact at_return (!decide (x0=0),()) [] h (by kernel_rfl) trivial (congrArg (fun z=>(z,())) (show (!decide (x0=0))=D_impl_LeadingIndex_1 x0 from by unfold D_impl_LeadingIndex_1;rfl))

def D_slices_IndexFunc_S_int_int__LeadingIndex_1:=(fun (xs:List Int) (cap:Unit)=>idxF (fun e=>!decide (e=0)) xs)
def S_slices_IndexFunc_S_int_int__LeadingIndex_1:Sum:={ fid:=140,dom:=[s22,(.fn0 142)],cod:=[(.int 3)],dp:=true,fz:=false,pre:=fun x=>True,g:=fun x=>((D_slices_IndexFunc_S_int_int__LeadingIndex_1 x.1 x.2.1),()) }
def S_slices_IndexFunc_S_int_int__LeadingIndex_1_tab:List (Nat×Sum):=[(142,S_impl_LeadingIndex_1)]
theorem S_slices_IndexFunc_S_int_int__LeadingIndex_1_ok:FnOK Try.prog 140 S_slices_IndexFunc_S_int_int__LeadingIndex_1:=by
 refine at_enter 19 (fun x=>⟨[(0,aF (.int 3) x.1),(1,.p (.c (.cl 142 .cnil)))],[]⟩) Try.func140 rfl (by kernel_rfl) (fun x=>rfl) ?_
 rintro w0 Z0 ⟨x0,x1,u⟩ a w
 revert x0 x1
 intro (x0:(List Int)) (x1:Unit) hpre hlens h
 have hl1:List.length x0≤9223372036854775807:=hlens.1.1
 have hT:TabOK Try.prog S_slices_IndexFunc_S_int_int__LeadingIndex_1_tab:=(.cons S_impl_LeadingIndex_1_ok .nil)
 refine wp_seq ?_
 refine at_regq [] { ts:=[0,1,4],os:=[] } [] gamOK hT h (by kernel_rfl) trivial fun a w h=>then_normal (wp_seq (wp_seq ?_))
 refine at_regq [] { ts:=[0,1,4,7,8],os:=[] } [] gamOK hT h (by kernel_rfl) trivial fun a w h=>then_normal (wp_block ?_)
 replace h:=at_out (σ':=⟨[(0,aF (.int 3) x0),(1,.p (.c (.cl 142 .cnil))),(4,aI 0),(7,aI ((List.length x0:Nat):Int)),(8,aI 0)],[]⟩) { ts:=[0,1,4,7,8],os:=[] } h (by kernel_rfl)
 refine at_loop (fun i:Nat=>(⟨[(0,aF (.int 3) x0),(1,.p (.c (.cl 142 .cnil))),(4,aI 0),(7,aI ((List.length x0:Nat):Int)),(8,aI ((i:Nat):Int))],[]⟩:St)) (fun i=>(i≤List.length x0∧noneTo (fun e=>!decide (e=0)) x0 0 i)) (fun i=>List.length x0 - i) (0) h (st_congr1 (fun (d0:Int)=>(⟨[(0,aF (.int 3) x0),(1,.p (.c (.cl 142 .cnil))),(4,aI 0),(7,aI ((List.length x0:Nat):Int)),(8,aI d0)],[]⟩:St)) (show (0:Int)=(((0):Nat):Int) from by first | with_reducible rfl | (rfl) | rfl)) (by exact ⟨Nat.zero_le _,noneTo_zero⟩) ?_
 intro i a w hok0 h
 refine wp_seq ?_
 refine at_regq [] { ts:=[0,1,4,7,8,9],os:=[] } [] gamOK hT h (by kernel_rfl) trivial fun a w h=>then_normal (wp_seq ?_)
 refine at_test (decide (((i:Nat):Int) < ((List.length x0:Nat):Int))) h (by kernel_rfl) (fun h1=>?_) (fun h1=>?_)
 ·replace h1 : ((i : Nat) : Int) < ((List.length x0 : Nat) : Int) := of_decide_eq_true h1
  refine wp_skip (then_normal (wp_seq (wp_block (wp_seq ?_))))
  refine at_regq [] { ts:=[0,1,4,5,7,8],os:=[] } [] gamOK hT h (by kernel_rfl) trivial fun a w h=>then_normal (wp_seq ?_)
  refine at_regq [] { ts:=[0,1,4,5,7,8,16],os:=[] } [(0:Int)≤((i:Nat):Int)∧((i:Nat):Int) < ((List.length x0:Nat):Int),True] gamOK hT h (by kernel_rfl) ⟨(by refine ⟨?_,?_⟩<;>(first | omega | (simp only [lsA];omega) | (simp<;>omega))),trivial,trivial⟩ fun a w h=>then_normal ?_
  refine at_test ((D_impl_LeadingIndex_1 (x0.getD i 0))) h (by kernel_rfl) (fun h2=>?_) (fun h2=>?_)
  ·refine wp_seq ?_
   refine at_regq [] { ts:=[0,1,4,7,8],os:=[] } [] gamOK hT h (by kernel_rfl) trivial fun a w h=>then_normal (wp_ret (in_ret (then_ret (then_ret (in_ret (then_ret ?_))))))
   exact at_return (((i:Nat):Int),()) [] h (by kernel_rfl) trivial (congrArg (fun z=>(z,())) (show (((i:Nat):Int))=D_slices_IndexFunc_S_int_int__LeadingIndex_1 x0 x1 from by unfold D_slices_IndexFunc_S_int_int__LeadingIndex_1;exact (idxF_at (z:=0) (by omega) hok0.2 h2).symm))
  ·refine wp_skip (in_normal (then_normal ?_))
   refine at_regq [{ nw:=true }] { ts:=[0,1,4,7,8],os:=[] } [I64 (((i:Nat):Int)+1)] gamOK hT h (by kernel_rfl) ⟨⟨by first | omega | (simp only [lsA];omega) | (simp<;>omega),by first | omega | (simp only [lsA];omega) | (simp<;>omega)⟩,trivial⟩ fun a w h=>?_
   replace h:=at_out (σ':=⟨[(0,aF (.int 3) x0),(1,.p (.c (.cl 142 .cnil))),(4,aI 0),(7,aI ((List.length x0:Nat):Int)),(8,aI (((i:Nat):Int)+1))],[]⟩) { ts:=[0,1,4,7,8],os:=[] } h (by kernel_rfl)
   exact ⟨i+1,at_eq h (st_congr1 (fun (d0:Int)=>(⟨[(0,aF (.int 3) x0),(1,.p (.c (.cl 142 .cnil))),(4,aI 0),(7,aI ((List.length x0:Nat):Int)),(8,aI d0)],[]⟩:St)) (show (((i:Nat):Int)+1:Int)=(((i+1):Nat):Int) from by first | with_reducible rfl | (omega) | rfl)),(by exact ⟨by omega,noneTo_succ hok0.2 h2⟩),(by omega)⟩
 ·replace h1 : ¬ (((i : Nat) : Int) < ((List.length x0 : Nat) : Int)) := of_decide_eq_false h1
  refine wp_exit (then_exit (then_exit (in_hit (then_normal (wp_seq ?_)))))
  refine at_regq [] { ts:=[4],os:=[] } [] gamOK hT h (by kernel_rfl) trivial fun a w h=>then_normal (wp_ret ?_)
  exact at_return ((-1),()) [] h (by kernel_rfl) trivial (congrArg (fun z=>(z,())) (show ((-1))=D_slices_IndexFunc_S_int_int__LeadingIndex_1 x0 x1 from by unfold D_slices_IndexFunc_S_int_int__LeadingIndex_1;exact (idxF_none (z:=0) (by omega) hok0.2).symm))

abbrev Q_impl_LeadingIndex:=(fun (x0:(List Int))=>Sh.fit s22 x0)
def S_impl_LeadingIndex:Sum:={ fid:=116,dom:=[s22],cod:=[(.int 3)],dp:=true,fz:=false,pre:=fun x=>Q_impl_LeadingIndex x.1,g:=fun x=>((LA.leadS x.1),()) }
def S_impl_LeadingIndex_tab:List (Nat×Sum):=[(100003,S_slices_IndexFunc_S_int_int__LeadingIndex_1)]
theorem S_impl_LeadingIndex_ok:FnOK Try.prog 116 S_impl_LeadingIndex:=by
 refine at_enter 5 (fun x=>⟨[(0,aF (.int 3) x.1)],[]⟩) Try.func116 rfl (by kernel_rfl) (fun x=>rfl) ?_
 rintro w0 Z0 ⟨x0,u⟩ a w
 revert x0
 intro (x0:(List Int)) hpre hlens h
 replace hpre:Q_impl_LeadingIndex x0:=hpre
 have hT:TabOK Try.prog S_impl_LeadingIndex_tab:=(.cons S_slices_IndexFunc_S_int_int__LeadingIndex_1_ok .nil)
 have hf0:Sh.fit s22 x0:=hpre
 have hn0_1:List.length x0≤1073741824:=hf0.1
 refine wp_seq ?_
 refine at_regq [] { ts:=[0,2],os:=[] } [] gamOK hT h (by kernel_rfl) trivial fun a w h=>then_normal (wp_seq ?_)
 refine at_regq [{},{ key:=some 100003 }] { ts:=[2],os:=[] } [True] gamOK hT h (by kernel_rfl) ⟨trivial,trivial⟩ fun a w h=>then_normal (wp_ret ?_)
 exact at_return ((D_slices_IndexFunc_S_int_int__LeadingIndex_1 x0 ()),()) [] h (by kernel_rfl) trivial (congrArg (fun z=>(z,())) (show ((D_slices_IndexFunc_S_int_int__LeadingIndex_1 x0 ()))=LA.leadS x0 from by exact lead_idx))

abbrev Q_impl_addScaled:=(fun (x0:(List Int)) (x1:(List Int)) (x2:Int)=>Sh.fit s22 x0∧Sh.fit s22 x1∧addOK x0 x1 x2)
def S_impl_addScaled:Sum:={ fid:=149,dom:=[s22,s22,(.int 3)],cod:=[],dp:=true,fz:=false,pre:=fun x=>Q_impl_addScaled x.1 x.2.1 x.2.2.1,g:=fun x=>(),kinds:=[.io,.rd,.rd],upd:=fun x=>(LA.addS x.1 x.2.1 x.2.2.1,(x.2.1,(x.2.2.1,()))),ali:=some 0 }
def S_impl_addScaled_tab:List (Nat×Sum):=[]
theorem S_impl_addScaled_ok:FnOK Try.prog 149 S_impl_addScaled:=by
 refine at_enterI 30 [1] [2] (fun us x=>⟨[(0,aS 1),(1,aF (.int 3) x.2.1),(2,aI x.2.2.1)],[(1,oR (.int 3) x.1),(2,oP 1 (S_impl_addScaled.hd us 0))]⟩) Try.func149 rfl (by kernel_rfl) (fun us x=>rfl) ?_
 rintro w0 Z0 us ⟨x0,x1,x2,u⟩ L a w
 revert x0 x1 x2
 intro (x0:(List Int)) (x1:(List Int)) (x2:Int) hio hpre hlens h
 replace h:At w0 Z0 L 30 ⟨[(0,aS 1),(1,aF (.int 3) x1),(2,aI x2)],[(1,oR (.int 3) x0),(2,oP 1 (S_impl_addScaled.hd us 0))]⟩ a w:=h
 replace hpre:Q_impl_addScaled x0 x1 x2:=hpre
 have hT:TabOK Try.prog S_impl_addScaled_tab:=.nil
 obtain ⟨hf0,hf1,hpx⟩:=hpre
 have hn0_1:List.length x0≤1073741824:=hf0.1
 have hn1_2:List.length x1≤1073741824:=hf1.1
 have hk:=hpx.1
 have hk2:=hpx.2.1
 refine wp_seq ?_
 refine at_regq [] { ts:=[0,1,2,6],os:=[1,2] } [] gamOK hT h (by kernel_rfl) trivial fun a w h=>then_normal (wp_seq (wp_seq ?_))
 refine at_regq [] { ts:=[0,2,6,9,10,11],os:=[1,2] } [] gamOK hT h (by kernel_rfl) trivial fun a w h=>then_normal (wp_block ?_)
 replace h:=at_out (σ':=⟨[(0,aS 1),(2,aI x2),(6,.p (.c (cN))),(9,aF (.int 3) x1),(10,aI ((List.length x1:Nat):Int)),(11,aI 0)],[(1,oR (.int 3) x0),(2,oP 1 (S_impl_addScaled.hd us 0))]⟩) { ts:=[0,2,6,9,10,11],os:=[1,2] } h (by kernel_rfl)
 refine at_loop (fun i:Nat=>(⟨[(0,aS 1),(2,aI x2),(6,.p (.c (cN))),(9,aF (.int 3) x1),(10,aI ((List.length x1:Nat):Int)),(11,aI ((i:Nat):Int))],[(1,oR (.int 3) (addTo x0 x1 x2 i)),(2,oP 1 (S_impl_addScaled.hd us 0))]⟩:St)) (fun i=>i≤List.length x1) (fun i=>List.length x1 - i) (0) h (st_congr2 (fun (d0:List Int) (d1:Int)=>(⟨[(0,aS 1),(2,aI x2),(6,.p (.c (cN))),(9,aF (.int 3) x1),(10,aI ((List.length x1:Nat):Int)),(11,aI d1)],[(1,oR (.int 3) d0),(2,oP 1 (S_impl_addScaled.hd us 0))]⟩:St)) (show (x0:List Int)=(addTo x0 x1 x2 (0)) from by first | with_reducible rfl | (rfl) | rfl) (show (0:Int)=(((0):Nat):Int) from by first | with_reducible rfl | (rfl) | rfl)) (by omega) ?_
 intro i a w hok0 h
 have hal:=addTo_len (k:=x2) (i:=i) hpx.1 (by omega)
 refine wp_seq ?_
 refine at_regq [] { ts:=[0,2,6,9,10,11,12],os:=[1,2] } [] gamOK hT h (by kernel_rfl) trivial fun a w h=>then_normal (wp_seq ?_)
 refine at_test (decide (((i:Nat):Int) < ((List.length x1:Nat):Int))) h (by kernel_rfl) (fun h1=>?_) (fun h1=>?_)
 ·replace h1 : ((i : Nat) : Int) < ((List.length x1 : Nat) : Int) := of_decide_eq_true h1
  have hb1:=hpx.2.2.1 i
  have hb2:=hpx.2.2.2 i
  have hag:=addTo_get (k:=x2) hpx.1 (show i < List.length x0 by have:=hpx.1;omega)
  refine wp_skip (then_normal (wp_seq (wp_block (wp_seq ?_))))
  refine at_regq [] { ts:=[0,2,6,7,8,9,10,11],os:=[1,2] } [(0:Int)≤((i:Nat):Int)∧((i:Nat):Int) < ((List.length x1:Nat):Int)] gamOK hT h (by kernel_rfl) ⟨(by refine ⟨?_,?_⟩<;>(first | omega | (simp only [lsA];omega) | (simp<;>omega))),trivial⟩ fun a w h=>then_normal ?_
  refine at_regq [{},{},{},{},{},{},{},{},{ nw:=true },{ nw:=true }] { ts:=[0,2,6,9,10,11],os:=[1,2] } [(0:Int)≤((i:Nat):Int)∧((i:Nat):Int) < ((List.length (addTo x0 x1 x2 i):Nat):Int),i < List.length (addTo x0 x1 x2 i),I64 (x2*(x1.getD i 0)),I64 (((addTo x0 x1 x2 i).getD i 0)+(x2*(x1.getD i 0))),(1019:Int)≠0,(0:Int)≤((i:Nat):Int)∧((i:Nat):Int) < ((List.length (addTo x0 x1 x2 i):Nat):Int),i < List.length (addTo x0 x1 x2 i)] gamOK hT h (by kernel_rfl) ⟨(by refine ⟨?_,?_⟩<;>(first | omega | (simp only [lsA];omega) | (simp<;>omega))),(by first | omega | (simp only [lsA];omega) | (simp<;>omega)),⟨by (have hA0:=mul_f x2 (x1.getD i 0);first | omega | (simp only [lsA];omega) | (simp<;>omega)),by (have hA0:=mul_f x2 (x1.getD i 0);first | omega | (simp only [lsA];omega) | (simp<;>omega))⟩,⟨by (have hA0:=mul_f x2 (x1.getD i 0);first | omega | (simp only [lsA];omega) | (simp<;>omega)),by (have hA0:=mul_f x2 (x1.getD i 0);first | omega | (simp only [lsA];omega) | (simp<;>omega))⟩,(by first | omega | (simp only [lsA];omega) | (simp<;>omega)),(by refine ⟨?_,?_⟩<;>(first | omega | (simp only [lsA];omega) | (simp<;>omega))),(by first | omega | (simp only [lsA];omega) | (simp<;>omega)),trivial⟩ fun a w h=>in_normal (then_normal ?_)
  refine at_regq [{ nw:=true }] { ts:=[0,2,6,9,10,11],os:=[1,2] } [I64 (((i:Nat):Int)+1)] gamOK hT h (by kernel_rfl) ⟨⟨by first | omega | (simp only [lsA];omega) | (simp<;>omega),by first | omega | (simp only [lsA];omega) | (simp<;>omega)⟩,trivial⟩ fun a w h=>?_
  replace h:=at_out (σ':=⟨[(0,aS 1),(2,aI x2),(6,.p (.c (cN))),(9,aF (.int 3) x1),(10,aI ((List.length x1:Nat):Int)),(11,aI (((i:Nat):Int)+1))],[(1,oR (.int 3) (List.set (addTo x0 x1 x2 i) i (Int.tmod (((addTo x0 x1 x2 i).getD i 0)+(x2*(x1.getD i 0))) 1019))),(2,oP 1 (S_impl_addScaled.hd us 0))]⟩) { ts:=[0,2,6,9,10,11],os:=[1,2] } h (by kernel_rfl)
  exact ⟨i+1,at_eq h (st_congr2 (fun (d0:List Int) (d1:Int)=>(⟨[(0,aS 1),(2,aI x2),(6,.p (.c (cN))),(9,aF (.int 3) x1),(10,aI ((List.length x1:Nat):Int)),(11,aI d1)],[(1,oR (.int 3) d0),(2,oP 1 (S_impl_addScaled.hd us 0))]⟩:St)) (show ((List.set (addTo x0 x1 x2 i) i (Int.tmod (((addTo x0 x1 x2 i).getD i 0)+(x2*(x1.getD i 0))) 1019)):List Int)=(addTo x0 x1 x2 (i+1)) from by first | with_reducible rfl | ((rw [hag];exact addTo_set hpx.1 (by omega))) | rfl) (show (((i:Nat):Int)+1:Int)=(((i+1):Nat):Int) from by first | with_reducible rfl | (omega) | rfl)),(by omega),(by omega)⟩
 ·replace h1 : ¬ (((i : Nat) : Int) < ((List.length x1 : Nat) : Int)) := of_decide_eq_false h1
  refine wp_exit (then_exit (then_exit (in_hit (then_normal (wp_seq ?_)))))
  refine at_regq [] { ts:=[6],os:=[1,2] } [] gamOK hT h (by kernel_rfl) trivial fun a w h=>then_normal (wp_ret ?_)
  exact at_returnI (S:=S_impl_addScaled) (x:=(x0,x1,x2,())) [1] [2] ((addTo x0 x1 x2 i),(x1,(x2,()))) none [S_impl_addScaled.hd us 0=S_impl_addScaled.hd us 0] hio h (by kernel_rfl) ⟨rfl,trivial⟩ (by first | rfl | exact congrArg (fun (z:(List Int))=>(z,(x1,(x2,())))) (show ((addTo x0 x1 x2 i):(List Int))=LA.addS x0 x1 x2 from by (exact addTo_all hpx.1 (by omega)))) (fun z e=>nomatch e)

abbrev Q_impl_ScaleVector:=(fun (x0:(List Int)) (x1:Int)=>Sh.fit s22 x0)
def S_impl_ScaleVector:Sum:={ fid:=147,dom:=[s22,(.int 3)],cod:=[s22],dp:=true,fz:=false,pre:=fun x=>Q_impl_ScaleVector x.1 x.2.1,g:=fun x=>((scaleV x.1 x.2.1),()) }
def S_impl_ScaleVector_tab:List (Nat×Sum):=[(117,S_impl_IsValidVector),(143,S_impl_IsElement),(149,S_impl_addScaled)]
theorem S_impl_ScaleVector_ok:FnOK Try.prog 147 S_impl_ScaleVector:=by
 refine at_enter 19 (fun x=>⟨[(0,aF (.int 3) x.1),(1,aI x.2.1)],[]⟩) Try.func147 rfl (by kernel_rfl) (fun x=>rfl) ?_
 rintro w0 Z0 ⟨x0,x1,u⟩ a w
 revert x0 x1
 intro (x0:(List Int)) (x1:Int) hpre hlens h
 replace hpre:Q_impl_ScaleVector x0 x1:=hpre
 have hT:TabOK Try.prog S_impl_ScaleVector_tab:=(.cons S_impl_IsValidVector_ok (.cons S_impl_IsElement_ok (.cons S_impl_addScaled_ok .nil)))
 have hf0:Sh.fit s22 x0:=hpre
 have hn0_1:List.length x0≤1073741824:=hf0.1
 refine wp_seq ?_
 refine at_regq [] { ts:=[0,1,4],os:=[] } [] gamOK hT h (by kernel_rfl) trivial fun a w h=>then_normal (wp_seq (wp_seq ?_))
 rcases Bool.eq_false_or_eq_true (!(validV x0)) with h1 | h1
 ·have hzh1 : (validV x0) = false := notT h1
  refine at_regq [{},{},{ hint:=some (aB true) }] { ts:=[0,1,4,12],os:=[] } [Q_impl_IsValidVector x0,(AV.p (.c (.v (.bool (!(validV x0)))))=AV.p (.c (.v (.bool true))))] gamOK hT h (by kernel_rfl) ⟨(by exact hf0),hint_bool (h1),trivial⟩ fun a w h=>then_normal ?_
  refine at_test true h (by kernel_rfl) (fun hh=>?_) (fun hh=>nomatch hh)
  refine wp_seq ?_
  refine at_regq [] { ts:=[0,1,4],os:=[] } [] gamOK hT h (by kernel_rfl) trivial fun a w h=>then_normal (wp_ret (then_ret ?_))
  exact at_return (([]:List Int),()) [] h (by kernel_rfl) trivial (congrArg (fun z=>(z,())) (show (([]:List Int))=scaleV x0 x1 from by (unfold scaleV;first | (rw [if_pos ⟨by assumption,by assumption⟩];exact addS_zero) | (rw [if_neg (by simp_all)];done))))
 ·have hzh1 : (validV x0) = true := notF h1
  have hvh1:=validV_t (notF h1)
  refine at_regq [{},{},{ hint:=some (aB false) }] { ts:=[0,1,4,12],os:=[] } [Q_impl_IsValidVector x0,(AV.p (.c (.v (.bool (!(validV x0)))))=AV.p (.c (.v (.bool false)))),True] gamOK hT h (by kernel_rfl) ⟨(by exact hf0),hint_bool (h1),trivial,trivial⟩ fun a w h=>then_normal ?_
  refine at_test (!(isEl x1)) h (by kernel_rfl) (fun h2=>?_) (fun h2=>?_)
  ·replace h2 : (isEl x1) = false := notT h2
   refine wp_seq ?_
   refine at_regq [] { ts:=[0,1,4],os:=[] } [] gamOK hT h (by kernel_rfl) trivial fun a w h=>then_normal (wp_ret (then_ret ?_))
   exact at_return (([]:List Int),()) [] h (by kernel_rfl) trivial (congrArg (fun z=>(z,())) (show (([]:List Int))=scaleV x0 x1 from by (unfold scaleV;first | (rw [if_pos ⟨by assumption,by assumption⟩];exact addS_zero) | (rw [if_neg (by simp_all)];done))))
  ·replace h2 : (isEl x1) = true := notF h2
   have hvh2:=isEl_t h2
   refine wp_skip (then_normal (wp_seq ?_))
   refine at_regq [{},{},{ ids:=[1] }] { ts:=[4],os:=[1] } [(0:Int)≤((List.length x0:Nat):Int)∧((List.length x0:Nat):Int)=((List.length x0:Nat):Int)∧((List.length x0:Nat):Int)*(8:Nat)≤(140737488355328:Int),Q_impl_addScaled (List.replicate (List.length x0) (0:Int)) x0 x1] gamOK hT h (by kernel_rfl) ⟨(by refine ⟨?_,?_,?_⟩<;>((have hA0:=mul_f ((List.length x0:Nat):Int) (8:Nat);first | omega | (simp only [lsA];omega) | (simp<;>omega)))),(by (refine ⟨Sh.fit_len rfl (by simp;omega),hf0,?_⟩;exact ⟨by simp,by omega,fun j=>by rw [rep_get];omega,(validV_t (by assumption)).2.2⟩)),trivial⟩ fun a w h=>then_normal (wp_ret ?_)
   exact at_return ((LA.addS (List.replicate (List.length x0) (0:Int)) x0 x1),()) [] h (by kernel_rfl) trivial (congrArg (fun z=>(z,())) (show ((LA.addS (List.replicate (List.length x0) (0:Int)) x0 x1))=scaleV x0 x1 from by (unfold scaleV;first | (rw [if_pos ⟨by assumption,by assumption⟩];exact addS_zero) | (rw [if_neg (by simp_all)];done))))

abbrev Q_spec_ScaleVector:=(fun (x0:(List Int)) (x1:Int)=>Sh.fit s22 x0)
def S_spec_ScaleVector:Sum:={ fid:=161,dom:=[s22,(.int 3)],cod:=[s22],dp:=true,fz:=false,pre:=fun x=>Q_spec_ScaleVector x.1 x.2.1,g:=fun x=>((scaleV x.1 x.2.1),()) }
def S_spec_ScaleVector_tab:List (Nat×Sum):=[(139,S_spec_IsValidVector),(153,S_spec_IsElement)]
theorem S_spec_ScaleVector_ok:FnOK Try.prog 161 S_spec_ScaleVector:=by
 refine at_enter 34 (fun x=>⟨[(0,aF (.int 3) x.1),(1,aI x.2.1)],[]⟩) Try.func161 rfl (by kernel_rfl) (fun x=>rfl) ?_
 rintro w0 Z0 ⟨x0,x1,u⟩ a w
 revert x0 x1
 intro (x0:(List Int)) (x1:Int) hpre hlens h
 replace hpre:Q_spec_ScaleVector x0 x1:=hpre
 have hT:TabOK Try.prog S_spec_ScaleVector_tab:=(.cons S_spec_IsValidVector_ok (.cons S_spec_IsElement_ok .nil))
 have hf0:Sh.fit s22 x0:=hpre
 have hn0_1:List.length x0≤1073741824:=hf0.1
 refine wp_seq ?_
 refine at_regq [] { ts:=[0,1,4],os:=[] } [] gamOK hT h (by kernel_rfl) trivial fun a w h=>then_normal (wp_seq ?_)
 refine at_regq [{ ids:=[1] }] { ts:=[0,1,4,5],os:=[1] } [] gamOK hT h (by kernel_rfl) trivial fun a w h=>then_normal (wp_seq (wp_seq ?_))
 rcases Bool.eq_false_or_eq_true (!(validV x0)) with h1 | h1
 ·have hzh1 : (validV x0) = false := notT h1
  refine at_regq [{},{},{ hint:=some (aB true) }] { ts:=[0,1,4,5,15],os:=[1] } [Q_spec_IsValidVector x0,(AV.p (.c (.v (.bool (!(validV x0)))))=AV.p (.c (.v (.bool true))))] gamOK hT h (by kernel_rfl) ⟨(by exact hf0),hint_bool (h1),trivial⟩ fun a w h=>then_normal ?_
  refine at_test true h (by kernel_rfl) (fun hh=>?_) (fun hh=>nomatch hh)
  refine wp_seq ?_
  refine at_regq [] { ts:=[0,1,4,5],os:=[1] } [] gamOK hT h (by kernel_rfl) trivial fun a w h=>then_normal (wp_ret (then_ret ?_))
  exact at_return (([]:List Int),()) [] h (by kernel_rfl) trivial (congrArg (fun z=>(z,())) (show (([]:List Int))=scaleV x0 x1 from by (unfold scaleV;first | (rw [if_pos ⟨by assumption,by assumption⟩,take_all (by omega)];rfl) | (rw [if_neg (by simp_all)];done))))
 ·have hzh1 : (validV x0) = true := notF h1
  have hvh1:=validV_t (notF h1)
  refine at_regq [{},{},{ hint:=some (aB false) }] { ts:=[0,1,4,5,15],os:=[1] } [Q_spec_IsValidVector x0,(AV.p (.c (.v (.bool (!(validV x0)))))=AV.p (.c (.v (.bool false)))),True] gamOK hT h (by kernel_rfl) ⟨(by exact hf0),hint_bool (h1),trivial,trivial⟩ fun a w h=>then_normal ?_
  refine at_test (!(isEl x1)) h (by kernel_rfl) (fun h2=>?_) (fun h2=>?_)
  ·replace h2 : (isEl x1) = false := notT h2
   refine wp_seq ?_
   refine at_regq [] { ts:=[0,1,4,5],os:=[1] } [] gamOK hT h (by kernel_rfl) trivial fun a w h=>then_normal (wp_ret (then_ret ?_))
   exact at_return (([]:List Int),()) [] h (by kernel_rfl) trivial (congrArg (fun z=>(z,())) (show (([]:List Int))=scaleV x0 x1 from by (unfold scaleV;first | (rw [if_pos ⟨by assumption,by assumption⟩,take_all (by omega)];rfl) | (rw [if_neg (by simp_all)];done))))
  ·replace h2 : (isEl x1) = true := notF h2
   have hvh2:=isEl_t h2
   refine wp_skip (then_normal (wp_seq (wp_seq ?_)))
   refine at_regq [] { ts:=[0,1,4,5,6],os:=[1] } [] gamOK hT h (by kernel_rfl) trivial fun a w h=>then_normal (wp_block ?_)
   replace h:=at_out (σ':=⟨[(0,aF (.int 3) x0),(1,aI x1),(4,.p (.c (cN))),(5,aS 1),(6,aI 0)],[(1,oR (.int 3) ([]:List Int))]⟩) { ts:=[0,1,4,5,6],os:=[1] } h (by kernel_rfl)
   refine at_loop (fun i:Nat=>(⟨[(0,aF (.int 3) x0),(1,aI x1),(4,.p (.c (cN))),(5,aS 1),(6,aI ((i:Nat):Int))],[(1,oR (.int 3) (List.map (scF x1) (List.take i x0)))]⟩:St)) (fun i=>i≤List.length x0) (fun i=>List.length x0 - i) (0) h (st_congr2 (fun (d0:List Int) (d1:Int)=>(⟨[(0,aF (.int 3) x0),(1,aI x1),(4,.p (.c (cN))),(5,aS 1),(6,aI d1)],[(1,oR (.int 3) d0)]⟩:St)) (show (([]:List Int):List Int)=(List.map (scF x1) (List.take (0) x0)) from by first | with_reducible rfl | (first | rfl | simp) | rfl) (show (0:Int)=(((0):Nat):Int) from by first | with_reducible rfl | (first | rfl | simp) | rfl)) (by omega) ?_
   intro i a w hok0 h
   have hlt0:=len_take_le (xs:=x0) i
   refine wp_seq (wp_seq ?_)
   refine at_regq [] { ts:=[0,1,4,5,6,20],os:=[1] } [] gamOK hT h (by kernel_rfl) trivial fun a w h=>then_normal ?_
   refine at_test (decide (((i:Nat):Int) < ((List.length x0:Nat):Int))) h (by kernel_rfl) (fun h3=>?_) (fun h3=>?_)
   ·replace h3 : ((i : Nat) : Int) < ((List.length x0 : Nat) : Int) := of_decide_eq_true h3
    have hx1:=(validV_t (v:=x0) (by assumption)).2.2 i
    refine wp_skip (then_normal (wp_seq (wp_block ?_)))
    refine at_regq [{},{},{},{},{},{},{ nw:=true },{},{ ids:=[2] },{ ids:=[3] }] { ts:=[0,1,4,5,6],os:=[3] } [(0:Int)≤((i:Nat):Int)∧((i:Nat):Int) < ((List.length x0:Nat):Int),I64 ((x0.getD i 0)*x1),(1019:Int)≠0,(List.length (List.map (scF x1) (List.take i x0))+List.length ([(Int.tmod ((x0.getD i 0)*x1) 1019)]))*8≤140737488355328] gamOK hT h (by kernel_rfl) ⟨(by refine ⟨?_,?_⟩<;>(first | omega | (simp only [lsA];omega) | (simp<;>omega))),⟨by (have hA0:=mul_f (x0.getD i 0) x1;first | omega | (simp only [lsA];omega) | (simp<;>omega)),by (have hA0:=mul_f (x0.getD i 0) x1;first | omega | (simp only [lsA];omega) | (simp<;>omega))⟩,(by first | omega | (simp only [lsA];omega) | (simp<;>omega)),(by (have hA0:=mul_f (x0.getD i 0) x1;have hA1:=tmod_f ((x0.getD i 0)*x1) 1019;first | omega | (simp only [lsA];omega) | (simp<;>omega))),trivial⟩ fun a w h=>in_normal (then_normal ?_)
    refine at_regq [{},{ nw:=true }] { ts:=[0,1,4,5,6],os:=[3] } [I64 (((i:Nat):Int)+1)] gamOK hT h (by kernel_rfl) ⟨⟨by first | omega | (simp only [lsA];omega) | (simp<;>omega),by first | omega | (simp only [lsA];omega) | (simp<;>omega)⟩,trivial⟩ fun a w h=>?_
    replace h:=at_out (σ':=⟨[(0,aF (.int 3) x0),(1,aI x1),(4,.p (.c (cN))),(5,aS 1),(6,aI (((i:Nat):Int)+1))],[(1,oR (.int 3) ((List.map (scF x1) (List.take i x0))++([(Int.tmod ((x0.getD i 0)*x1) 1019)])))]⟩) { ts:=[0,1,4,5,6],os:=[3],rn:=[(3,1)] } h (by kernel_rfl)
    exact ⟨i+1,at_eq h (st_congr2 (fun (d0:List Int) (d1:Int)=>(⟨[(0,aF (.int 3) x0),(1,aI x1),(4,.p (.c (cN))),(5,aS 1),(6,aI d1)],[(1,oR (.int 3) d0)]⟩:St)) (show (((List.map (scF x1) (List.take i x0))++([(Int.tmod ((x0.getD i 0)*x1) 1019)])):List Int)=(List.map (scF x1) (List.take (i+1) x0)) from by first | with_reducible rfl | (rw [map_snoc (z:=0) (by omega)];done) | rfl) (show (((i:Nat):Int)+1:Int)=(((i+1):Nat):Int) from by first | with_reducible rfl | (omega) | rfl)),(by omega),(by omega)⟩
   ·replace h3 : ¬ (((i : Nat) : Int) < ((List.length x0 : Nat) : Int)) := of_decide_eq_false h3
    refine wp_exit (then_exit (then_exit (in_hit (then_normal (wp_seq ?_)))))
    refine at_regq [] { ts:=[4],os:=[1] } [] gamOK hT h (by kernel_rfl) trivial fun a w h=>then_normal (wp_ret ?_)
    exact at_return ((List.map (scF x1) (List.take i x0)),()) [] h (by kernel_rfl) trivial (congrArg (fun z=>(z,())) (show ((List.map (scF x1) (List.take i x0)))=scaleV x0 x1 from by (unfold scaleV;first | (rw [if_pos ⟨by assumption,by assumption⟩,take_all (by omega)];rfl) | (rw [if_neg (by simp_all)];done))))

def l5P (x0:(List Int)) (x1:(List Int)):Bool:=(if (validV x0)=true then (if (validV x1)=true then decide (((List.length x0:Nat):Int)=((List.length x1:Nat):Int)) else false) else false)
abbrev Q_spec_l5Pair:=(fun (x0:(List Int)) (x1:(List Int))=>Sh.fit s22 x0∧Sh.fit s22 x1)
def S_spec_l5Pair:Sum:={ fid:=167,dom:=[s22,s22],cod:=[(.bool 4)],dp:=true,fz:=false,pre:=fun x=>Q_spec_l5Pair x.1 x.2.1,g:=fun x=>((l5P x.1 x.2.1),()) }
def S_spec_l5Pair_tab:List (Nat×Sum):=[(139,S_spec_IsValidVector)]
theorem S_spec_l5Pair_ok:FnOK Try.prog 167 S_spec_l5Pair:=by
 refine at_enter 18 (fun x=>⟨[(0,aF (.int 3) x.1),(1,aF (.int 3) x.2.1)],[]⟩) Try.func167 rfl (by kernel_rfl) (fun x=>rfl) ?_
 rintro w0 Z0 ⟨x0,x1,u⟩ a w
 revert x0 x1
 intro (x0:(List Int)) (x1:(List Int)) hpre hlens h
 replace hpre:Q_spec_l5Pair x0 x1:=hpre
 have hT:TabOK Try.prog S_spec_l5Pair_tab:=(.cons S_spec_IsValidVector_ok .nil)
 obtain ⟨hf0,hf1⟩:=hpre
 have hn0_1:List.length x0≤1073741824:=hf0.1
 have hn1_2:List.length x1≤1073741824:=hf1.1
 refine wp_seq ?_
 refine at_regq [] { ts:=[0,1,4],os:=[] } [] gamOK hT h (by kernel_rfl) trivial fun a w h=>then_normal (wp_seq ?_)
 rcases Bool.eq_false_or_eq_true ((validV x0)) with h1 | h1
 ·have hvh1 := validV_t h1
  rcases Bool.eq_false_or_eq_true ((validV x1)) with h2 | h2
  ·have hvh2 := validV_t h2
   refine at_regq [{},{ hint:=some (aB true) },{},{},{ hint:=some (aB true) }] { ts:=[4],os:=[] } [Q_spec_IsValidVector x0,(AV.p (.c (.v (.bool ((validV x0)))))=AV.p (.c (.v (.bool true)))),Q_spec_IsValidVector x1,(AV.p (.c (.v (.bool ((validV x1)))))=AV.p (.c (.v (.bool true))))] gamOK hT h (by kernel_rfl) ⟨(by exact hf0),hint_bool (h1),(by exact hf1),hint_bool (h2),trivial⟩ fun a w h=>then_normal (wp_ret ?_)
   exact at_return (decide (((List.length x0:Nat):Int)=((List.length x1:Nat):Int)),()) [] h (by kernel_rfl) trivial (congrArg (fun z=>(z,())) (show (decide (((List.length x0:Nat):Int)=((List.length x1:Nat):Int)))=l5P x0 x1 from by first | rfl | (unfold l5P;rw [if_pos h1,if_pos h2])))
  ·refine at_regq [{}, { hint := some (aB true) }, {}, {}, { hint := some (aB false) }] { ts := [4], os := [] } [Q_spec_IsValidVector x0, (AV.p (.c (.v (.bool ((validV x0))))) = AV.p (.c (.v (.bool true)))), Q_spec_IsValidVector x1, (AV.p (.c (.v (.bool ((validV x1))))) = AV.p (.c (.v (.bool false))))] gamOK hT h (by kernel_rfl) ⟨(by exact hf0), hint_bool (h1), (by exact hf1), hint_bool (h2), trivial⟩ fun a w h => then_normal (wp_ret ?_)
   exact at_return (false,()) [] h (by kernel_rfl) trivial (congrArg (fun z=>(z,())) (show (false)=l5P x0 x1 from by first | rfl | (unfold l5P;rw [if_pos h1,if_neg (neT h2)])))
 ·refine at_regq [{}, { hint := some (aB false) }] { ts := [4], os := [] } [Q_spec_IsValidVector x0, (AV.p (.c (.v (.bool ((validV x0))))) = AV.p (.c (.v (.bool false))))] gamOK hT h (by kernel_rfl) ⟨(by exact hf0), hint_bool (h1), trivial⟩ fun a w h => then_normal (wp_ret ?_)
  exact at_return (false,()) [] h (by kernel_rfl) trivial (congrArg (fun z=>(z,())) (show (false)=l5P x0 x1 from by first | rfl | (unfold l5P;rw [if_neg (neT h1)])))
theorem l5P_t {a b:List Int} (h:l5P a b=true):validV a=true∧validV b=true∧List.length a=List.length b:=by
 unfold l5P at h
 split at h
 ·split at h
  ·have:=of_decide_eq_true h;exact ⟨by assumption,by assumption,by omega⟩
  ·cases h
 ·cases h
theorem l5P_of {a b:List Int} (h:validV a=true∧validV b=true∧List.length a=List.length b):l5P a b=true:=by
 unfold l5P;rw [if_pos h.1,if_pos h.2.1];exact decide_eq_true (by omega)
theorem l5P_v {a b:List Int} (h:l5P a b=true):(List.length a=List.length b∧List.length a≤40)∧(∀ j,0≤a.getD j 0∧a.getD j 0≤1018)∧(∀ j,0≤b.getD j 0∧b.getD j 0≤1018):=by
 have h:=l5P_t h
 exact ⟨⟨h.2.2,(validV_t h.1).1⟩,(validV_t h.1).2.2,(validV_t h.2.1).2.2⟩
theorem addV_ok {a b:List Int} {k:Int} (ha:validV a=true) (hb:validV b=true) (hl:List.length a=List.length b) (hk:0≤k∧k≤1018):addV a b k=LA.addS a b k:=if_pos ⟨⟨ha,hb,hl⟩,inR_true hk⟩
theorem addV_len (a b:List Int) (k:Int):(addV a b k).length≤a.length:=by unfold addV LA.addS;split<;>simp<;>omega

abbrev Q_spec_AddScaled:=(fun (x0:(List Int)) (x1:(List Int)) (x2:Int)=>Sh.fit s22 x0∧Sh.fit s22 x1)
def S_spec_AddScaled:Sum:={ fid:=163,dom:=[s22,s22,(.int 3)],cod:=[s22],dp:=true,fz:=false,pre:=fun x=>Q_spec_AddScaled x.1 x.2.1 x.2.2.1,g:=fun x=>((addV x.1 x.2.1 x.2.2.1),()) }
def S_spec_AddScaled_tab:List (Nat×Sum):=[(167,S_spec_l5Pair),(153,S_spec_IsElement)]
theorem S_spec_AddScaled_ok:FnOK Try.prog 163 S_spec_AddScaled:=by
 refine at_enter 42 (fun x=>⟨[(0,aF (.int 3) x.1),(1,aF (.int 3) x.2.1),(2,aI x.2.2.1)],[]⟩) Try.func163 rfl (by kernel_rfl) (fun x=>rfl) ?_
 rintro w0 Z0 ⟨x0,x1,x2,u⟩ a w
 revert x0 x1 x2
 intro (x0:(List Int)) (x1:(List Int)) (x2:Int) hpre hlens h
 replace hpre:Q_spec_AddScaled x0 x1 x2:=hpre
 have hT:TabOK Try.prog S_spec_AddScaled_tab:=(.cons S_spec_l5Pair_ok (.cons S_spec_IsElement_ok .nil))
 obtain ⟨hf0,hf1⟩:=hpre
 have hn0_1:List.length x0≤1073741824:=hf0.1
 have hn1_2:List.length x1≤1073741824:=hf1.1
 refine wp_seq ?_
 refine at_regq [] { ts:=[0,1,2,6],os:=[] } [] gamOK hT h (by kernel_rfl) trivial fun a w h=>then_normal (wp_seq ?_)
 refine at_regq [{ ids:=[1] }] { ts:=[0,1,2,6,7],os:=[1] } [] gamOK hT h (by kernel_rfl) trivial fun a w h=>then_normal (wp_seq (wp_seq ?_))
 rcases Bool.eq_false_or_eq_true (!(l5P x0 x1)) with h1 | h1
 ·have hzh1 : (l5P x0 x1) = false := notT h1
  refine at_regq [{},{},{},{ hint:=some (aB true) }] { ts:=[0,1,2,6,7,18],os:=[1] } [Q_spec_l5Pair x0 x1,(AV.p (.c (.v (.bool (!(l5P x0 x1)))))=AV.p (.c (.v (.bool true))))] gamOK hT h (by kernel_rfl) ⟨(by exact ⟨hf0,hf1⟩),hint_bool (h1),trivial⟩ fun a w h=>then_normal ?_
  refine at_test true h (by kernel_rfl) (fun hh=>?_) (fun hh=>nomatch hh)
  refine wp_seq ?_
  refine at_regq [] { ts:=[0,1,2,6,7],os:=[1] } [] gamOK hT h (by kernel_rfl) trivial fun a w h=>then_normal (wp_ret (then_ret ?_))
  exact at_return (([]:List Int),()) [] h (by kernel_rfl) trivial (congrArg (fun z=>(z,())) (show (([]:List Int))=addV x0 x1 x2 from by (unfold addV;first | (have hl:List.length x0=List.length x1:=(l5P_t (by assumption)).2.2;rw [if_pos ⟨l5P_t (by assumption),by assumption⟩,take_all (by rw [LA.addS_len hl];omega)];done) | (rw [if_neg (fun e=>by have:=l5P_of e.1;simp_all)];done))))
 ·have hzh1 : (l5P x0 x1) = true := notF h1
  have hvh1:=l5P_v (notF h1)
  refine at_regq [{},{},{},{ hint:=some (aB false) }] { ts:=[0,1,2,6,7,18],os:=[1] } [Q_spec_l5Pair x0 x1,(AV.p (.c (.v (.bool (!(l5P x0 x1)))))=AV.p (.c (.v (.bool false)))),True] gamOK hT h (by kernel_rfl) ⟨(by exact ⟨hf0,hf1⟩),hint_bool (h1),trivial,trivial⟩ fun a w h=>then_normal ?_
  refine at_test (!(isEl x2)) h (by kernel_rfl) (fun h2=>?_) (fun h2=>?_)
  ·replace h2 : (isEl x2) = false := notT h2
   refine wp_seq ?_
   refine at_regq [] { ts:=[0,1,2,6,7],os:=[1] } [] gamOK hT h (by kernel_rfl) trivial fun a w h=>then_normal (wp_ret (then_ret ?_))
   exact at_return (([]:List Int),()) [] h (by kernel_rfl) trivial (congrArg (fun z=>(z,())) (show (([]:List Int))=addV x0 x1 x2 from by (unfold addV;first | (have hl:List.length x0=List.length x1:=(l5P_t (by assumption)).2.2;rw [if_pos ⟨l5P_t (by assumption),by assumption⟩,take_all (by rw [LA.addS_len hl];omega)];done) | (rw [if_neg (fun e=>by have:=l5P_of e.1;simp_all)];done))))
  ·replace h2 : (isEl x2) = true := notF h2
   have hvh2:=isEl_t h2
   refine wp_skip (then_normal (wp_seq (wp_seq ?_)))
   refine at_regq [] { ts:=[0,1,2,6,7,8],os:=[1] } [] gamOK hT h (by kernel_rfl) trivial fun a w h=>then_normal (wp_block ?_)
   replace h:=at_out (σ':=⟨[(0,aF (.int 3) x0),(1,aF (.int 3) x1),(2,aI x2),(6,.p (.c (cN))),(7,aS 1),(8,aI 0)],[(1,oR (.int 3) ([]:List Int))]⟩) { ts:=[0,1,2,6,7,8],os:=[1] } h (by kernel_rfl)
   refine at_loop (fun i:Nat=>(⟨[(0,aF (.int 3) x0),(1,aF (.int 3) x1),(2,aI x2),(6,.p (.c (cN))),(7,aS 1),(8,aI ((i:Nat):Int))],[(1,oR (.int 3) (List.take i (LA.addS x0 x1 x2)))]⟩:St)) (fun i=>i≤List.length x0) (fun i=>List.length x0 - i) (0) h (st_congr2 (fun (d0:List Int) (d1:Int)=>(⟨[(0,aF (.int 3) x0),(1,aF (.int 3) x1),(2,aI x2),(6,.p (.c (cN))),(7,aS 1),(8,aI d1)],[(1,oR (.int 3) d0)]⟩:St)) (show (([]:List Int):List Int)=(List.take (0) (LA.addS x0 x1 x2)) from by first | with_reducible rfl | (rfl) | rfl) (show (0:Int)=(((0):Nat):Int) from by first | with_reducible rfl | (rfl) | rfl)) (by omega) ?_
   intro i a w hok0 h
   have hlt:=addS_take_le x0 x1 x2 i
   refine wp_seq (wp_seq ?_)
   refine at_regq [] { ts:=[0,1,2,6,7,8,23],os:=[1] } [] gamOK hT h (by kernel_rfl) trivial fun a w h=>then_normal ?_
   refine at_test (decide (((i:Nat):Int) < ((List.length x0:Nat):Int))) h (by kernel_rfl) (fun h3=>?_) (fun h3=>?_)
   ·replace h3 : ((i : Nat) : Int) < ((List.length x0 : Nat) : Int) := of_decide_eq_true h3
    have hx1:=(l5P_v (a:=x0) (b:=x1) (by assumption)).2.1 i
    have hx2:=(l5P_v (a:=x0) (b:=x1) (by assumption)).2.2 i
    refine wp_skip (then_normal (wp_seq (wp_block ?_)))
    refine at_anyq [{},{},{},{},{},{},{},{},{},{},{ nw:=true },{ nw:=true },{},{ ids:=[2] },{ ids:=[3] },{}] { ts:=[0,1,2,6,7,8],os:=[3] } [(0:Int)≤((i:Nat):Int)∧((i:Nat):Int) < ((List.length x0:Nat):Int),(0:Int)≤((i:Nat):Int)∧((i:Nat):Int) < ((List.length x1:Nat):Int),I64 ((x1.getD i 0)*x2),I64 ((x0.getD i 0)+((x1.getD i 0)*x2)),(1019:Int)≠0,(List.length (List.take i (LA.addS x0 x1 x2))+List.length ([(Int.tmod ((x0.getD i 0)+((x1.getD i 0)*x2)) 1019)]))*8≤140737488355328] gamOK hT mixed h (by kernel_rfl) ⟨(by refine ⟨?_,?_⟩<;>(first | omega | (simp only [lsA];omega) | (simp<;>omega))),(by refine ⟨?_,?_⟩<;>(first | omega | (simp only [lsA];omega) | (simp<;>omega))),⟨by (have hA0:=mul_f (x1.getD i 0) x2;first | omega | (simp only [lsA];omega) | (simp<;>omega)),by (have hA0:=mul_f (x1.getD i 0) x2;first | omega | (simp only [lsA];omega) | (simp<;>omega))⟩,⟨by (have hA0:=mul_f (x1.getD i 0) x2;first | omega | (simp only [lsA];omega) | (simp<;>omega)),by (have hA0:=mul_f (x1.getD i 0) x2;first | omega | (simp only [lsA];omega) | (simp<;>omega))⟩,(by first | omega | (simp only [lsA];omega) | (simp<;>omega)),(by (have hA0:=mul_f (x1.getD i 0) x2;have hA1:=tmod_f ((x0.getD i 0)+((x1.getD i 0)*x2)) 1019;have hL2:=(show List.length (List.take i (LA.addS x0 x1 x2))≤1073741824 from ((Sh.fit_take (Sh.fit_len (t:=22) (s:=.int 3) rfl (by simp [LA.addS];omega)) i)).1);first | omega | (simp only [lsA];omega) | (simp<;>omega))),trivial⟩ fun a w h=>in_normal (then_normal ?_)
    refine at_regq [{},{ nw:=true }] { ts:=[0,1,2,6,7,8],os:=[3] } [I64 (((i:Nat):Int)+1)] gamOK hT h (by kernel_rfl) ⟨⟨by first | omega | (simp only [lsA];omega) | (simp<;>omega),by first | omega | (simp only [lsA];omega) | (simp<;>omega)⟩,trivial⟩ fun a w h=>?_
    replace h:=at_out (σ':=⟨[(0,aF (.int 3) x0),(1,aF (.int 3) x1),(2,aI x2),(6,.p (.c (cN))),(7,aS 1),(8,aI (((i:Nat):Int)+1))],[(1,oR (.int 3) ((List.take i (LA.addS x0 x1 x2))++([(Int.tmod ((x0.getD i 0)+((x1.getD i 0)*x2)) 1019)])))]⟩) { ts:=[0,1,2,6,7,8],os:=[3],rn:=[(3,1)] } h (by kernel_rfl)
    exact ⟨i+1,at_eq h (st_congr2 (fun (d0:List Int) (d1:Int)=>(⟨[(0,aF (.int 3) x0),(1,aF (.int 3) x1),(2,aI x2),(6,.p (.c (cN))),(7,aS 1),(8,aI d1)],[(1,oR (.int 3) d0)]⟩:St)) (show (((List.take i (LA.addS x0 x1 x2))++([(Int.tmod ((x0.getD i 0)+((x1.getD i 0)*x2)) 1019)])):List Int)=(List.take (i+1) (LA.addS x0 x1 x2)) from by first | with_reducible rfl | ((have hl:List.length x0=List.length x1:=(l5P_t (by assumption)).2.2;rw [take_snoc (z:=0) (by rw [LA.addS_len hl];omega),LA.addS_at hl,Int.mul_comm];done)) | rfl) (show (((i:Nat):Int)+1:Int)=(((i+1):Nat):Int) from by first | with_reducible rfl | (omega) | rfl)),(by omega),(by omega)⟩
   ·replace h3 : ¬ (((i : Nat) : Int) < ((List.length x0 : Nat) : Int)) := of_decide_eq_false h3
    refine wp_exit (then_exit (then_exit (in_hit (then_normal (wp_seq ?_)))))
    refine at_regq [] { ts:=[6],os:=[1] } [] gamOK hT h (by kernel_rfl) trivial fun a w h=>then_normal (wp_ret ?_)
    exact at_return ((List.take i (LA.addS x0 x1 x2)),()) [] h (by kernel_rfl) trivial (congrArg (fun z=>(z,())) (show ((List.take i (LA.addS x0 x1 x2)))=addV x0 x1 x2 from by (unfold addV;first | (have hl:List.length x0=List.length x1:=(l5P_t (by assumption)).2.2;rw [if_pos ⟨l5P_t (by assumption),by assumption⟩,take_all (by rw [LA.addS_len hl];omega)];done) | (rw [if_neg (fun e=>by have:=l5P_of e.1;simp_all)];done))))

abbrev Q_spec_l6Copy:=(fun (x0:(List (List Int)))=>Sh.fit s66 x0)
def S_spec_l6Copy:Sum:={ fid:=103,dom:=[s66],cod:=[s66],dp:=false,fz:=false,pre:=fun x=>Q_spec_l6Copy x.1,g:=fun x=>(((idD s66) x.1),()) }
def S_spec_l6Copy_tab:List (Nat×Sum):=[]
theorem S_spec_l6Copy_ok:FnOK Try.prog 103 S_spec_l6Copy:=by
 refine at_enter 22 (fun x=>⟨[(0,aF s22 x.1)],[]⟩) Try.func103 rfl (by kernel_rfl) (fun x=>rfl) ?_
 rintro w0 Z0 ⟨x0,u⟩ a w
 revert x0
 intro (x0:(List (List Int))) hpre hlens h
 replace hpre:Q_spec_l6Copy x0:=hpre
 have hT:TabOK Try.prog S_spec_l6Copy_tab:=.nil
 have hf0:Sh.fit s66 x0:=hpre
 have hn0_1:List.length x0≤1073741824:=hf0.1
 refine wp_seq ?_
 refine at_regq [] { ts:=[0,2],os:=[] } [] gamOK hT h (by kernel_rfl) trivial fun a w h=>then_normal (wp_seq ?_)
 refine at_regq [{ ids:=[1],dp:=false }] { ts:=[0,2,3],os:=[1] } [] gamOK hT h (by kernel_rfl) trivial fun a w h=>then_normal (wp_seq (wp_seq ?_))
 refine at_regq [] { ts:=[0,2,3,4],os:=[1] } [] gamOK hT h (by kernel_rfl) trivial fun a w h=>then_normal (wp_block ?_)
 replace h:=at_out (σ':=⟨[(0,aF s22 x0),(2,.p (.c (cN))),(3,aS 1),(4,aI 0)],[(1,oF s22 ([]:List (List Int)))]⟩) { ts:=[0,2,3,4],os:=[1] } h (by kernel_rfl)
 refine at_loop (fun i:Nat=>(⟨[(0,aF s22 x0),(2,.p (.c (cN))),(3,aS 1),(4,aI ((i:Nat):Int))],[(1,oF s22 (List.take i x0))]⟩:St)) (fun i=>i≤List.length x0) (fun i=>List.length x0 - i) (0) h (st_congr2 (fun (d0:List (List Int)) (d1:Int)=>(⟨[(0,aF s22 x0),(2,.p (.c (cN))),(3,aS 1),(4,aI d1)],[(1,oF s22 d0)]⟩:St)) (show (([]:List (List Int)):List (List Int))=(List.take (0) x0) from by first | with_reducible rfl | (rfl) | rfl) (show (0:Int)=(((0):Nat):Int) from by first | with_reducible rfl | (rfl) | rfl)) (by omega) ?_
 intro i a w hok0 h
 have hlt:=len_take_le (xs:=x0) i
 have hrw:=(Sh.fit_getD hf0 i).1
 refine wp_seq (wp_seq ?_)
 refine at_regq [] { ts:=[0,2,3,4,9],os:=[1] } [] gamOK hT h (by kernel_rfl) trivial fun a w h=>then_normal ?_
 refine at_test (decide (((i:Nat):Int) < ((List.length x0:Nat):Int))) h (by kernel_rfl) (fun h1=>?_) (fun h1=>?_)
 ·replace h1 : ((i : Nat) : Int) < ((List.length x0 : Nat) : Int) := of_decide_eq_true h1
  refine wp_skip (then_normal (wp_seq (wp_block ?_)))
  refine at_regq [{},{ ids:=[2],dp:=false },{},{},{},{},{ ids:=[3],frz:=true,dp:=false },{ ids:=[4],dp:=false },{ ids:=[5],dp:=false }] { ts:=[0,2,3,4],os:=[5] } [(0:Int)≤((i:Nat):Int)∧((i:Nat):Int) < ((List.length x0:Nat):Int),(List.length ([]:List Int)+List.length (x0.getD i []))*8≤140737488355328,(List.length (List.take i x0)+List.length ([(([]:List Int)++(x0.getD i []))]))*24≤140737488355328] gamOK hT h (by kernel_rfl) ⟨(by refine ⟨?_,?_⟩<;>(first | omega | (simp only [lsA];omega) | (simp<;>omega))),(by (have hL0:=(show List.length (x0.getD i [])≤1073741824 from ((Sh.fit_getD hf0 i)).1);first | omega | (simp only [lsA];omega) | (simp<;>omega))),(by (have hL0:=(show List.length (List.take i x0)≤1073741824 from ((Sh.fit_take hf0 i)).1);first | omega | (simp only [lsA];omega) | (simp<;>omega))),trivial⟩ fun a w h=>in_normal (then_normal ?_)
  refine at_regq [{},{ nw:=true }] { ts:=[0,2,3,4],os:=[5] } [I64 (((i:Nat):Int)+1)] gamOK hT h (by kernel_rfl) ⟨⟨by first | omega | (simp only [lsA];omega) | (simp<;>omega),by first | omega | (simp only [lsA];omega) | (simp<;>omega)⟩,trivial⟩ fun a w h=>?_
  replace h:=at_out (σ':=⟨[(0,aF s22 x0),(2,.p (.c (cN))),(3,aS 1),(4,aI (((i:Nat):Int)+1))],[(1,oF s22 ((List.take i x0)++([(([]:List Int)++(x0.getD i []))])))]⟩) { ts:=[0,2,3,4],os:=[5],rn:=[(5,1)] } h (by kernel_rfl)
  exact ⟨i+1,at_eq h (st_congr2 (fun (d0:List (List Int)) (d1:Int)=>(⟨[(0,aF s22 x0),(2,.p (.c (cN))),(3,aS 1),(4,aI d1)],[(1,oF s22 d0)]⟩:St)) (show (((List.take i x0)++([(([]:List Int)++(x0.getD i []))])):List (List Int))=(List.take (i+1) x0) from by first | with_reducible rfl | (first | (rw [take_snoc (z:=[]) (by omega)];done) | (rw [take_snoc (z:=[]) (by omega)];rfl)) | rfl) (show (((i:Nat):Int)+1:Int)=(((i+1):Nat):Int) from by first | with_reducible rfl | (omega) | rfl)),(by omega),(by omega)⟩
 ·replace h1 : ¬ (((i : Nat) : Int) < ((List.length x0 : Nat) : Int)) := of_decide_eq_false h1
  refine wp_exit (then_exit (then_exit (in_hit (then_normal (wp_seq ?_)))))
  refine at_regq [] { ts:=[2],os:=[1] } [] gamOK hT h (by kernel_rfl) trivial fun a w h=>then_normal (wp_ret ?_)
  exact at_return ((List.take i x0),()) [] h (by kernel_rfl) trivial (congrArg (fun z=>(z,())) (show ((List.take i x0))=(idD s66) x0 from by (rw [take_all (by omega)];rfl)))

def S_spec_EqualMatrices:Sum:={ fid:=152,dom:=[s66,s66],cod:=[(.bool 4)],dp:=true,fz:=false,pre:=fun x=>True,g:=fun x=>(((Sh.eqB s66) x.1 x.2.1),()) }
def S_spec_EqualMatrices_tab:List (Nat×Sum):=[(160,S_spec_EqualInts)]
theorem S_spec_EqualMatrices_ok:FnOK Try.prog 152 S_spec_EqualMatrices:=by
 refine at_enter 27 (fun x=>⟨[(0,aF s22 x.1),(1,aF s22 x.2.1)],[]⟩) Try.func152 rfl (by kernel_rfl) (fun x=>rfl) ?_
 rintro w0 Z0 ⟨x0,x1,u⟩ a w
 revert x0 x1
 intro (x0:(List (List Int))) (x1:(List (List Int))) hpre hlens h
 have hl1:List.length x0≤9223372036854775807:=hlens.1.1
 have hl2:List.length x1≤9223372036854775807:=hlens.2.1.1
 have hT:TabOK Try.prog S_spec_EqualMatrices_tab:=(.cons S_spec_EqualInts_ok .nil)
 refine wp_seq ?_
 refine at_regq [] { ts:=[0,1,4],os:=[] } [] gamOK hT h (by kernel_rfl) trivial fun a w h=>then_normal (wp_seq (wp_seq ?_))
 refine at_regq [] { ts:=[0,1,4,10],os:=[] } [] gamOK hT h (by kernel_rfl) trivial fun a w h=>then_normal ?_
 refine at_test (!decide (((List.length x0:Nat):Int)=((List.length x1:Nat):Int))) h (by kernel_rfl) (fun h1=>?_) (fun h1=>?_)
 ·replace h1 : ¬ (((List.length x0 : Nat) : Int) = ((List.length x1 : Nat) : Int)) := of_decide_eq_false (notT h1)
  refine wp_seq ?_
  refine at_regq [] { ts:=[0,1,4],os:=[] } [] gamOK hT h (by kernel_rfl) trivial fun a w h=>then_normal (wp_ret (then_ret ?_))
  exact at_return (false,()) [] h (by kernel_rfl) trivial (congrArg (fun z=>(z,())) (show (false)=(Sh.eqB s66) x0 x1 from by (show _=Sh.eqB s66 x0 x1;first | exact (Sh.eqB_ne (fun e=>by subst e;simp_all [Sh.eqB_self])).symm | (have e:=hok0.2;rw [take_all (by omega),take_all (by omega)] at e;exact ((Sh.eqB_iff s66).2 e).symm))))
 ·replace h1 : ((List.length x0 : Nat) : Int) = ((List.length x1 : Nat) : Int) := of_decide_eq_true (notF h1)
  refine wp_skip (then_normal (wp_seq (wp_seq ?_)))
  refine at_regq [] { ts:=[0,1,4,5],os:=[] } [] gamOK hT h (by kernel_rfl) trivial fun a w h=>then_normal (wp_block ?_)
  replace h:=at_out (σ':=⟨[(0,aF s22 x0),(1,aF s22 x1),(4,aB false),(5,aI 0)],[]⟩) { ts:=[0,1,4,5],os:=[] } h (by kernel_rfl)
  refine at_loop (fun i:Nat=>(⟨[(0,aF s22 x0),(1,aF s22 x1),(4,aB false),(5,aI ((i:Nat):Int))],[]⟩:St)) (fun i=>(i≤List.length x0∧x0.take i=x1.take i)) (fun i=>List.length x0 - i) (0) h (st_congr1 (fun (d0:Int)=>(⟨[(0,aF s22 x0),(1,aF s22 x1),(4,aB false),(5,aI d0)],[]⟩:St)) (show (0:Int)=(((0):Nat):Int) from by first | with_reducible rfl | (rfl) | rfl)) (by exact ⟨Nat.zero_le _,rfl⟩) ?_
  intro i a w hok0 h
  refine wp_seq (wp_seq ?_)
  refine at_regq [] { ts:=[0,1,4,5,14],os:=[] } [] gamOK hT h (by kernel_rfl) trivial fun a w h=>then_normal ?_
  refine at_test (decide (((i:Nat):Int) < ((List.length x0:Nat):Int))) h (by kernel_rfl) (fun h2=>?_) (fun h2=>?_)
  ·replace h2 : ((i : Nat) : Int) < ((List.length x0 : Nat) : Int) := of_decide_eq_true h2
   refine wp_skip (then_normal (wp_seq (wp_block (wp_seq ?_))))
   refine at_anyq [{},{},{},{},{},{},{},{},{},{}] { ts:=[0,1,4,5,26],os:=[] } [(0:Int)≤((i:Nat):Int)∧((i:Nat):Int) < ((List.length x0:Nat):Int),(0:Int)≤((i:Nat):Int)∧((i:Nat):Int) < ((List.length x1:Nat):Int),True] gamOK hT mixed h (by kernel_rfl) ⟨(by refine ⟨?_,?_⟩<;>(first | omega | (simp only [lsA];omega) | (simp<;>omega))),(by refine ⟨?_,?_⟩<;>(first | omega | (simp only [lsA];omega) | (simp<;>omega))),trivial,trivial⟩ fun a w h=>then_normal ?_
   refine at_test (!((Sh.eqB s22) (x0.getD i []) (x1.getD i []))) h (by kernel_rfl) (fun h3=>?_) (fun h3=>?_)
   ·replace h3 : ((Sh.eqB s22) (x0.getD i []) (x1.getD i [])) = false := notT h3
    refine wp_seq ?_
    refine at_regq [] { ts:=[0,1,4,5],os:=[] } [] gamOK hT h (by kernel_rfl) trivial fun a w h=>then_normal (wp_ret (in_ret (then_ret (then_ret (in_ret (then_ret ?_))))))
    exact at_return (false,()) [] h (by kernel_rfl) trivial (congrArg (fun z=>(z,())) (show (false)=(Sh.eqB s66) x0 x1 from by (show _=Sh.eqB s66 x0 x1;first | exact (Sh.eqB_ne (fun e=>by subst e;simp_all [Sh.eqB_self])).symm | (have e:=hok0.2;rw [take_all (by omega),take_all (by omega)] at e;exact ((Sh.eqB_iff s66).2 e).symm))))
   ·replace h3 : ((Sh.eqB s22) (x0.getD i []) (x1.getD i [])) = true := notF h3
    refine wp_skip (in_normal (then_normal ?_))
    refine at_regq [{},{ nw:=true }] { ts:=[0,1,4,5],os:=[] } [I64 (((i:Nat):Int)+1)] gamOK hT h (by kernel_rfl) ⟨⟨by first | omega | (simp only [lsA];omega) | (simp<;>omega),by first | omega | (simp only [lsA];omega) | (simp<;>omega)⟩,trivial⟩ fun a w h=>?_
    replace h:=at_out (σ':=⟨[(0,aF s22 x0),(1,aF s22 x1),(4,aB false),(5,aI (((i:Nat):Int)+1))],[]⟩) { ts:=[0,1,4,5],os:=[] } h (by kernel_rfl)
    exact ⟨i+1,at_eq h (st_congr1 (fun (d0:Int)=>(⟨[(0,aF s22 x0),(1,aF s22 x1),(4,aB false),(5,aI d0)],[]⟩:St)) (show (((i:Nat):Int)+1:Int)=(((i+1):Nat):Int) from by first | with_reducible rfl | (omega) | rfl)),(by exact ⟨by omega,eqTo_step (z:=[]) (by omega) (by omega) hok0.2 (Sh.of_eqB (by assumption))⟩),(by omega)⟩
  ·replace h2 : ¬ (((i : Nat) : Int) < ((List.length x0 : Nat) : Int)) := of_decide_eq_false h2
   refine wp_exit (then_exit (then_exit (in_hit (then_normal (wp_seq ?_)))))
   refine at_regq [] { ts:=[4],os:=[] } [] gamOK hT h (by kernel_rfl) trivial fun a w h=>then_normal (wp_ret ?_)
   exact at_return (true,()) [] h (by kernel_rfl) trivial (congrArg (fun z=>(z,())) (show (true)=(Sh.eqB s66) x0 x1 from by (show _=Sh.eqB s66 x0 x1;first | exact (Sh.eqB_ne (fun e=>by subst e;simp_all [Sh.eqB_self])).symm | (have e:=hok0.2;rw [take_all (by omega),take_all (by omega)] at e;exact ((Sh.eqB_iff s66).2 e).symm))))

def validM (x0:(List (List Int))):Bool:=(if (List.all x0 (fun r=>validV r && decide (List.length r=List.length (x0.getD 0 []))))=true then decide (((List.length x0:Nat):Int)≤40) else false)
abbrev Q_impl_IsValidMatrix:=(fun (x0:(List (List Int)))=>Sh.fit s66 x0)
def S_impl_IsValidMatrix:Sum:={ fid:=154,dom:=[s66],cod:=[(.bool 4)],dp:=true,fz:=false,pre:=fun x=>Q_impl_IsValidMatrix x.1,g:=fun x=>((validM x.1),()) }
def S_impl_IsValidMatrix_tab:List (Nat×Sum):=[(117,S_impl_IsValidVector)]
theorem S_impl_IsValidMatrix_ok:FnOK Try.prog 154 S_impl_IsValidMatrix:=by
 refine at_enter 27 (fun x=>⟨[(0,aF s22 x.1)],[]⟩) Try.func154 rfl (by kernel_rfl) (fun x=>rfl) ?_
 rintro w0 Z0 ⟨x0,u⟩ a w
 revert x0
 intro (x0:(List (List Int))) hpre hlens h
 replace hpre:Q_impl_IsValidMatrix x0:=hpre
 have hT:TabOK Try.prog S_impl_IsValidMatrix_tab:=(.cons S_impl_IsValidVector_ok .nil)
 have hf0:Sh.fit s66 x0:=hpre
 have hn0_1:List.length x0≤1073741824:=hf0.1
 refine wp_seq ?_
 refine at_regq [] { ts:=[0,2],os:=[] } [] gamOK hT h (by kernel_rfl) trivial fun a w h=>then_normal (wp_seq (wp_seq ?_))
 refine at_regq [] { ts:=[0,2,5,6,7],os:=[] } [] gamOK hT h (by kernel_rfl) trivial fun a w h=>then_normal (wp_block ?_)
 replace h:=at_out (σ':=⟨[(0,aF s22 x0),(2,aB false),(5,aF s22 x0),(6,aI ((List.length x0:Nat):Int)),(7,aI 0)],[]⟩) { ts:=[0,2,5,6,7],os:=[] } h (by kernel_rfl)
 refine at_loop (fun i:Nat=>(⟨[(0,aF s22 x0),(2,aB false),(5,aF s22 x0),(6,aI ((List.length x0:Nat):Int)),(7,aI ((i:Nat):Int))],[]⟩:St)) (fun i=>(i≤List.length x0∧allTo1 (fun r=>validV r && decide (List.length r=List.length (x0.getD 0 []))) x0 [] i)) (fun i=>List.length x0 - i) (0) h (st_congr1 (fun (d0:Int)=>(⟨[(0,aF s22 x0),(2,aB false),(5,aF s22 x0),(6,aI ((List.length x0:Nat):Int)),(7,aI d0)],[]⟩:St)) (show (0:Int)=(((0):Nat):Int) from by first | with_reducible rfl | (rfl) | rfl)) (by exact ⟨Nat.zero_le _,allTo1_zero⟩) ?_
 intro i a w hok0 h
 refine wp_seq ?_
 refine at_regq [] { ts:=[0,2,5,6,7,8],os:=[] } [] gamOK hT h (by kernel_rfl) trivial fun a w h=>then_normal (wp_seq ?_)
 refine at_test (decide (((i:Nat):Int) < ((List.length x0:Nat):Int))) h (by kernel_rfl) (fun h1=>?_) (fun h1=>?_)
 ·replace h1 : ((i : Nat) : Int) < ((List.length x0 : Nat) : Int) := of_decide_eq_true h1
  refine wp_skip (then_normal (wp_seq (wp_block (wp_seq ?_))))
  refine at_regq [] { ts:=[0,2,4,5,6,7],os:=[] } [(0:Int)≤((i:Nat):Int)∧((i:Nat):Int) < ((List.length x0:Nat):Int)] gamOK hT h (by kernel_rfl) ⟨(by refine ⟨?_,?_⟩<;>(first | omega | (simp only [lsA];omega) | (simp<;>omega))),trivial⟩ fun a w h=>then_normal (wp_seq ?_)
  rcases Bool.eq_false_or_eq_true (!(validV (x0.getD i []))) with h2 | h2
  ·have hzh2 : (validV (x0.getD i [])) = false := notT h2
   refine at_regq [{},{},{ hint:=some (aB true) }] { ts:=[0,2,5,6,7,15,16,17,18,19,20,21,22],os:=[] } [Q_impl_IsValidVector (x0.getD i []),(AV.p (.c (.v (.bool (!(validV (x0.getD i []))))))=AV.p (.c (.v (.bool true))))] gamOK hT h (by kernel_rfl) ⟨(by exact (Sh.fit_getD hf0 i)),hint_bool (h2),trivial⟩ fun a w h=>then_normal ?_
   refine at_test true h (by kernel_rfl) (fun hh=>?_) (fun hh=>nomatch hh)
   refine wp_seq ?_
   refine at_regq [] { ts:=[0,2,5,6,7,15,16,17,18,19,20,21],os:=[] } [] gamOK hT h (by kernel_rfl) trivial fun a w h=>then_normal (wp_ret (in_ret (then_ret ?_)))
   have hs3:(List.all x0 (fun r=>validV r && decide (List.length r=List.length (x0.getD 0 []))))=false:=by exact all_at (z:=[]) (i:=i) (by omega) (by (show ((validV _) && _)=false;rw [Bool.and_eq_false_iff];first | (left;assumption) | (right;exact decide_eq_false (by omega))))
   refine then_ret (in_ret (then_ret ?_))
   exact at_return (false,()) [] h (by kernel_rfl) trivial (congrArg (fun z=>(z,())) (show (false)=validM x0 from by first | rfl | (unfold validM;rw [if_neg (neT hs3)])))
  ·have hzh2 : (validV (x0.getD i [])) = true := notF h2
   have hvh2:=validV_t (notF h2)
   refine at_regq [{},{},{ hint:=some (aB false) }] { ts:=[0,2,5,6,7,15,16,17,18,19,20,21,22],os:=[] } [Q_impl_IsValidVector (x0.getD i []),(AV.p (.c (.v (.bool (!(validV (x0.getD i []))))))=AV.p (.c (.v (.bool false)))),(0:Int)≤0∧0 < ((List.length x0:Nat):Int)] gamOK hT h (by kernel_rfl) ⟨(by exact (Sh.fit_getD hf0 i)),hint_bool (h2),(by refine ⟨?_,?_⟩<;>(first | omega | (simp only [lsA];omega) | (simp<;>omega))),trivial⟩ fun a w h=>then_normal ?_
   refine at_test (!decide (((List.length (x0.getD i []):Nat):Int)=((List.length (x0.getD 0 []):Nat):Int))) h (by kernel_rfl) (fun h4=>?_) (fun h4=>?_)
   ·replace h4 : ¬ (((List.length (x0.getD i []) : Nat) : Int) = ((List.length (x0.getD 0 []) : Nat) : Int)) := of_decide_eq_false (notT h4)
    refine wp_seq ?_
    refine at_regq [] { ts:=[0,2,5,6,7,15,16,17,18,19,20,21],os:=[] } [] gamOK hT h (by kernel_rfl) trivial fun a w h=>then_normal (wp_ret (in_ret (then_ret ?_)))
    have hs5:(List.all x0 (fun r=>validV r && decide (List.length r=List.length (x0.getD 0 []))))=false:=by exact all_at (z:=[]) (i:=i) (by omega) (by (show ((validV _) && _)=false;rw [Bool.and_eq_false_iff];first | (left;assumption) | (right;exact decide_eq_false (by omega))))
    refine then_ret (in_ret (then_ret ?_))
    exact at_return (false,()) [] h (by kernel_rfl) trivial (congrArg (fun z=>(z,())) (show (false)=validM x0 from by first | rfl | (unfold validM;rw [if_neg (neT hs5)])))
   ·replace h4 : ((List.length (x0.getD i []) : Nat) : Int) = ((List.length (x0.getD 0 []) : Nat) : Int) := of_decide_eq_true (notF h4)
    refine wp_skip (in_normal (then_normal ?_))
    refine at_regq [{ nw:=true }] { ts:=[0,2,5,6,7,15,16,17,18,19,20,21],os:=[] } [I64 (((i:Nat):Int)+1)] gamOK hT h (by kernel_rfl) ⟨⟨by first | omega | (simp only [lsA];omega) | (simp<;>omega),by first | omega | (simp only [lsA];omega) | (simp<;>omega)⟩,trivial⟩ fun a w h=>?_
    replace h:=at_out (σ':=⟨[(0,aF s22 x0),(2,aB false),(5,aF s22 x0),(6,aI ((List.length x0:Nat):Int)),(7,aI (((i:Nat):Int)+1))],[]⟩) { ts:=[0,2,5,6,7],os:=[] } h (by kernel_rfl)
    exact ⟨i+1,at_eq h (st_congr1 (fun (d0:Int)=>(⟨[(0,aF s22 x0),(2,aB false),(5,aF s22 x0),(6,aI ((List.length x0:Nat):Int)),(7,aI d0)],[]⟩:St)) (show (((i:Nat):Int)+1:Int)=(((i+1):Nat):Int) from by first | with_reducible rfl | (omega) | rfl)),(by exact ⟨by omega,allTo1_succ hok0.2 (by (show ((validV _) && _)=true;rw [Bool.and_eq_true];exact ⟨by assumption,decide_eq_true (by omega)⟩))⟩),(by omega)⟩
 ·replace h1 : ¬ (((i : Nat) : Int) < ((List.length x0 : Nat) : Int)) := of_decide_eq_false h1
  refine wp_exit (then_exit ?_)
  have hs6:(List.all x0 (fun r=>validV r && decide (List.length r=List.length (x0.getD 0 []))))=true:=by exact all_of (z:=[]) (i:=i) (by omega) hok0.2
  refine then_exit (in_hit (then_normal (wp_seq ?_)))
  refine at_regq [] { ts:=[2],os:=[] } [] gamOK hT h (by kernel_rfl) trivial fun a w h=>then_normal (wp_ret ?_)
  exact at_return (decide (((List.length x0:Nat):Int)≤40),()) [] h (by kernel_rfl) trivial (congrArg (fun z=>(z,())) (show (decide (((List.length x0:Nat):Int)≤40))=validM x0 from by first | rfl | (unfold validM;rw [if_pos hs6])))
theorem validM_t {m:List (List Int)} (h:validM m=true):List.length m≤40∧(∀ r∈m,validV r=true∧List.length r=List.length (m.getD 0 [])):=by
 unfold validM at h
 split at h
 ·rename_i ha
  have:=of_decide_eq_true h
  refine ⟨by omega,fun r hr=>?_⟩
  have:=List.all_eq_true.1 ha r hr
  rw [Bool.and_eq_true] at this
  exact ⟨this.1,of_decide_eq_true this.2⟩
 ·cases h
theorem validM_ok {m:List (List Int)} (h:validM m=true):∀ r∈m,LA.VokB (List.length (m.getD 0 [])) r:=fun r hr=>⟨((validM_t h).2 r hr).2,(validV_t ((validM_t h).2 r hr).1).2.1⟩
theorem validM_at {m:List (List Int)} (h:validM m=true) (j:Nat) (hj:j < m.length):List.length (m.getD j [])=List.length (m.getD 0 []):=((validM_t h).2 _ (getD_mem hj)).2

abbrev Q_spec_IsValidMatrix:=(fun (x0:(List (List Int)))=>Sh.fit s66 x0)
def S_spec_IsValidMatrix:Sum:={ fid:=107,dom:=[s66],cod:=[(.bool 4)],dp:=true,fz:=false,pre:=fun x=>Q_spec_IsValidMatrix x.1,g:=fun x=>((validM x.1),()) }
def S_spec_IsValidMatrix_tab:List (Nat×Sum):=[(139,S_spec_IsValidVector)]
theorem S_spec_IsValidMatrix_ok:FnOK Try.prog 107 S_spec_IsValidMatrix:=by
 refine at_enter 31 (fun x=>⟨[(0,aF s22 x.1)],[]⟩) Try.func107 rfl (by kernel_rfl) (fun x=>rfl) ?_
 rintro w0 Z0 ⟨x0,u⟩ a w
 revert x0
 intro (x0:(List (List Int))) hpre hlens h
 replace hpre:Q_spec_IsValidMatrix x0:=hpre
 have hT:TabOK Try.prog S_spec_IsValidMatrix_tab:=(.cons S_spec_IsValidVector_ok .nil)
 have hf0:Sh.fit s66 x0:=hpre
 have hn0_1:List.length x0≤1073741824:=hf0.1
 refine wp_seq ?_
 refine at_regq [] { ts:=[0,2],os:=[] } [] gamOK hT h (by kernel_rfl) trivial fun a w h=>then_normal (wp_seq (wp_seq ?_))
 refine at_regq [] { ts:=[0,2,3],os:=[] } [] gamOK hT h (by kernel_rfl) trivial fun a w h=>then_normal (wp_block ?_)
 replace h:=at_out (σ':=⟨[(0,aF s22 x0),(2,aB false),(3,aI 0)],[]⟩) { ts:=[0,2,3],os:=[] } h (by kernel_rfl)
 refine at_loop (fun i:Nat=>(⟨[(0,aF s22 x0),(2,aB false),(3,aI ((i:Nat):Int))],[]⟩:St)) (fun i=>(i≤List.length x0∧allTo1 (fun r=>validV r && decide (List.length r=List.length (x0.getD 0 []))) x0 [] i)) (fun i=>List.length x0 - i) (0) h (st_congr1 (fun (d0:Int)=>(⟨[(0,aF s22 x0),(2,aB false),(3,aI d0)],[]⟩:St)) (show (0:Int)=(((0):Nat):Int) from by first | with_reducible rfl | (rfl) | rfl)) (by exact ⟨Nat.zero_le _,allTo1_zero⟩) ?_
 intro i a w hok0 h
 refine wp_seq (wp_seq ?_)
 refine at_regq [] { ts:=[0,2,3,7],os:=[] } [] gamOK hT h (by kernel_rfl) trivial fun a w h=>then_normal ?_
 refine at_test (decide (((i:Nat):Int) < ((List.length x0:Nat):Int))) h (by kernel_rfl) (fun h1=>?_) (fun h1=>?_)
 ·replace h1 : ((i : Nat) : Int) < ((List.length x0 : Nat) : Int) := of_decide_eq_true h1
  refine wp_skip (then_normal (wp_seq (wp_block (wp_seq ?_))))
  rcases Bool.eq_false_or_eq_true (!(validV (x0.getD i []))) with h2 | h2
  ·have hzh2 : (validV (x0.getD i [])) = false := notT h2
   refine at_anyq [{},{},{},{},{},{ hint:=some (aB true) },{},{},{},{},{},{},{},{},{},{},{},{}] { ts:=[0,2,3,17,18,19,20,21,22,23,24,25,26,27],os:=[] } [(0:Int)≤((i:Nat):Int)∧((i:Nat):Int) < ((List.length x0:Nat):Int),Q_spec_IsValidVector (x0.getD i []),(AV.p (.c (.v (.bool (!(validV (x0.getD i []))))))=AV.p (.c (.v (.bool true))))] gamOK hT mixed h (by kernel_rfl) ⟨(by refine ⟨?_,?_⟩<;>(first | omega | (simp only [lsA];omega) | (simp<;>omega))),(by exact (Sh.fit_getD hf0 i)),hint_bool (h2),trivial⟩ fun a w h=>then_normal ?_
   refine at_test true h (by kernel_rfl) (fun hh=>?_) (fun hh=>nomatch hh)
   refine wp_seq ?_
   refine at_regq [] { ts:=[0,2,3,17,18,19,20,21,22,23,24,25,26],os:=[] } [] gamOK hT h (by kernel_rfl) trivial fun a w h=>then_normal (wp_ret (in_ret (then_ret ?_)))
   have hs3:(List.all x0 (fun r=>validV r && decide (List.length r=List.length (x0.getD 0 []))))=false:=by exact all_at (z:=[]) (i:=i) (by omega) (by (show ((validV _) && _)=false;rw [Bool.and_eq_false_iff];first | (left;assumption) | (right;exact decide_eq_false (by omega))))
   refine then_ret (in_ret (then_ret ?_))
   exact at_return (false,()) [] h (by kernel_rfl) trivial (congrArg (fun z=>(z,())) (show (false)=validM x0 from by first | rfl | (unfold validM;rw [if_neg (neT hs3)];done) | (unfold validM;simp_all)))
  ·have hzh2 : (validV (x0.getD i [])) = true := notF h2
   have hvh2:=validV_t (notF h2)
   refine at_anyq [{},{},{},{},{},{ hint:=some (aB false) },{},{},{},{},{},{},{},{},{},{},{},{}] { ts:=[0,2,3,17,18,19,20,21,22,23,24,25,26,27],os:=[] } [(0:Int)≤((i:Nat):Int)∧((i:Nat):Int) < ((List.length x0:Nat):Int),Q_spec_IsValidVector (x0.getD i []),(AV.p (.c (.v (.bool (!(validV (x0.getD i []))))))=AV.p (.c (.v (.bool false)))),(0:Int)≤((i:Nat):Int)∧((i:Nat):Int) < ((List.length x0:Nat):Int),(0:Int)≤0∧0 < ((List.length x0:Nat):Int)] gamOK hT mixed h (by kernel_rfl) ⟨(by refine ⟨?_,?_⟩<;>(first | omega | (simp only [lsA];omega) | (simp<;>omega))),(by exact (Sh.fit_getD hf0 i)),hint_bool (h2),(by refine ⟨?_,?_⟩<;>(first | omega | (simp only [lsA];omega) | (simp<;>omega))),(by refine ⟨?_,?_⟩<;>(first | omega | (simp only [lsA];omega) | (simp<;>omega))),trivial⟩ fun a w h=>then_normal ?_
   refine at_test (!decide (((List.length (x0.getD i []):Nat):Int)=((List.length (x0.getD 0 []):Nat):Int))) h (by kernel_rfl) (fun h4=>?_) (fun h4=>?_)
   ·replace h4 : ¬ (((List.length (x0.getD i []) : Nat) : Int) = ((List.length (x0.getD 0 []) : Nat) : Int)) := of_decide_eq_false (notT h4)
    refine wp_seq ?_
    refine at_regq [] { ts:=[0,2,3,17,18,19,20,21,22,23,24,25,26],os:=[] } [] gamOK hT h (by kernel_rfl) trivial fun a w h=>then_normal (wp_ret (in_ret (then_ret ?_)))
    have hs5:(List.all x0 (fun r=>validV r && decide (List.length r=List.length (x0.getD 0 []))))=false:=by exact all_at (z:=[]) (i:=i) (by omega) (by (show ((validV _) && _)=false;rw [Bool.and_eq_false_iff];first | (left;assumption) | (right;exact decide_eq_false (by omega))))
    refine then_ret (in_ret (then_ret ?_))
    exact at_return (false,()) [] h (by kernel_rfl) trivial (congrArg (fun z=>(z,())) (show (false)=validM x0 from by first | rfl | (unfold validM;rw [if_neg (neT hs5)];done) | (unfold validM;simp_all)))
   ·replace h4 : ((List.length (x0.getD i []) : Nat) : Int) = ((List.length (x0.getD 0 []) : Nat) : Int) := of_decide_eq_true (notF h4)
    refine wp_skip (in_normal (then_normal ?_))
    refine at_regq [{},{ nw:=true }] { ts:=[0,2,3,17,18,19,20,21,22,23,24,25,26],os:=[] } [I64 (((i:Nat):Int)+1)] gamOK hT h (by kernel_rfl) ⟨⟨by first | omega | (simp only [lsA];omega) | (simp<;>omega),by first | omega | (simp only [lsA];omega) | (simp<;>omega)⟩,trivial⟩ fun a w h=>?_
    replace h:=at_out (σ':=⟨[(0,aF s22 x0),(2,aB false),(3,aI (((i:Nat):Int)+1))],[]⟩) { ts:=[0,2,3],os:=[] } h (by kernel_rfl)
    exact ⟨i+1,at_eq h (st_congr1 (fun (d0:Int)=>(⟨[(0,aF s22 x0),(2,aB false),(3,aI d0)],[]⟩:St)) (show (((i:Nat):Int)+1:Int)=(((i+1):Nat):Int) from by first | with_reducible rfl | (omega) | rfl)),(by exact ⟨by omega,allTo1_succ hok0.2 (by (show ((validV _) && _)=true;rw [Bool.and_eq_true];exact ⟨by assumption,decide_eq_true (by omega)⟩))⟩),(by omega)⟩
 ·replace h1 : ¬ (((i : Nat) : Int) < ((List.length x0 : Nat) : Int)) := of_decide_eq_false h1
  refine wp_exit (then_exit ?_)
  have hs6:(List.all x0 (fun r=>validV r && decide (List.length r=List.length (x0.getD 0 []))))=true:=by exact all_of (z:=[]) (i:=i) (by omega) hok0.2
  refine then_exit (in_hit (then_normal (wp_seq ?_)))
  refine at_regq [] { ts:=[2],os:=[] } [] gamOK hT h (by kernel_rfl) trivial fun a w h=>then_normal (wp_ret ?_)
  exact at_return (decide (((List.length x0:Nat):Int)≤40),()) [] h (by kernel_rfl) trivial (congrArg (fun z=>(z,())) (show (decide (((List.length x0:Nat):Int)≤40))=validM x0 from by first | rfl | (unfold validM;rw [if_pos hs6];done) | (unfold validM;simp_all)))

def colsOf (x0:(List (List Int))):Int:=(if ((List.length x0:Nat):Int)=0 then 0 else ((List.length (x0.getD 0 []):Nat):Int))
abbrev Q_impl_ColumnsOf:=(fun (x0:(List (List Int)))=>Sh.fit s66 x0)
def S_impl_ColumnsOf:Sum:={ fid:=118,dom:=[s66],cod:=[(.int 3)],dp:=true,fz:=false,pre:=fun x=>Q_impl_ColumnsOf x.1,g:=fun x=>((colsOf x.1),()) }
def S_impl_ColumnsOf_tab:List (Nat×Sum):=[]
theorem S_impl_ColumnsOf_ok:FnOK Try.prog 118 S_impl_ColumnsOf:=by
 refine at_enter 10 (fun x=>⟨[(0,aF s22 x.1)],[]⟩) Try.func118 rfl (by kernel_rfl) (fun x=>rfl) ?_
 rintro w0 Z0 ⟨x0,u⟩ a w
 revert x0
 intro (x0:(List (List Int))) hpre hlens h
 replace hpre:Q_impl_ColumnsOf x0:=hpre
 have hT:TabOK Try.prog S_impl_ColumnsOf_tab:=.nil
 have hf0:Sh.fit s66 x0:=hpre
 have hn0_1:List.length x0≤1073741824:=hf0.1
 refine wp_seq ?_
 refine at_regq [] { ts:=[0,2],os:=[] } [] gamOK hT h (by kernel_rfl) trivial fun a w h=>then_normal (wp_seq (wp_seq ?_))
 refine at_regq [] { ts:=[0,2,5],os:=[] } [] gamOK hT h (by kernel_rfl) trivial fun a w h=>then_normal ?_
 refine at_test (decide (((List.length x0:Nat):Int)=0)) h (by kernel_rfl) (fun h1=>?_) (fun h1=>?_)
 ·replace h1 : ((List.length x0 : Nat) : Int) = 0 := of_decide_eq_true h1
  refine wp_seq ?_
  refine at_regq [] { ts:=[0,2],os:=[] } [] gamOK hT h (by kernel_rfl) trivial fun a w h=>then_normal (wp_ret (then_ret ?_))
  exact at_return (0,()) [] h (by kernel_rfl) trivial (congrArg (fun z=>(z,())) (show (0)=colsOf x0 from by first | rfl | (unfold colsOf;rw [if_pos h1])))
 ·replace h1 : ¬ (((List.length x0 : Nat) : Int) = 0) := of_decide_eq_false h1
  refine wp_skip (then_normal (wp_seq ?_))
  refine at_regq [] { ts:=[2],os:=[] } [(0:Int)≤0∧0 < ((List.length x0:Nat):Int)] gamOK hT h (by kernel_rfl) ⟨(by refine ⟨?_,?_⟩<;>(first | omega | (simp only [lsA];omega) | (simp<;>omega))),trivial⟩ fun a w h=>then_normal (wp_ret ?_)
  exact at_return (((List.length (x0.getD 0 []):Nat):Int),()) [] h (by kernel_rfl) trivial (congrArg (fun z=>(z,())) (show (((List.length (x0.getD 0 []):Nat):Int))=colsOf x0 from by first | rfl | (unfold colsOf;rw [if_neg h1])))

abbrev Q_spec_ColumnsOf:=(fun (x0:(List (List Int)))=>Sh.fit s66 x0)
def S_spec_ColumnsOf:Sum:={ fid:=66,dom:=[s66],cod:=[(.int 3)],dp:=true,fz:=false,pre:=fun x=>Q_spec_ColumnsOf x.1,g:=fun x=>((colsOf x.1),()) }
def S_spec_ColumnsOf_tab:List (Nat×Sum):=[]
theorem S_spec_ColumnsOf_ok:FnOK Try.prog 66 S_spec_ColumnsOf:=by
 refine at_enter 10 (fun x=>⟨[(0,aF s22 x.1)],[]⟩) Try.func66 rfl (by kernel_rfl) (fun x=>rfl) ?_
 rintro w0 Z0 ⟨x0,u⟩ a w
 revert x0
 intro (x0:(List (List Int))) hpre hlens h
 replace hpre:Q_spec_ColumnsOf x0:=hpre
 have hT:TabOK Try.prog S_spec_ColumnsOf_tab:=.nil
 have hf0:Sh.fit s66 x0:=hpre
 have hn0_1:List.length x0≤1073741824:=hf0.1
 refine wp_seq ?_
 refine at_regq [] { ts:=[0,2],os:=[] } [] gamOK hT h (by kernel_rfl) trivial fun a w h=>then_normal (wp_seq (wp_seq ?_))
 refine at_regq [] { ts:=[0,2,5],os:=[] } [] gamOK hT h (by kernel_rfl) trivial fun a w h=>then_normal ?_
 refine at_test (decide (((List.length x0:Nat):Int)=0)) h (by kernel_rfl) (fun h1=>?_) (fun h1=>?_)
 ·replace h1 : ((List.length x0 : Nat) : Int) = 0 := of_decide_eq_true h1
  refine wp_seq ?_
  refine at_regq [] { ts:=[0,2],os:=[] } [] gamOK hT h (by kernel_rfl) trivial fun a w h=>then_normal (wp_ret (then_ret ?_))
  exact at_return (0,()) [] h (by kernel_rfl) trivial (congrArg (fun z=>(z,())) (show (0)=colsOf x0 from by first | rfl | (unfold colsOf;rw [if_pos h1];done) | (unfold colsOf;simp_all)))
 ·replace h1 : ¬ (((List.length x0 : Nat) : Int) = 0) := of_decide_eq_false h1
  refine wp_skip (then_normal (wp_seq ?_))
  refine at_regq [] { ts:=[2],os:=[] } [(0:Int)≤0∧0 < ((List.length x0:Nat):Int)] gamOK hT h (by kernel_rfl) ⟨(by refine ⟨?_,?_⟩<;>(first | omega | (simp only [lsA];omega) | (simp<;>omega))),trivial⟩ fun a w h=>then_normal (wp_ret ?_)
  exact at_return (((List.length (x0.getD 0 []):Nat):Int),()) [] h (by kernel_rfl) trivial (congrArg (fun z=>(z,())) (show (((List.length (x0.getD 0 []):Nat):Int))=colsOf x0 from by first | rfl | (unfold colsOf;rw [if_neg h1];done) | (unfold colsOf;simp_all)))

def isRed (x0:(List (List Int))):Bool:=(if (validM x0)=true then (if (allN (redB x0) (List.length x0))=true then true else false) else false)
abbrev Q_impl_IsReduced:=(fun (x0:(List (List Int)))=>Sh.fit s66 x0)
def S_impl_IsReduced:Sum:={ fid:=141,dom:=[s66],cod:=[(.bool 4)],dp:=true,fz:=false,pre:=fun x=>Q_impl_IsReduced x.1,g:=fun x=>((isRed x.1),()) }
def S_impl_IsReduced_tab:List (Nat×Sum):=[(154,S_impl_IsValidMatrix),(116,S_impl_LeadingIndex)]
theorem S_impl_IsReduced_ok:FnOK Try.prog 141 S_impl_IsReduced:=by
 refine at_enter 51 (fun x=>⟨[(0,aF s22 x.1)],[]⟩) Try.func141 rfl (by kernel_rfl) (fun x=>rfl) ?_
 rintro w0 Z0 ⟨x0,u⟩ a w
 revert x0
 intro (x0:(List (List Int))) hpre hlens h
 replace hpre:Q_impl_IsReduced x0:=hpre
 have hT:TabOK Try.prog S_impl_IsReduced_tab:=(.cons S_impl_IsValidMatrix_ok (.cons S_impl_LeadingIndex_ok .nil))
 have hf0:Sh.fit s66 x0:=hpre
 have hn0_1:List.length x0≤1073741824:=hf0.1
 refine wp_seq ?_
 refine at_regq [] { ts:=[0,2],os:=[] } [] gamOK hT h (by kernel_rfl) trivial fun a w h=>then_normal (wp_seq (wp_seq ?_))
 refine at_regq [] { ts:=[0,2,11],os:=[] } [Q_impl_IsValidMatrix x0] gamOK hT h (by kernel_rfl) ⟨(by exact hf0),trivial⟩ fun a w h=>then_normal ?_
 refine at_test (!(validM x0)) h (by kernel_rfl) (fun h1=>?_) (fun h1=>?_)
 ·replace h1 : (validM x0) = false := notT h1
  refine wp_seq ?_
  refine at_regq [] { ts:=[0,2],os:=[] } [] gamOK hT h (by kernel_rfl) trivial fun a w h=>then_normal (wp_ret (then_ret ?_))
  exact at_return (false,()) [] h (by kernel_rfl) trivial (congrArg (fun z=>(z,())) (show (false)=isRed x0 from by first | rfl | (unfold isRed;rw [if_neg (neT h1)])))
 ·replace h1 : (validM x0) = true := notF h1
  have hvh1:=validM_t h1
  refine wp_skip (then_normal (wp_seq ?_))
  refine at_regq [] { ts:=[0,2,3],os:=[] } [] gamOK hT h (by kernel_rfl) trivial fun a w h=>then_normal (wp_seq (wp_seq ?_))
  refine at_regq [] { ts:=[0,2,3,12,13,14],os:=[] } [] gamOK hT h (by kernel_rfl) trivial fun a w h=>then_normal (wp_block ?_)
  replace h:=at_out (σ':=⟨[(0,aF s22 x0),(2,aB false),(3,aI (-1)),(12,aF s22 x0),(13,aI ((List.length x0:Nat):Int)),(14,aI 0)],[]⟩) { ts:=[0,2,3,12,13,14],os:=[] } h (by kernel_rfl)
  refine at_loop (fun i:Nat=>(⟨[(0,aF s22 x0),(2,aB false),(3,aI (prevL x0 i)),(12,aF s22 x0),(13,aI ((List.length x0:Nat):Int)),(14,aI ((i:Nat):Int))],[]⟩:St)) (fun i=>(i≤(List.length x0)∧allN (redB x0) i=true)) (fun i=>(List.length x0) - i) (0) h (st_congr2 (fun (d0:Int) (d1:Int)=>(⟨[(0,aF s22 x0),(2,aB false),(3,aI d0),(12,aF s22 x0),(13,aI ((List.length x0:Nat):Int)),(14,aI d1)],[]⟩:St)) (show ((-1):Int)=(prevL x0 (0)) from by first | with_reducible rfl | (rfl) | rfl) (show (0:Int)=(((0):Nat):Int) from by first | with_reducible rfl | (rfl) | rfl)) (by exact ⟨Nat.zero_le _,rfl⟩) ?_
  intro i a w hok0 h
  have hpv:=prevL_bd x0 i
  refine wp_seq ?_
  refine at_regq [] { ts:=[0,2,3,12,13,14,15],os:=[] } [] gamOK hT h (by kernel_rfl) trivial fun a w h=>then_normal (wp_seq ?_)
  refine at_test (decide (((i:Nat):Int) < ((List.length x0:Nat):Int))) h (by kernel_rfl) (fun h2=>?_) (fun h2=>?_)
  ·replace h2 : ((i : Nat) : Int) < ((List.length x0 : Nat) : Int) := of_decide_eq_true h2
   have hvi:=validM_at (m:=x0) (by assumption) i
   have hld:=LA.leadS_bd (x0.getD i [])
   refine wp_skip (then_normal (wp_seq (wp_block (wp_seq ?_))))
   refine at_regq [] { ts:=[0,2,3,4,5,12,13,14],os:=[] } [(0:Int)≤((i:Nat):Int)∧((i:Nat):Int) < ((List.length x0:Nat):Int)] gamOK hT h (by kernel_rfl) ⟨(by refine ⟨?_,?_⟩<;>(first | omega | (simp only [lsA];omega) | (simp<;>omega))),trivial⟩ fun a w h=>then_normal (wp_seq ?_)
   refine at_regq [] { ts:=[0,2,3,4,5,6,12,13,14],os:=[] } [Q_impl_LeadingIndex (x0.getD i [])] gamOK hT h (by kernel_rfl) ⟨(by exact (Sh.fit_getD hf0 i)),trivial⟩ fun a w h=>then_normal (wp_seq (wp_seq ?_))
   by_cases h3:(LA.leadS (x0.getD i []))≤(prevL x0 i)
   ·refine at_regq [{}, {}, { hint := some (aB true) }] { ts := [0, 2, 3, 4, 6, 12, 13, 14, 25, 26, 27, 28, 29, 30], os := [] } [(AV.p (.c (.v (.bool (decide ((LA.leadS (x0.getD i [])) ≤ (prevL x0 i)))))) = AV.p (.c (.v (.bool true))))] gamOK hT h (by kernel_rfl) ⟨hint_bool (decide_eq_true h3), trivial⟩ fun a w h => then_normal ?_
    refine at_test true h (by kernel_rfl) (fun hh=>?_) (fun hh=>nomatch hh)
    refine wp_seq ?_
    refine at_regq [] { ts:=[0,2,3,4,6,12,13,14,25,26,27,28,29],os:=[] } [] gamOK hT h (by kernel_rfl) trivial fun a w h=>then_normal (wp_ret (then_ret (in_ret (then_ret ?_))))
    have hs4:(allN (redB x0) (List.length x0))=false:=by exact allN_at (i:=i) (by omega) (by first | exact redB_f1 (by omega) | exact redB_f2 (by omega) | exact redB_f3 (by assumption))
    refine then_ret (in_ret (then_ret ?_))
    exact at_return (false,()) [] h (by kernel_rfl) trivial (congrArg (fun z=>(z,())) (show (false)=isRed x0 from by first | rfl | (unfold isRed;rw [if_pos h1,if_neg (neT hs4)])))
   ·refine at_regq [{}, {}, { hint := some (aB false) }] { ts := [0, 2, 3, 4, 6, 12, 13, 14, 25, 26, 27, 28, 29, 30], os := [] } [(AV.p (.c (.v (.bool (decide ((LA.leadS (x0.getD i [])) ≤ (prevL x0 i)))))) = AV.p (.c (.v (.bool false)))), (0 : Int) ≤ (LA.leadS (x0.getD i [])) ∧ (LA.leadS (x0.getD i [])) < ((List.length (x0.getD i []) : Nat) : Int)] gamOK hT h (by kernel_rfl) ⟨hint_bool (decide_eq_false h3), (by refine ⟨?_, ?_⟩ <;> ((have hL0 := (show List.length (x0.getD i []) ≤ 1073741824 from ((Sh.fit_getD hf0 i)).1); first | omega | (simp only [lsA]; omega) | (simp <;> omega)))), trivial⟩ fun a w h => then_normal ?_
    refine at_test (!decide (((x0.getD i []).getD (((LA.leadS (x0.getD i []))).toNat) 0)=1)) h (by kernel_rfl) (fun h5=>?_) (fun h5=>?_)
    ·replace h5 : ¬ (((x0.getD i []).getD (((LA.leadS (x0.getD i []))).toNat) 0) = 1) := of_decide_eq_false (notT h5)
     refine wp_seq ?_
     refine at_regq [] { ts:=[0,2,3,4,6,12,13,14,25,26,27,28,29],os:=[] } [] gamOK hT h (by kernel_rfl) trivial fun a w h=>then_normal (wp_ret (then_ret (in_ret (then_ret ?_))))
     have hs6:(allN (redB x0) (List.length x0))=false:=by exact allN_at (i:=i) (by omega) (by first | exact redB_f1 (by omega) | exact redB_f2 (by omega) | exact redB_f3 (by assumption))
     refine then_ret (in_ret (then_ret ?_))
     exact at_return (false,()) [] h (by kernel_rfl) trivial (congrArg (fun z=>(z,())) (show (false)=isRed x0 from by first | rfl | (unfold isRed;rw [if_pos h1,if_neg (neT hs6)])))
    ·replace h5 : ((x0.getD i []).getD (((LA.leadS (x0.getD i []))).toNat) 0) = 1 := of_decide_eq_true (notF h5)
     refine wp_skip (then_normal (wp_seq (wp_seq ?_)))
     refine at_regq [] { ts:=[0,2,3,4,6,12,13,14,25,26,27,28,29,31,32,33],os:=[] } [] gamOK hT h (by kernel_rfl) trivial fun a w h=>then_normal (wp_block ?_)
     replace h:=at_out (σ':=⟨[(0,aF s22 x0),(2,aB false),(3,aI (prevL x0 i)),(4,aI ((i:Nat):Int)),(6,aI (LA.leadS (x0.getD i []))),(12,aF s22 x0),(13,aI ((List.length x0:Nat):Int)),(14,aI ((i:Nat):Int)),(25,aF (.int 3) (x0.getD i [])),(26,aI (LA.leadS (x0.getD i []))),(27,aR (.int 3) ((x0.getD i []).getD (((LA.leadS (x0.getD i []))).toNat) 0) 0),(28,aI ((x0.getD i []).getD (((LA.leadS (x0.getD i []))).toNat) 0)),(29,aB (!decide (((x0.getD i []).getD (((LA.leadS (x0.getD i []))).toNat) 0)=1))),(31,aF s22 x0),(32,aI ((List.length x0:Nat):Int)),(33,aI 0)],[]⟩) { ts:=[0,2,3,4,6,12,13,14,25,26,27,28,29,31,32,33],os:=[] } h (by kernel_rfl)
     refine at_loop (fun k:Nat=>(⟨[(0,aF s22 x0),(2,aB false),(3,aI (prevL x0 i)),(4,aI ((i:Nat):Int)),(6,aI (LA.leadS (x0.getD i []))),(12,aF s22 x0),(13,aI ((List.length x0:Nat):Int)),(14,aI ((i:Nat):Int)),(25,aF (.int 3) (x0.getD i [])),(26,aI (LA.leadS (x0.getD i []))),(27,aR (.int 3) ((x0.getD i []).getD (((LA.leadS (x0.getD i []))).toNat) 0) 0),(28,aI ((x0.getD i []).getD (((LA.leadS (x0.getD i []))).toNat) 0)),(29,aB (!decide (((x0.getD i []).getD (((LA.leadS (x0.getD i []))).toNat) 0)=1))),(31,aF s22 x0),(32,aI ((List.length x0:Nat):Int)),(33,aI ((k:Nat):Int))],[]⟩:St)) (fun k=>(k≤(List.length x0)∧allN (clrB x0 i) k=true)) (fun k=>(List.length x0) - k) (0) h (st_congr1 (fun (d0:Int)=>(⟨[(0,aF s22 x0),(2,aB false),(3,aI (prevL x0 i)),(4,aI ((i:Nat):Int)),(6,aI (LA.leadS (x0.getD i []))),(12,aF s22 x0),(13,aI ((List.length x0:Nat):Int)),(14,aI ((i:Nat):Int)),(25,aF (.int 3) (x0.getD i [])),(26,aI (LA.leadS (x0.getD i []))),(27,aR (.int 3) ((x0.getD i []).getD (((LA.leadS (x0.getD i []))).toNat) 0) 0),(28,aI ((x0.getD i []).getD (((LA.leadS (x0.getD i []))).toNat) 0)),(29,aB (!decide (((x0.getD i []).getD (((LA.leadS (x0.getD i []))).toNat) 0)=1))),(31,aF s22 x0),(32,aI ((List.length x0:Nat):Int)),(33,aI d0)],[]⟩:St)) (show (0:Int)=(((0):Nat):Int) from by first | with_reducible rfl | (rfl) | rfl)) (by exact ⟨Nat.zero_le _,rfl⟩) ?_
     intro k a w hok1 h
     refine wp_seq ?_
     refine at_regq [] { ts:=[0,2,3,4,6,12,13,14,25,26,27,28,29,31,32,33,34],os:=[] } [] gamOK hT h (by kernel_rfl) trivial fun a w h=>then_normal (wp_seq ?_)
     refine at_test (decide (((k:Nat):Int) < ((List.length x0:Nat):Int))) h (by kernel_rfl) (fun h7=>?_) (fun h7=>?_)
     ·replace h7 : ((k : Nat) : Int) < ((List.length x0 : Nat) : Int) := of_decide_eq_true h7
      have hvi:=validM_at (m:=x0) (by assumption) i
      have hld:=LA.leadS_bd (x0.getD i [])
      have hvk:=validM_at (m:=x0) (by assumption) k
      refine wp_skip (then_normal (wp_seq (wp_block (wp_seq ?_))))
      refine at_regq [] { ts:=[0,2,3,4,6,7,8,12,13,14,25,26,27,28,29,31,32,33],os:=[] } [(0:Int)≤((k:Nat):Int)∧((k:Nat):Int) < ((List.length x0:Nat):Int)] gamOK hT h (by kernel_rfl) ⟨(by refine ⟨?_,?_⟩<;>(first | omega | (simp only [lsA];omega) | (simp<;>omega))),trivial⟩ fun a w h=>then_normal (wp_seq ?_)
      by_cases h8:((k:Nat):Int)=((i:Nat):Int)
      ·refine at_regq [{}, {}, { hint := some (aB false) }] { ts := [0, 2, 3, 4, 6, 12, 13, 14, 25, 26, 27, 28, 29, 31, 32, 33, 42, 43, 44, 45, 46, 47], os := [] } [(AV.p (.c (.v (.bool (!decide (((k : Nat) : Int) = ((i : Nat) : Int)))))) = AV.p (.c (.v (.bool false))))] gamOK hT h (by kernel_rfl) ⟨hint_bool (ndT h8), trivial⟩ fun a w h => then_normal ?_
       refine at_test false h (by kernel_rfl) (fun hh=>nomatch hh) (fun hh=>?_)
       refine wp_skip (in_normal (then_normal ?_))
       refine at_regq [{ nw:=true }] { ts:=[0,2,3,4,6,12,13,14,25,26,27,28,29,31,32,33,42,43,44,45,46],os:=[] } [I64 (((k:Nat):Int)+1)] gamOK hT h (by kernel_rfl) ⟨⟨by first | omega | (simp only [lsA];omega) | (simp<;>omega),by first | omega | (simp only [lsA];omega) | (simp<;>omega)⟩,trivial⟩ fun a w h=>?_
       replace h:=at_out (σ':=⟨[(0,aF s22 x0),(2,aB false),(3,aI (prevL x0 i)),(4,aI ((i:Nat):Int)),(6,aI (LA.leadS (x0.getD i []))),(12,aF s22 x0),(13,aI ((List.length x0:Nat):Int)),(14,aI ((i:Nat):Int)),(25,aF (.int 3) (x0.getD i [])),(26,aI (LA.leadS (x0.getD i []))),(27,aR (.int 3) ((x0.getD i []).getD (((LA.leadS (x0.getD i []))).toNat) 0) 0),(28,aI ((x0.getD i []).getD (((LA.leadS (x0.getD i []))).toNat) 0)),(29,aB (!decide (((x0.getD i []).getD (((LA.leadS (x0.getD i []))).toNat) 0)=1))),(31,aF s22 x0),(32,aI ((List.length x0:Nat):Int)),(33,aI (((k:Nat):Int)+1))],[]⟩) { ts:=[0,2,3,4,6,12,13,14,25,26,27,28,29,31,32,33],os:=[] } h (by kernel_rfl)
       exact ⟨k+1,at_eq h (st_congr1 (fun (d0:Int)=>(⟨[(0,aF s22 x0),(2,aB false),(3,aI (prevL x0 i)),(4,aI ((i:Nat):Int)),(6,aI (LA.leadS (x0.getD i []))),(12,aF s22 x0),(13,aI ((List.length x0:Nat):Int)),(14,aI ((i:Nat):Int)),(25,aF (.int 3) (x0.getD i [])),(26,aI (LA.leadS (x0.getD i []))),(27,aR (.int 3) ((x0.getD i []).getD (((LA.leadS (x0.getD i []))).toNat) 0) 0),(28,aI ((x0.getD i []).getD (((LA.leadS (x0.getD i []))).toNat) 0)),(29,aB (!decide (((x0.getD i []).getD (((LA.leadS (x0.getD i []))).toNat) 0)=1))),(31,aF s22 x0),(32,aI ((List.length x0:Nat):Int)),(33,aI d0)],[]⟩:St)) (show (((k:Nat):Int)+1:Int)=(((k+1):Nat):Int) from by first | with_reducible rfl | (omega) | rfl)),(by exact ⟨by omega,allN_succ hok1.2 (by exact clrB_t (by omega))⟩),(by omega)⟩
      ·refine at_regq [{}, {}, { hint := some (aB true) }] { ts := [0, 2, 3, 4, 6, 12, 13, 14, 25, 26, 27, 28, 29, 31, 32, 33, 42, 43, 44, 45, 46, 47], os := [] } [(AV.p (.c (.v (.bool (!decide (((k : Nat) : Int) = ((i : Nat) : Int)))))) = AV.p (.c (.v (.bool true)))), (0 : Int) ≤ (LA.leadS (x0.getD i [])) ∧ (LA.leadS (x0.getD i [])) < ((List.length (x0.getD k []) : Nat) : Int)] gamOK hT h (by kernel_rfl) ⟨hint_bool (ndF h8), (by refine ⟨?_, ?_⟩ <;> ((have hL0 := (show List.length (x0.getD k []) ≤ 1073741824 from ((Sh.fit_getD hf0 k)).1); first | omega | (simp only [lsA]; omega) | (simp <;> omega)))), trivial⟩ fun a w h => then_normal ?_
       refine at_test (!decide (((x0.getD k []).getD (((LA.leadS (x0.getD i []))).toNat) 0)=0)) h (by kernel_rfl) (fun h9=>?_) (fun h9=>?_)
       ·replace h9 : ¬ (((x0.getD k []).getD (((LA.leadS (x0.getD i []))).toNat) 0) = 0) := of_decide_eq_false (notT h9)
        refine wp_seq ?_
        refine at_regq [] { ts:=[0,2,3,4,6,12,13,14,25,26,27,28,29,31,32,33,42,43,44,45,46],os:=[] } [] gamOK hT h (by kernel_rfl) trivial fun a w h=>then_normal (wp_ret (in_ret (then_ret ?_)))
        have hs10:(allN (clrB x0 i) (List.length x0))=false:=by exact allN_at (i:=k) (by omega) (by exact clrB_f (by omega) (by omega))
        refine then_ret (in_ret (then_ret (in_ret (then_ret ?_))))
        have hs11:(allN (redB x0) (List.length x0))=false:=by exact allN_at (i:=i) (by omega) (by first | exact redB_f1 (by omega) | exact redB_f2 (by omega) | exact redB_f3 (by assumption))
        refine then_ret (in_ret (then_ret ?_))
        exact at_return (false,()) [] h (by kernel_rfl) trivial (congrArg (fun z=>(z,())) (show (false)=isRed x0 from by first | rfl | (unfold isRed;rw [if_pos h1,if_neg (neT hs11)])))
       ·replace h9 : ((x0.getD k []).getD (((LA.leadS (x0.getD i []))).toNat) 0) = 0 := of_decide_eq_true (notF h9)
        refine wp_skip (in_normal (then_normal ?_))
        refine at_regq [{ nw:=true }] { ts:=[0,2,3,4,6,12,13,14,25,26,27,28,29,31,32,33,42,43,44,45,46],os:=[] } [I64 (((k:Nat):Int)+1)] gamOK hT h (by kernel_rfl) ⟨⟨by first | omega | (simp only [lsA];omega) | (simp<;>omega),by first | omega | (simp only [lsA];omega) | (simp<;>omega)⟩,trivial⟩ fun a w h=>?_
        replace h:=at_out (σ':=⟨[(0,aF s22 x0),(2,aB false),(3,aI (prevL x0 i)),(4,aI ((i:Nat):Int)),(6,aI (LA.leadS (x0.getD i []))),(12,aF s22 x0),(13,aI ((List.length x0:Nat):Int)),(14,aI ((i:Nat):Int)),(25,aF (.int 3) (x0.getD i [])),(26,aI (LA.leadS (x0.getD i []))),(27,aR (.int 3) ((x0.getD i []).getD (((LA.leadS (x0.getD i []))).toNat) 0) 0),(28,aI ((x0.getD i []).getD (((LA.leadS (x0.getD i []))).toNat) 0)),(29,aB (!decide (((x0.getD i []).getD (((LA.leadS (x0.getD i []))).toNat) 0)=1))),(31,aF s22 x0),(32,aI ((List.length x0:Nat):Int)),(33,aI (((k:Nat):Int)+1))],[]⟩) { ts:=[0,2,3,4,6,12,13,14,25,26,27,28,29,31,32,33],os:=[] } h (by kernel_rfl)
        exact ⟨k+1,at_eq h (st_congr1 (fun (d0:Int)=>(⟨[(0,aF s22 x0),(2,aB false),(3,aI (prevL x0 i)),(4,aI ((i:Nat):Int)),(6,aI (LA.leadS (x0.getD i []))),(12,aF s22 x0),(13,aI ((List.length x0:Nat):Int)),(14,aI ((i:Nat):Int)),(25,aF (.int 3) (x0.getD i [])),(26,aI (LA.leadS (x0.getD i []))),(27,aR (.int 3) ((x0.getD i []).getD (((LA.leadS (x0.getD i []))).toNat) 0) 0),(28,aI ((x0.getD i []).getD (((LA.leadS (x0.getD i []))).toNat) 0)),(29,aB (!decide (((x0.getD i []).getD (((LA.leadS (x0.getD i []))).toNat) 0)=1))),(31,aF s22 x0),(32,aI ((List.length x0:Nat):Int)),(33,aI d0)],[]⟩:St)) (show (((k:Nat):Int)+1:Int)=(((k+1):Nat):Int) from by first | with_reducible rfl | (omega) | rfl)),(by exact ⟨by omega,allN_succ hok1.2 (by exact clrB_t (by omega))⟩),(by omega)⟩
     ·replace h7 : ¬ (((k : Nat) : Int) < ((List.length x0 : Nat) : Int)) := of_decide_eq_false h7
      refine wp_exit (then_exit ?_)
      have hs12:(allN (clrB x0 i) (List.length x0))=true:=by exact allN_eq (by omega) hok1.1 hok1.2
      refine then_exit (in_hit (then_normal ?_))
      refine at_regq [] { ts:=[0,2,3,12,13,14,25,26,27,28,29],os:=[] } [] gamOK hT h (by kernel_rfl) trivial fun a w h=>in_normal (then_normal ?_)
      refine at_regq [{ nw:=true }] { ts:=[0,2,3,12,13,14,25,26,27,28,29],os:=[] } [I64 (((i:Nat):Int)+1)] gamOK hT h (by kernel_rfl) ⟨⟨by first | omega | (simp only [lsA];omega) | (simp<;>omega),by first | omega | (simp only [lsA];omega) | (simp<;>omega)⟩,trivial⟩ fun a w h=>?_
      replace h:=at_out (σ':=⟨[(0,aF s22 x0),(2,aB false),(3,aI (LA.leadS (x0.getD i []))),(12,aF s22 x0),(13,aI ((List.length x0:Nat):Int)),(14,aI (((i:Nat):Int)+1))],[]⟩) { ts:=[0,2,3,12,13,14],os:=[] } h (by kernel_rfl)
      exact ⟨i+1,at_eq h (st_congr2 (fun (d0:Int) (d1:Int)=>(⟨[(0,aF s22 x0),(2,aB false),(3,aI d0),(12,aF s22 x0),(13,aI ((List.length x0:Nat):Int)),(14,aI d1)],[]⟩:St)) (show ((LA.leadS (x0.getD i [])):Int)=(prevL x0 (i+1)) from by first | with_reducible rfl | (rfl) | rfl) (show (((i:Nat):Int)+1:Int)=(((i+1):Nat):Int) from by first | with_reducible rfl | (omega) | rfl)),(by exact ⟨by omega,allN_succ hok0.2 (by exact redB_t (by omega) (by omega) (by assumption))⟩),(by omega)⟩
  ·replace h2 : ¬ (((i : Nat) : Int) < ((List.length x0 : Nat) : Int)) := of_decide_eq_false h2
   refine wp_exit (then_exit ?_)
   have hs13:(allN (redB x0) (List.length x0))=true:=by exact allN_eq (by omega) hok0.1 hok0.2
   refine then_exit (in_hit (then_normal (wp_seq ?_)))
   refine at_regq [] { ts:=[2],os:=[] } [] gamOK hT h (by kernel_rfl) trivial fun a w h=>then_normal (wp_ret ?_)
   exact at_return (true,()) [] h (by kernel_rfl) trivial (congrArg (fun z=>(z,())) (show (true)=isRed x0 from by first | rfl | (unfold isRed;rw [if_pos h1,if_pos hs13])))

theorem fitV {n:Nat} {v:List Int} (h:LA.VokB n v) (hn:n≤40):Sh.fit s22 v:=Sh.fit_len rfl (by have:=h.1;omega)
theorem fitM {n:Nat} {m:List (List Int)} (h:∀ r∈m,LA.VokB n r) (hn:n≤40) (hm:List.length m≤1073741824):Sh.fit s66 m:=⟨hm,fun r hr=>fitV (h r hr) hn⟩
theorem validV_of {n:Nat} {v:List Int} (h:LA.VokB n v) (hn:n≤40):validV v=true:=by
 unfold validV
 rw [if_pos (show List.all v isEl=true from List.all_eq_true.2 fun x hx=>inR_true (h.2 x hx))]
 exact decide_eq_true (by have:=h.1;omega)
theorem addV_L {n:Nat} {a b:List Int} {k:Int} (ha:LA.VokB n a) (hb:LA.VokB n b) (hn:n≤40) (hk:0≤k∧k≤1018):addV a b k=LA.addS a b k:=addV_ok (validV_of ha hn) (validV_of hb hn) (by rw [ha.1,hb.1]) hk
theorem addOK_of {n:Nat} {a b:List Int} {k:Int} (ha:LA.VokB n a) (hb:LA.VokB n b) (hk:0≤k∧k≤1019):addOK a b k:=⟨by rw [ha.1,hb.1],hk,ha.rng,hb.rng⟩
def l7P (m:List (List Int)) (n:Int):Prop:=∃ w:Nat,(∀ r∈m,LA.VokB w r)∧w≤40∧0≤n∧n≤(w:Int)
theorem l7_lead {w k p:Nat} {R:List (List Int)} (h:∀ r∈R,LA.VokB w r) (hw:w≤40) (hp:p < R.length) (hz:LA.ent R p k≠0):scaleV (R.getD p []) (invF ((R.getD p []).getD k 0))=LA.gjLead R p k:=by
 have hv:=h _ (LA.getD_in hp)
 rw [scaleV_ok (validV_of hv hw) (invF_bd _),invF_el (hv.rng k)];rfl
theorem ins_w {n:Nat} {r:List Int} (h:LA.VokB n r) (hn:n≤40) (hl:0≤LA.leadS r):scaleV r (invF (r.getD (LA.leadS r).toNat 0))=LA.scaleS r (LA.invS (r.getD (LA.leadS r).toNat 0)):=by
 rw [scaleV_ok (validV_of h hn) (invF_bd _),invF_el (h.rng _)]
theorem l7_cols {m:List (List Int)}:(colsOf m).toNat=List.length (m.getD 0 []):=by
 unfold colsOf
 split
 ·rename_i h;rw [show m=[] from List.eq_nil_of_length_eq_zero (by omega)];rfl
 ·exact Int.toNat_natCast _
theorem l7_w {m:List (List Int)} (h:validM m=true):List.length (m.getD 0 [])≤40:=by
 rcases Nat.eq_zero_or_pos m.length with h0 | h0
 ·rw [List.eq_nil_of_length_eq_zero h0];decide
 ·exact (validV_t ((validM_t h).2 _ (getD_mem h0)).1).1
theorem l7P_of {m:List (List Int)} (h:validM m=true):l7P m (colsOf m):=by
 have hc:=l7_cols (m:=m)
 refine ⟨List.length (m.getD 0 []),validM_ok h,l7_w h,?_,?_⟩
 ·unfold colsOf;split<;>omega
 ·rw [← hc]; have : 0 ≤ colsOf m := by unfold colsOf; split <;> omega
  omega
theorem isRed_iff {n:Nat} {m:List (List Int)} (h:∀ r∈m,LA.VokB n r) (hn:n≤40):(validM m=true∧allN (redB m) (List.length m)=true)↔LA.RedL n m:=by
 constructor
 ·rintro ⟨h1,h2⟩;exact (red_all h).1 h2
 ·intro hr
  refine ⟨?_,(red_all h).2 hr⟩
  unfold validM
  have hl:=hr.len
  rw [if_pos (List.all_eq_true.2 fun r hm=>by
   rw [Bool.and_eq_true]
   refine ⟨validV_of (h r hm) hn,decide_eq_true ?_⟩
   have h0:0 < m.length:=List.length_pos_of_mem hm
   rw [(h r hm).1,(h _ (LA.getD_in h0)).1])]
  exact decide_eq_true (by omega)
def D_spec_l7Reduce:=(fun (m:List (List Int)) (n:Int)=>LA.gjS m n.toNat)
abbrev Q_spec_l7Reduce:=(fun (x0:(List (List Int))) (x1:Int)=>Sh.fit s66 x0∧l7P x0 x1)
def S_spec_l7Reduce:Sum:={ fid:=155,dom:=[s66,(.int 3)],cod:=[s66],dp:=false,fz:=false,pre:=fun x=>Q_spec_l7Reduce x.1 x.2.1,g:=fun x=>((D_spec_l7Reduce x.1 x.2.1),()) }
def S_spec_l7Reduce_tab:List (Nat×Sum):=[(103,S_spec_l6Copy),(162,S_spec_InverseField),(161,S_spec_ScaleVector),(163,S_spec_AddScaled)]
theorem S_spec_l7Reduce_ok:FnOK Try.prog 155 S_spec_l7Reduce:=by
 refine at_enter 110 (fun x=>⟨[(0,aF s22 x.1),(1,aI x.2.1)],[]⟩) Try.func155 rfl (by kernel_rfl) (fun x=>rfl) ?_
 rintro w0 Z0 ⟨x0,x1,u⟩ a w
 revert x0 x1
 intro (x0:(List (List Int))) (x1:Int) hpre hlens h
 replace hpre:Q_spec_l7Reduce x0 x1:=hpre
 have hT:TabOK Try.prog S_spec_l7Reduce_tab:=(.cons S_spec_l6Copy_ok (.cons S_spec_InverseField_ok (.cons S_spec_ScaleVector_ok (.cons S_spec_AddScaled_ok .nil))))
 obtain ⟨hf0,hpx⟩:=hpre
 have hn0_1:List.length x0≤1073741824:=hf0.1
 obtain ⟨w_,hw1,hw2,hw3,hw4⟩:=hpx
 refine wp_seq ?_
 refine at_regq [] { ts:=[0,1,4],os:=[] } [] gamOK hT h (by kernel_rfl) trivial fun a w h=>then_normal (wp_seq ?_)
 refine at_regq [{},{ ids:=[1] }] { ts:=[1,4,5],os:=[1] } [Q_spec_l6Copy x0] gamOK hT h (by kernel_rfl) ⟨(by exact hf0),trivial⟩ fun a w h=>then_normal (wp_seq ?_)
 refine at_regq [] { ts:=[1,4,5,6],os:=[1] } [] gamOK hT h (by kernel_rfl) trivial fun a w h=>then_normal (wp_seq (wp_seq ?_))
 refine at_regq [] { ts:=[1,4,5,6,7],os:=[1] } [] gamOK hT h (by kernel_rfl) trivial fun a w h=>then_normal (wp_block ?_)
 replace h:=at_out (σ':=⟨[(1,aI x1),(4,.p (.c (cN))),(5,aS 1),(6,aI 0),(7,aI 0)],[(1,oF s22 x0)]⟩) { ts:=[1,4,5,6,7],os:=[1] } h (by kernel_rfl)
 refine at_loop (fun k:Nat=>(⟨[(1,aI x1),(4,.p (.c (cN))),(5,aS 1),(6,aI (((LA.gjAt x0 k).2:Nat):Int)),(7,aI ((k:Nat):Int))],[(1,oF s22 (LA.gjAt x0 k).1)]⟩:St)) (fun k=>k≤x1.toNat) (fun k=>x1.toNat - k) (0) h (st_congr3 (fun (d0:List (List Int)) (d1:Int) (d2:Int)=>(⟨[(1,aI x1),(4,.p (.c (cN))),(5,aS 1),(6,aI d1),(7,aI d2)],[(1,oF s22 d0)]⟩:St)) (show (x0:List (List Int))=(LA.gjAt x0 (0)).1 from by first | with_reducible rfl | (rfl) | rfl) (show (0:Int)=(((LA.gjAt x0 (0)).2:Nat):Int) from by first | with_reducible rfl | (rfl) | rfl) (show (0:Int)=(((0):Nat):Int) from by first | with_reducible rfl | (rfl) | rfl)) (by omega) ?_
 intro k a w hok0 h
 have hgv:=(LA.gj_inv hw1 k).1
 have hgn:=(LA.gj_inv hw1 k).2.1
 have hgl:=LA.gjAt_le x0 k
 refine wp_seq (wp_seq ?_)
 by_cases h1:((k:Nat):Int) < x1
 ·refine at_regq [{}, {}, { hint := some (aB true) }] { ts := [1, 4, 5, 6, 7, 17, 18, 19, 20, 21], os := [1] } [(AV.p (.c (.v (.bool (decide (((k : Nat) : Int) < x1))))) = AV.p (.c (.v (.bool true))))] gamOK hT h (by kernel_rfl) ⟨hint_bool (decide_eq_true h1), trivial⟩ fun a w h => then_normal ?_
  refine at_test (decide ((((LA.gjAt x0 k).2:Nat):Int) < ((List.length (LA.gjAt x0 k).1:Nat):Int))) h (by kernel_rfl) (fun h2=>?_) (fun h2=>?_)
  ·replace h2 : (((LA.gjAt x0 k).2 : Nat) : Int) < ((List.length (LA.gjAt x0 k).1 : Nat) : Int) := of_decide_eq_true h2
   have hat:(LA.gjAt x0 k).2 < List.length (LA.gjAt x0 k).1:=by omega
   refine wp_skip (then_normal (wp_seq (wp_block (wp_seq ?_))))
   refine at_regq [] { ts:=[1,4,5,6,7,8,17,18,19,20],os:=[1] } [] gamOK hT h (by kernel_rfl) trivial fun a w h=>then_normal (wp_seq (wp_block ?_))
   replace h:=at_out (σ':=⟨[(1,aI x1),(4,.p (.c (cN))),(5,aS 1),(6,aI (((LA.gjAt x0 k).2:Nat):Int)),(7,aI ((k:Nat):Int)),(8,aI (((LA.gjAt x0 k).2:Nat):Int)),(17,aI (((LA.gjAt x0 k).2:Nat):Int)),(18,aS 1),(19,aI ((List.length (LA.gjAt x0 k).1:Nat):Int)),(20,aB (decide ((((LA.gjAt x0 k).2:Nat):Int) < ((List.length (LA.gjAt x0 k).1:Nat):Int))))],[(1,oF s22 (LA.gjAt x0 k).1)]⟩) { ts:=[1,4,5,6,7,8,17,18,19,20],os:=[1] } h (by kernel_rfl)
   refine at_loop (fun j:Nat=>(⟨[(1,aI x1),(4,.p (.c (cN))),(5,aS 1),(6,aI (((LA.gjAt x0 k).2:Nat):Int)),(7,aI ((k:Nat):Int)),(8,aI (((LA.gjAt x0 k).2+j:Nat):Int)),(17,aI (((LA.gjAt x0 k).2:Nat):Int)),(18,aS 1),(19,aI ((List.length (LA.gjAt x0 k).1:Nat):Int)),(20,aB (decide ((((LA.gjAt x0 k).2:Nat):Int) < ((List.length (LA.gjAt x0 k).1:Nat):Int))))],[(1,oF s22 (LA.gjAt x0 k).1)]⟩:St)) (fun j=>((LA.gjAt x0 k).2+j≤List.length (LA.gjAt x0 k).1∧∀ i,(LA.gjAt x0 k).2≤i→i < (LA.gjAt x0 k).2+j→LA.ent (LA.gjAt x0 k).1 i k=0)) (fun j=>List.length (LA.gjAt x0 k).1 - ((LA.gjAt x0 k).2+j)) (0) h (st_congr1 (fun (d0:Int)=>(⟨[(1,aI x1),(4,.p (.c (cN))),(5,aS 1),(6,aI (((LA.gjAt x0 k).2:Nat):Int)),(7,aI ((k:Nat):Int)),(8,aI d0),(17,aI (((LA.gjAt x0 k).2:Nat):Int)),(18,aS 1),(19,aI ((List.length (LA.gjAt x0 k).1:Nat):Int)),(20,aB (decide ((((LA.gjAt x0 k).2:Nat):Int) < ((List.length (LA.gjAt x0 k).1:Nat):Int))))],[(1,oF s22 (LA.gjAt x0 k).1)]⟩:St)) (show ((((LA.gjAt x0 k).2:Nat):Int):Int)=(((LA.gjAt x0 k).2+(0):Nat):Int) from by first | with_reducible rfl | (rfl) | rfl)) (by exact ⟨by omega,fun i h1 h2=>absurd h2 (by omega)⟩) ?_
   intro j a w hok1 h
   refine wp_seq (wp_seq ?_)
   by_cases h3:(((LA.gjAt x0 k).2+j:Nat):Int) < ((List.length (LA.gjAt x0 k).1:Nat):Int)
   ·have hrp := hgv _ (LA.getD_in (rows := (LA.gjAt x0 k).1) (i := (LA.gjAt x0 k).2 + j) (by omega))
    have hrpl:=hrp.1
    have hrpr:=hrp.rng k
    refine at_regq [{},{},{},{ hint:=some (aB true) }] { ts:=[1,4,5,6,7,8,17,18,19,20,30,31,32,33,34,35,36,37,38],os:=[1] } [(AV.p (.c (.v (.bool (decide ((((LA.gjAt x0 k).2+j:Nat):Int) < ((List.length (LA.gjAt x0 k).1:Nat):Int))))))=AV.p (.c (.v (.bool true)))),(0:Int)≤(((LA.gjAt x0 k).2+j:Nat):Int)∧(((LA.gjAt x0 k).2+j:Nat):Int) < ((List.length (LA.gjAt x0 k).1:Nat):Int),(LA.gjAt x0 k).2+j < List.length (LA.gjAt x0 k).1,(0:Int)≤((k:Nat):Int)∧((k:Nat):Int) < ((List.length ((LA.gjAt x0 k).1.getD ((LA.gjAt x0 k).2+j) []):Nat):Int)] gamOK hT h (by kernel_rfl) ⟨hint_bool (decide_eq_true h3),(by refine ⟨?_,?_⟩<;>(first | omega | (simp only [lsA];omega) | (simp<;>omega))),(by first | omega | (simp only [lsA];omega) | (simp<;>omega)),(by refine ⟨?_,?_⟩<;>(first | omega | (simp only [lsA];omega) | (simp<;>omega))),trivial⟩ fun a w h=>then_normal ?_
    refine at_test (decide ((((LA.gjAt x0 k).1.getD ((LA.gjAt x0 k).2+j) []).getD k 0)=0)) h (by kernel_rfl) (fun h4=>?_) (fun h4=>?_)
    ·replace h4 : (((LA.gjAt x0 k).1.getD ((LA.gjAt x0 k).2 + j) []).getD k 0) = 0 := of_decide_eq_true h4
     refine wp_skip (then_normal (wp_block ?_))
     refine at_regq [{},{ nw:=true }] { ts:=[1,4,5,6,7,8,17,18,19,20,30,31,32,33,34,35,36,37],os:=[1] } [I64 ((((LA.gjAt x0 k).2+j:Nat):Int)+1)] gamOK hT h (by kernel_rfl) ⟨⟨by first | omega | (simp only [lsA];omega) | (simp<;>omega),by first | omega | (simp only [lsA];omega) | (simp<;>omega)⟩,trivial⟩ fun a w h=>in_normal ?_
     replace h:=at_out (σ':=⟨[(1,aI x1),(4,.p (.c (cN))),(5,aS 1),(6,aI (((LA.gjAt x0 k).2:Nat):Int)),(7,aI ((k:Nat):Int)),(8,aI ((((LA.gjAt x0 k).2+j:Nat):Int)+1)),(17,aI (((LA.gjAt x0 k).2:Nat):Int)),(18,aS 1),(19,aI ((List.length (LA.gjAt x0 k).1:Nat):Int)),(20,aB (decide ((((LA.gjAt x0 k).2:Nat):Int) < ((List.length (LA.gjAt x0 k).1:Nat):Int))))],[(1,oF s22 (LA.gjAt x0 k).1)]⟩) { ts:=[1,4,5,6,7,8,17,18,19,20],os:=[1] } h (by kernel_rfl)
     exact ⟨j+1,at_eq h (st_congr1 (fun (d0:Int)=>(⟨[(1,aI x1),(4,.p (.c (cN))),(5,aS 1),(6,aI (((LA.gjAt x0 k).2:Nat):Int)),(7,aI ((k:Nat):Int)),(8,aI d0),(17,aI (((LA.gjAt x0 k).2:Nat):Int)),(18,aS 1),(19,aI ((List.length (LA.gjAt x0 k).1:Nat):Int)),(20,aB (decide ((((LA.gjAt x0 k).2:Nat):Int) < ((List.length (LA.gjAt x0 k).1:Nat):Int))))],[(1,oF s22 (LA.gjAt x0 k).1)]⟩:St)) (show ((((LA.gjAt x0 k).2+j:Nat):Int)+1:Int)=(((LA.gjAt x0 k).2+(j+1):Nat):Int) from by first | with_reducible rfl | (omega) | rfl)),(by exact ⟨by omega,LA.ent_step hok1.2 (by assumption)⟩),(by omega)⟩
    ·replace h4 : ¬ ((((LA.gjAt x0 k).1.getD ((LA.gjAt x0 k).2 + j) []).getD k 0) = 0) := of_decide_eq_false h4
     refine wp_exit (then_exit ?_)
     replace h:=at_out (σ':=⟨[(1,aI x1),(4,.p (.c (cN))),(5,aS 1),(6,aI (((LA.gjAt x0 k).2:Nat):Int)),(7,aI ((k:Nat):Int)),(8,aI (((LA.gjAt x0 k).2+j:Nat):Int)),(17,aI (((LA.gjAt x0 k).2:Nat):Int)),(18,aS 1),(19,aI ((List.length (LA.gjAt x0 k).1:Nat):Int)),(20,aB (decide ((((LA.gjAt x0 k).2:Nat):Int) < ((List.length (LA.gjAt x0 k).1:Nat):Int)))),(30,aS 1),(31,aI (((LA.gjAt x0 k).2+j:Nat):Int)),(32,aE 1 ((LA.gjAt x0 k).2+j) 0 1),(33,aF (.int 3) ((LA.gjAt x0 k).1.getD ((LA.gjAt x0 k).2+j) [])),(34,aI ((k:Nat):Int)),(35,aR (.int 3) (((LA.gjAt x0 k).1.getD ((LA.gjAt x0 k).2+j) []).getD k 0) 0),(36,aI (((LA.gjAt x0 k).1.getD ((LA.gjAt x0 k).2+j) []).getD k 0)),(37,aB (decide ((((LA.gjAt x0 k).1.getD ((LA.gjAt x0 k).2+j) []).getD k 0)=0)))],[(1,oF s22 (LA.gjAt x0 k).1)]⟩) { ts:=[1,4,5,6,7,8,17,18,19,20,30,31,32,33,34,35,36,37],os:=[1] } h (by kernel_rfl)
     replace h:=at_eq (σ':=⟨[(1,aI x1),(4,.p (.c (cN))),(5,aS 1),(6,aI (((LA.gjAt x0 k).2:Nat):Int)),(7,aI ((k:Nat):Int)),(8,aI ((LA.gp x0 k:Nat):Int)),(17,aI (((LA.gjAt x0 k).2:Nat):Int)),(18,aS 1),(19,aI ((List.length (LA.gjAt x0 k).1:Nat):Int)),(20,aB (decide ((((LA.gjAt x0 k).2:Nat):Int) < ((List.length (LA.gjAt x0 k).1:Nat):Int)))),(30,aS 1),(31,aI (((LA.gjAt x0 k).2+j:Nat):Int)),(32,aE 1 ((LA.gjAt x0 k).2+j) 0 1),(33,aF (.int 3) ((LA.gjAt x0 k).1.getD ((LA.gjAt x0 k).2+j) [])),(34,aI ((k:Nat):Int)),(35,aR (.int 3) (((LA.gjAt x0 k).1.getD ((LA.gjAt x0 k).2+j) []).getD k 0) 0),(36,aI (((LA.gjAt x0 k).1.getD ((LA.gjAt x0 k).2+j) []).getD k 0)),(37,aB (decide ((((LA.gjAt x0 k).1.getD ((LA.gjAt x0 k).2+j) []).getD k 0)=0)))],[(1,oF s22 (LA.gjAt x0 k).1)]⟩) h (st_congr1 (fun (d0:Int)=>(⟨[(1,aI x1),(4,.p (.c (cN))),(5,aS 1),(6,aI (((LA.gjAt x0 k).2:Nat):Int)),(7,aI ((k:Nat):Int)),(8,aI d0),(17,aI (((LA.gjAt x0 k).2:Nat):Int)),(18,aS 1),(19,aI ((List.length (LA.gjAt x0 k).1:Nat):Int)),(20,aB (decide ((((LA.gjAt x0 k).2:Nat):Int) < ((List.length (LA.gjAt x0 k).1:Nat):Int)))),(30,aS 1),(31,aI (((LA.gjAt x0 k).2+j:Nat):Int)),(32,aE 1 ((LA.gjAt x0 k).2+j) 0 1),(33,aF (.int 3) ((LA.gjAt x0 k).1.getD ((LA.gjAt x0 k).2+j) [])),(34,aI ((k:Nat):Int)),(35,aR (.int 3) (((LA.gjAt x0 k).1.getD ((LA.gjAt x0 k).2+j) []).getD k 0) 0),(36,aI (((LA.gjAt x0 k).1.getD ((LA.gjAt x0 k).2+j) []).getD k 0)),(37,aB (decide ((((LA.gjAt x0 k).1.getD ((LA.gjAt x0 k).2+j) []).getD k 0)=0)))],[(1,oF s22 (LA.gjAt x0 k).1)]⟩:St)) (show ((((LA.gjAt x0 k).2+j:Nat):Int):Int)=((LA.gp x0 k:Nat):Int) from by first | with_reducible rfl | (rw [LA.gp_eq hok1.1 hok1.2 (fun hh=>by first | (exfalso;omega) | assumption)]) | rfl))
     have hgb:=LA.gp_bd x0 k
     refine then_exit (in_hit (then_normal (wp_seq (wp_seq ?_))))
     refine at_regq [] { ts:=[1,4,5,6,7,8,17,18,19,20,30,31,32,33,34,35,36,37,44],os:=[1] } [] gamOK hT h (by kernel_rfl) trivial fun a w h=>then_normal ?_
     refine at_test (decide (((LA.gp x0 k:Nat):Int)=((List.length (LA.gjAt x0 k).1:Nat):Int))) h (by kernel_rfl) (fun h5=>?_) (fun h5=>?_)
     ·replace h5 : ((LA.gp x0 k : Nat) : Int) = ((List.length (LA.gjAt x0 k).1 : Nat) : Int) := of_decide_eq_true h5
      refine wp_exit (then_exit (in_hit (then_normal ?_)))
      refine at_regq [{},{ nw:=true }] { ts:=[1,4,5,6,7,17,18,19,20,30,31,32,33,34,35,36,37],os:=[1] } [I64 (((k:Nat):Int)+1)] gamOK hT h (by kernel_rfl) ⟨⟨by first | omega | (simp only [lsA];omega) | (simp<;>omega),by first | omega | (simp only [lsA];omega) | (simp<;>omega)⟩,trivial⟩ fun a w h=>?_
      replace h:=at_out (σ':=⟨[(1,aI x1),(4,.p (.c (cN))),(5,aS 1),(6,aI (((LA.gjAt x0 k).2:Nat):Int)),(7,aI (((k:Nat):Int)+1))],[(1,oF s22 (LA.gjAt x0 k).1)]⟩) { ts:=[1,4,5,6,7],os:=[1] } h (by kernel_rfl)
      exact ⟨k+1,at_eq h (st_congr3 (fun (d0:List (List Int)) (d1:Int) (d2:Int)=>(⟨[(1,aI x1),(4,.p (.c (cN))),(5,aS 1),(6,aI d1),(7,aI d2)],[(1,oF s22 d0)]⟩:St)) (show ((LA.gjAt x0 k).1:List (List Int))=(LA.gjAt x0 (k+1)).1 from by first | with_reducible rfl | (first | (rw [LA.gm_none (by omega) (by omega)];done) | (rw [LA.gm_done (i:=i) hat (by omega) (by omega)];try first | rfl | (dsimp only;omega))) | rfl) (show ((((LA.gjAt x0 k).2:Nat):Int):Int)=(((LA.gjAt x0 (k+1)).2:Nat):Int) from by first | with_reducible rfl | (first | (rw [LA.gm_none (by omega) (by omega)];done) | (rw [LA.gm_done (i:=i) hat (by omega) (by omega)];try first | rfl | (dsimp only;omega))) | rfl) (show (((k:Nat):Int)+1:Int)=(((k+1):Nat):Int) from by first | with_reducible rfl | (omega) | rfl)),(by omega),(by omega)⟩
     ·replace h5 : ¬ (((LA.gp x0 k : Nat) : Int) = ((List.length (LA.gjAt x0 k).1 : Nat) : Int)) := of_decide_eq_false h5
      have hgpl:LA.gp x0 k < List.length (LA.gjAt x0 k).1:=by have:=LA.gp_bd x0 k;omega
      have hgpz:=(LA.gp_bd x0 k).2.2 hgpl
      have hpv:=hgv _ (LA.getD_in (rows:=(LA.gjAt x0 k).1) hgpl)
      have hpvl:=hpv.1
      have hav:=hgv _ (LA.getD_in (rows:=(LA.gjAt x0 k).1) hat)
      refine wp_skip (then_normal (wp_seq ?_))
      refine at_regq [] { ts:=[1,4,5,6,7,8,9,17,18,19,20,30,31,32,33,34,35,36,37],os:=[1] } [(0:Int)≤((LA.gp x0 k:Nat):Int)∧((LA.gp x0 k:Nat):Int) < ((List.length (LA.gjAt x0 k).1:Nat):Int),LA.gp x0 k < List.length (LA.gjAt x0 k).1] gamOK hT h (by kernel_rfl) ⟨(by refine ⟨?_,?_⟩<;>(first | omega | (simp only [lsA];omega) | (simp<;>omega))),(by first | omega | (simp only [lsA];omega) | (simp<;>omega)),trivial⟩ fun a w h=>then_normal (wp_seq ?_)
      refine at_regq [] { ts:=[1,4,5,6,7,9,17,18,19,20,30,31,32,33,34,35,36,37],os:=[1] } [(0:Int)≤(((LA.gjAt x0 k).2:Nat):Int)∧(((LA.gjAt x0 k).2:Nat):Int) < ((List.length (LA.gjAt x0 k).1:Nat):Int),(LA.gjAt x0 k).2 < List.length (LA.gjAt x0 k).1,(0:Int)≤((LA.gp x0 k:Nat):Int)∧((LA.gp x0 k:Nat):Int) < ((List.length (LA.gjAt x0 k).1:Nat):Int),LA.gp x0 k < List.length (LA.gjAt x0 k).1] gamOK hT h (by kernel_rfl) ⟨(by refine ⟨?_,?_⟩<;>(first | omega | (simp only [lsA];omega) | (simp<;>omega))),(by first | omega | (simp only [lsA];omega) | (simp<;>omega)),(by refine ⟨?_,?_⟩<;>(first | omega | (simp only [lsA];omega) | (simp<;>omega))),(by first | omega | (simp only [lsA];omega) | (simp<;>omega)),trivial⟩ fun a w h=>then_normal (wp_seq ?_)
      refine at_regq [{},{},{},{},{},{},{},{},{ frz:=true }] { ts:=[1,4,5,6,7,17,18,19,20,30,31,32,33,34,35,36,37],os:=[1] } [(0:Int)≤((k:Nat):Int)∧((k:Nat):Int) < ((List.length ((LA.gjAt x0 k).1.getD (LA.gp x0 k) []):Nat):Int),True,Q_spec_ScaleVector ((LA.gjAt x0 k).1.getD (LA.gp x0 k) []) (invF (((LA.gjAt x0 k).1.getD (LA.gp x0 k) []).getD k 0)),(0:Int)≤(((LA.gjAt x0 k).2:Nat):Int)∧(((LA.gjAt x0 k).2:Nat):Int) < ((List.length (List.set (LA.gjAt x0 k).1 (LA.gp x0 k) ((LA.gjAt x0 k).1.getD (LA.gjAt x0 k).2 [])):Nat):Int),(LA.gjAt x0 k).2 < List.length (List.set (LA.gjAt x0 k).1 (LA.gp x0 k) ((LA.gjAt x0 k).1.getD (LA.gjAt x0 k).2 []))] gamOK hT h (by kernel_rfl) ⟨(by refine ⟨?_,?_⟩<;>(first | omega | (simp only [lsA];omega) | (simp<;>omega))),trivial,(by exact fitV hpv hw2),(by refine ⟨?_,?_⟩<;>(first | omega | (simp only [lsA];omega) | (simp<;>omega))),(by first | omega | (simp only [lsA];omega) | (simp<;>omega)),trivial⟩ fun a w h=>then_normal (wp_seq (wp_seq ?_))
      refine at_regq [] { ts:=[1,4,5,6,7,10,17,18,19,20,30,31,32,33,34,35,36,37],os:=[1] } [] gamOK hT h (by kernel_rfl) trivial fun a w h=>then_normal (wp_block ?_)
      replace h:=at_out (σ':=⟨[(1,aI x1),(4,.p (.c (cN))),(5,aS 1),(6,aI (((LA.gjAt x0 k).2:Nat):Int)),(7,aI ((k:Nat):Int)),(10,aI 0),(17,aI (((LA.gjAt x0 k).2:Nat):Int)),(18,aS 1),(19,aI ((List.length (LA.gjAt x0 k).1:Nat):Int)),(20,aB (decide ((((LA.gjAt x0 k).2:Nat):Int) < ((List.length (LA.gjAt x0 k).1:Nat):Int)))),(30,aS 1),(31,aI (((LA.gjAt x0 k).2+j:Nat):Int)),(32,aE 1 ((LA.gjAt x0 k).2+j) 0 1),(33,aF (.int 3) ((LA.gjAt x0 k).1.getD ((LA.gjAt x0 k).2+j) [])),(34,aI ((k:Nat):Int)),(35,aR (.int 3) (((LA.gjAt x0 k).1.getD ((LA.gjAt x0 k).2+j) []).getD k 0) 0),(36,aI (((LA.gjAt x0 k).1.getD ((LA.gjAt x0 k).2+j) []).getD k 0)),(37,aB (decide ((((LA.gjAt x0 k).1.getD ((LA.gjAt x0 k).2+j) []).getD k 0)=0)))],[(1,oF s22 (List.set (List.set (LA.gjAt x0 k).1 (LA.gp x0 k) ((LA.gjAt x0 k).1.getD (LA.gjAt x0 k).2 [])) (LA.gjAt x0 k).2 (scaleV ((LA.gjAt x0 k).1.getD (LA.gp x0 k) []) (invF (((LA.gjAt x0 k).1.getD (LA.gp x0 k) []).getD k 0)))))]⟩) { ts:=[1,4,5,6,7,10,17,18,19,20,30,31,32,33,34,35,36,37],os:=[1] } h (by kernel_rfl)
      refine at_loop (fun i:Nat=>(⟨[(1,aI x1),(4,.p (.c (cN))),(5,aS 1),(6,aI (((LA.gjAt x0 k).2:Nat):Int)),(7,aI ((k:Nat):Int)),(10,aI ((i:Nat):Int)),(17,aI (((LA.gjAt x0 k).2:Nat):Int)),(18,aS 1),(19,aI ((List.length (LA.gjAt x0 k).1:Nat):Int)),(20,aB (decide ((((LA.gjAt x0 k).2:Nat):Int) < ((List.length (LA.gjAt x0 k).1:Nat):Int)))),(30,aS 1),(31,aI (((LA.gjAt x0 k).2+j:Nat):Int)),(32,aE 1 ((LA.gjAt x0 k).2+j) 0 1),(33,aF (.int 3) ((LA.gjAt x0 k).1.getD ((LA.gjAt x0 k).2+j) [])),(34,aI ((k:Nat):Int)),(35,aR (.int 3) (((LA.gjAt x0 k).1.getD ((LA.gjAt x0 k).2+j) []).getD k 0) 0),(36,aI (((LA.gjAt x0 k).1.getD ((LA.gjAt x0 k).2+j) []).getD k 0)),(37,aB (decide ((((LA.gjAt x0 k).1.getD ((LA.gjAt x0 k).2+j) []).getD k 0)=0)))],[(1,oF s22 (LA.gm x0 k i))]⟩:St)) (fun i=>i≤List.length (LA.gjAt x0 k).1) (fun i=>List.length (LA.gjAt x0 k).1 - i) (0) h (st_congr2 (fun (d0:List (List Int)) (d1:Int)=>(⟨[(1,aI x1),(4,.p (.c (cN))),(5,aS 1),(6,aI (((LA.gjAt x0 k).2:Nat):Int)),(7,aI ((k:Nat):Int)),(10,aI d1),(17,aI (((LA.gjAt x0 k).2:Nat):Int)),(18,aS 1),(19,aI ((List.length (LA.gjAt x0 k).1:Nat):Int)),(20,aB (decide ((((LA.gjAt x0 k).2:Nat):Int) < ((List.length (LA.gjAt x0 k).1:Nat):Int)))),(30,aS 1),(31,aI (((LA.gjAt x0 k).2+j:Nat):Int)),(32,aE 1 ((LA.gjAt x0 k).2+j) 0 1),(33,aF (.int 3) ((LA.gjAt x0 k).1.getD ((LA.gjAt x0 k).2+j) [])),(34,aI ((k:Nat):Int)),(35,aR (.int 3) (((LA.gjAt x0 k).1.getD ((LA.gjAt x0 k).2+j) []).getD k 0) 0),(36,aI (((LA.gjAt x0 k).1.getD ((LA.gjAt x0 k).2+j) []).getD k 0)),(37,aB (decide ((((LA.gjAt x0 k).1.getD ((LA.gjAt x0 k).2+j) []).getD k 0)=0)))],[(1,oF s22 d0)]⟩:St)) (show ((List.set (List.set (LA.gjAt x0 k).1 (LA.gp x0 k) ((LA.gjAt x0 k).1.getD (LA.gjAt x0 k).2 [])) (LA.gjAt x0 k).2 (scaleV ((LA.gjAt x0 k).1.getD (LA.gp x0 k) []) (invF (((LA.gjAt x0 k).1.getD (LA.gp x0 k) []).getD k 0)))):List (List Int))=(LA.gm x0 k (0)) from by first | with_reducible rfl | (exact LA.gm_zero (l7_lead hgv hw2 hgpl hgpz)) | rfl) (show (0:Int)=(((0):Nat):Int) from by first | with_reducible rfl | (exact LA.gm_zero (l7_lead hgv hw2 hgpl hgpz)) | rfl)) (by omega) ?_
      intro i a w hok2 h
      have hml:=LA.gm_len x0 k i
      refine wp_seq (wp_seq ?_)
      refine at_regq [] { ts:=[1,4,5,6,7,10,17,18,19,20,30,31,32,33,34,35,36,37,69],os:=[1] } [] gamOK hT h (by kernel_rfl) trivial fun a w h=>then_normal ?_
      refine at_test (decide (((i:Nat):Int) < ((List.length (LA.gm x0 k i):Nat):Int))) h (by kernel_rfl) (fun h6=>?_) (fun h6=>?_)
      ·replace h6 : ((i : Nat) : Int) < ((List.length (LA.gm x0 k i) : Nat) : Int) := of_decide_eq_true h6
       have hmi:=LA.gm_ok (i:=i) hw1 hat hgpl (show i < List.length (LA.gjAt x0 k).1 by omega)
       have hmil:=hmi.1
       have hmir:=hmi.rng k
       have hma:=LA.gm_piv (i:=i) hw1 hat hgpl
       have hmal:=hma.1
       refine wp_skip (then_normal (wp_seq (wp_block (wp_seq ?_))))
       by_cases h7:((i:Nat):Int)=(((LA.gjAt x0 k).2:Nat):Int)
       ·refine at_regq [{}, {}, { hint := some (aB false) }] { ts := [1, 4, 5, 6, 7, 10, 17, 18, 19, 20, 30, 31, 32, 33, 34, 35, 36, 37, 76, 77, 78, 79, 80, 81, 82, 83, 84], os := [1] } [(AV.p (.c (.v (.bool (!decide (((i : Nat) : Int) = (((LA.gjAt x0 k).2 : Nat) : Int)))))) = AV.p (.c (.v (.bool false))))] gamOK hT h (by kernel_rfl) ⟨hint_bool (ndT h7), trivial⟩ fun a w h => then_normal ?_
        refine at_test false h (by kernel_rfl) (fun hh=>nomatch hh) (fun hh=>?_)
        refine wp_skip (in_normal (then_normal ?_))
        refine at_regq [{},{ nw:=true }] { ts:=[1,4,5,6,7,10,17,18,19,20,30,31,32,33,34,35,36,37,76,77,78,79,80,81,82,83],os:=[1] } [I64 (((i:Nat):Int)+1)] gamOK hT h (by kernel_rfl) ⟨⟨by first | omega | (simp only [lsA];omega) | (simp<;>omega),by first | omega | (simp only [lsA];omega) | (simp<;>omega)⟩,trivial⟩ fun a w h=>?_
        replace h:=at_out (σ':=⟨[(1,aI x1),(4,.p (.c (cN))),(5,aS 1),(6,aI (((LA.gjAt x0 k).2:Nat):Int)),(7,aI ((k:Nat):Int)),(10,aI (((i:Nat):Int)+1)),(17,aI (((LA.gjAt x0 k).2:Nat):Int)),(18,aS 1),(19,aI ((List.length (LA.gjAt x0 k).1:Nat):Int)),(20,aB (decide ((((LA.gjAt x0 k).2:Nat):Int) < ((List.length (LA.gjAt x0 k).1:Nat):Int)))),(30,aS 1),(31,aI (((LA.gjAt x0 k).2+j:Nat):Int)),(32,aE 1 ((LA.gjAt x0 k).2+j) 0 1),(33,aF (.int 3) ((LA.gjAt x0 k).1.getD ((LA.gjAt x0 k).2+j) [])),(34,aI ((k:Nat):Int)),(35,aR (.int 3) (((LA.gjAt x0 k).1.getD ((LA.gjAt x0 k).2+j) []).getD k 0) 0),(36,aI (((LA.gjAt x0 k).1.getD ((LA.gjAt x0 k).2+j) []).getD k 0)),(37,aB (decide ((((LA.gjAt x0 k).1.getD ((LA.gjAt x0 k).2+j) []).getD k 0)=0)))],[(1,oF s22 (LA.gm x0 k i))]⟩) { ts:=[1,4,5,6,7,10,17,18,19,20,30,31,32,33,34,35,36,37],os:=[1] } h (by kernel_rfl)
        exact ⟨i+1,at_eq h (st_congr2 (fun (d0:List (List Int)) (d1:Int)=>(⟨[(1,aI x1),(4,.p (.c (cN))),(5,aS 1),(6,aI (((LA.gjAt x0 k).2:Nat):Int)),(7,aI ((k:Nat):Int)),(10,aI d1),(17,aI (((LA.gjAt x0 k).2:Nat):Int)),(18,aS 1),(19,aI ((List.length (LA.gjAt x0 k).1:Nat):Int)),(20,aB (decide ((((LA.gjAt x0 k).2:Nat):Int) < ((List.length (LA.gjAt x0 k).1:Nat):Int)))),(30,aS 1),(31,aI (((LA.gjAt x0 k).2+j:Nat):Int)),(32,aE 1 ((LA.gjAt x0 k).2+j) 0 1),(33,aF (.int 3) ((LA.gjAt x0 k).1.getD ((LA.gjAt x0 k).2+j) [])),(34,aI ((k:Nat):Int)),(35,aR (.int 3) (((LA.gjAt x0 k).1.getD ((LA.gjAt x0 k).2+j) []).getD k 0) 0),(36,aI (((LA.gjAt x0 k).1.getD ((LA.gjAt x0 k).2+j) []).getD k 0)),(37,aB (decide ((((LA.gjAt x0 k).1.getD ((LA.gjAt x0 k).2+j) []).getD k 0)=0)))],[(1,oF s22 d0)]⟩:St)) (show ((LA.gm x0 k i):List (List Int))=(LA.gm x0 k (i+1)) from by first | with_reducible rfl | (first | exact (LA.gm_same (by omega) (Or.inl (by omega))).symm | exact (LA.gm_same (by omega) (Or.inr (by assumption))).symm | (rw [addV_L hmi hma hw2 (by omega)];exact (LA.gm_add (by omega) hat (by omega) (by assumption)).symm)) | rfl) (show (((i:Nat):Int)+1:Int)=(((i+1):Nat):Int) from by first | with_reducible rfl | (omega) | rfl)),(by omega),(by omega)⟩
       ·refine at_regq [{}, {}, { hint := some (aB true) }] { ts := [1, 4, 5, 6, 7, 10, 17, 18, 19, 20, 30, 31, 32, 33, 34, 35, 36, 37, 76, 77, 78, 79, 80, 81, 82, 83, 84], os := [1] } [(AV.p (.c (.v (.bool (!decide (((i : Nat) : Int) = (((LA.gjAt x0 k).2 : Nat) : Int)))))) = AV.p (.c (.v (.bool true)))), (0 : Int) ≤ ((i : Nat) : Int) ∧ ((i : Nat) : Int) < ((List.length (LA.gm x0 k i) : Nat) : Int), i < List.length (LA.gm x0 k i), (0 : Int) ≤ ((k : Nat) : Int) ∧ ((k : Nat) : Int) < ((List.length ((LA.gm x0 k i).getD i []) : Nat) : Int)] gamOK hT h (by kernel_rfl) ⟨hint_bool (ndF h7), (by refine ⟨?_, ?_⟩ <;> (first | omega | (simp only [lsA]; omega) | (simp <;> omega))), (by first | omega | (simp only [lsA]; omega) | (simp <;> omega)), (by refine ⟨?_, ?_⟩ <;> (first | omega | (simp only [lsA]; omega) | (simp <;> omega))), trivial⟩ fun a w h => then_normal ?_
        refine at_test (!decide ((((LA.gm x0 k i).getD i []).getD k 0)=0)) h (by kernel_rfl) (fun h8=>?_) (fun h8=>?_)
        ·replace h8 : ¬ ((((LA.gm x0 k i).getD i []).getD k 0) = 0) := of_decide_eq_false (notT h8)
         refine at_anyq [{},{},{},{},{},{},{},{},{},{},{},{},{},{},{},{},{},{ nw:=true },{ frz:=true },{},{}] { ts:=[1,4,5,6,7,10,17,18,19,20,30,31,32,33,34,35,36,37,76,77,78,79,80,81,82,83],os:=[1] } [(0:Int)≤((i:Nat):Int)∧((i:Nat):Int) < ((List.length (LA.gm x0 k i):Nat):Int),i < List.length (LA.gm x0 k i),(0:Int)≤(((LA.gjAt x0 k).2:Nat):Int)∧(((LA.gjAt x0 k).2:Nat):Int) < ((List.length (LA.gm x0 k i):Nat):Int),(LA.gjAt x0 k).2 < List.length (LA.gm x0 k i),(0:Int)≤((i:Nat):Int)∧((i:Nat):Int) < ((List.length (LA.gm x0 k i):Nat):Int),i < List.length (LA.gm x0 k i),(0:Int)≤((k:Nat):Int)∧((k:Nat):Int) < ((List.length ((LA.gm x0 k i).getD i []):Nat):Int),I64 (1019 - (((LA.gm x0 k i).getD i []).getD k 0)),Q_spec_AddScaled ((LA.gm x0 k i).getD i []) ((LA.gm x0 k i).getD (LA.gjAt x0 k).2 []) (1019 - (((LA.gm x0 k i).getD i []).getD k 0)),(0:Int)≤((i:Nat):Int)∧((i:Nat):Int) < ((List.length (LA.gm x0 k i):Nat):Int),i < List.length (LA.gm x0 k i)] gamOK hT mixed h (by kernel_rfl) ⟨(by refine ⟨?_,?_⟩<;>(first | omega | (simp only [lsA];omega) | (simp<;>omega))),(by first | omega | (simp only [lsA];omega) | (simp<;>omega)),(by refine ⟨?_,?_⟩<;>(first | omega | (simp only [lsA];omega) | (simp<;>omega))),(by first | omega | (simp only [lsA];omega) | (simp<;>omega)),(by refine ⟨?_,?_⟩<;>(first | omega | (simp only [lsA];omega) | (simp<;>omega))),(by first | omega | (simp only [lsA];omega) | (simp<;>omega)),(by refine ⟨?_,?_⟩<;>(first | omega | (simp only [lsA];omega) | (simp<;>omega))),⟨by first | omega | (simp only [lsA];omega) | (simp<;>omega),by first | omega | (simp only [lsA];omega) | (simp<;>omega)⟩,(by exact ⟨fitV hmi hw2,fitV hma hw2⟩),(by refine ⟨?_,?_⟩<;>(first | omega | (simp only [lsA];omega) | (simp<;>omega))),(by first | omega | (simp only [lsA];omega) | (simp<;>omega)),trivial⟩ fun a w h=>in_normal (then_normal ?_)
         refine at_regq [{},{ nw:=true }] { ts:=[1,4,5,6,7,10,17,18,19,20,30,31,32,33,34,35,36,37,76,77,78,79,80,81,82,83],os:=[1] } [I64 (((i:Nat):Int)+1)] gamOK hT h (by kernel_rfl) ⟨⟨by first | omega | (simp only [lsA];omega) | (simp<;>omega),by first | omega | (simp only [lsA];omega) | (simp<;>omega)⟩,trivial⟩ fun a w h=>?_
         replace h:=at_out (σ':=⟨[(1,aI x1),(4,.p (.c (cN))),(5,aS 1),(6,aI (((LA.gjAt x0 k).2:Nat):Int)),(7,aI ((k:Nat):Int)),(10,aI (((i:Nat):Int)+1)),(17,aI (((LA.gjAt x0 k).2:Nat):Int)),(18,aS 1),(19,aI ((List.length (LA.gjAt x0 k).1:Nat):Int)),(20,aB (decide ((((LA.gjAt x0 k).2:Nat):Int) < ((List.length (LA.gjAt x0 k).1:Nat):Int)))),(30,aS 1),(31,aI (((LA.gjAt x0 k).2+j:Nat):Int)),(32,aE 1 ((LA.gjAt x0 k).2+j) 0 1),(33,aF (.int 3) ((LA.gjAt x0 k).1.getD ((LA.gjAt x0 k).2+j) [])),(34,aI ((k:Nat):Int)),(35,aR (.int 3) (((LA.gjAt x0 k).1.getD ((LA.gjAt x0 k).2+j) []).getD k 0) 0),(36,aI (((LA.gjAt x0 k).1.getD ((LA.gjAt x0 k).2+j) []).getD k 0)),(37,aB (decide ((((LA.gjAt x0 k).1.getD ((LA.gjAt x0 k).2+j) []).getD k 0)=0)))],[(1,oF s22 (List.set (LA.gm x0 k i) i (addV ((LA.gm x0 k i).getD i []) ((LA.gm x0 k i).getD (LA.gjAt x0 k).2 []) (1019 - (((LA.gm x0 k i).getD i []).getD k 0)))))]⟩) { ts:=[1,4,5,6,7,10,17,18,19,20,30,31,32,33,34,35,36,37],os:=[1] } h (by kernel_rfl)
         exact ⟨i+1,at_eq h (st_congr2 (fun (d0:List (List Int)) (d1:Int)=>(⟨[(1,aI x1),(4,.p (.c (cN))),(5,aS 1),(6,aI (((LA.gjAt x0 k).2:Nat):Int)),(7,aI ((k:Nat):Int)),(10,aI d1),(17,aI (((LA.gjAt x0 k).2:Nat):Int)),(18,aS 1),(19,aI ((List.length (LA.gjAt x0 k).1:Nat):Int)),(20,aB (decide ((((LA.gjAt x0 k).2:Nat):Int) < ((List.length (LA.gjAt x0 k).1:Nat):Int)))),(30,aS 1),(31,aI (((LA.gjAt x0 k).2+j:Nat):Int)),(32,aE 1 ((LA.gjAt x0 k).2+j) 0 1),(33,aF (.int 3) ((LA.gjAt x0 k).1.getD ((LA.gjAt x0 k).2+j) [])),(34,aI ((k:Nat):Int)),(35,aR (.int 3) (((LA.gjAt x0 k).1.getD ((LA.gjAt x0 k).2+j) []).getD k 0) 0),(36,aI (((LA.gjAt x0 k).1.getD ((LA.gjAt x0 k).2+j) []).getD k 0)),(37,aB (decide ((((LA.gjAt x0 k).1.getD ((LA.gjAt x0 k).2+j) []).getD k 0)=0)))],[(1,oF s22 d0)]⟩:St)) (show ((List.set (LA.gm x0 k i) i (addV ((LA.gm x0 k i).getD i []) ((LA.gm x0 k i).getD (LA.gjAt x0 k).2 []) (1019 - (((LA.gm x0 k i).getD i []).getD k 0)))):List (List Int))=(LA.gm x0 k (i+1)) from by first | with_reducible rfl | (first | exact (LA.gm_same (by omega) (Or.inl (by omega))).symm | exact (LA.gm_same (by omega) (Or.inr (by assumption))).symm | (rw [addV_L hmi hma hw2 (by omega)];exact (LA.gm_add (by omega) hat (by omega) (by assumption)).symm)) | rfl) (show (((i:Nat):Int)+1:Int)=(((i+1):Nat):Int) from by first | with_reducible rfl | (omega) | rfl)),(by omega),(by omega)⟩
        ·replace h8 : (((LA.gm x0 k i).getD i []).getD k 0) = 0 := of_decide_eq_true (notF h8)
         refine wp_skip (in_normal (then_normal ?_))
         refine at_regq [{},{ nw:=true }] { ts:=[1,4,5,6,7,10,17,18,19,20,30,31,32,33,34,35,36,37,76,77,78,79,80,81,82,83],os:=[1] } [I64 (((i:Nat):Int)+1)] gamOK hT h (by kernel_rfl) ⟨⟨by first | omega | (simp only [lsA];omega) | (simp<;>omega),by first | omega | (simp only [lsA];omega) | (simp<;>omega)⟩,trivial⟩ fun a w h=>?_
         replace h:=at_out (σ':=⟨[(1,aI x1),(4,.p (.c (cN))),(5,aS 1),(6,aI (((LA.gjAt x0 k).2:Nat):Int)),(7,aI ((k:Nat):Int)),(10,aI (((i:Nat):Int)+1)),(17,aI (((LA.gjAt x0 k).2:Nat):Int)),(18,aS 1),(19,aI ((List.length (LA.gjAt x0 k).1:Nat):Int)),(20,aB (decide ((((LA.gjAt x0 k).2:Nat):Int) < ((List.length (LA.gjAt x0 k).1:Nat):Int)))),(30,aS 1),(31,aI (((LA.gjAt x0 k).2+j:Nat):Int)),(32,aE 1 ((LA.gjAt x0 k).2+j) 0 1),(33,aF (.int 3) ((LA.gjAt x0 k).1.getD ((LA.gjAt x0 k).2+j) [])),(34,aI ((k:Nat):Int)),(35,aR (.int 3) (((LA.gjAt x0 k).1.getD ((LA.gjAt x0 k).2+j) []).getD k 0) 0),(36,aI (((LA.gjAt x0 k).1.getD ((LA.gjAt x0 k).2+j) []).getD k 0)),(37,aB (decide ((((LA.gjAt x0 k).1.getD ((LA.gjAt x0 k).2+j) []).getD k 0)=0)))],[(1,oF s22 (LA.gm x0 k i))]⟩) { ts:=[1,4,5,6,7,10,17,18,19,20,30,31,32,33,34,35,36,37],os:=[1] } h (by kernel_rfl)
         exact ⟨i+1,at_eq h (st_congr2 (fun (d0:List (List Int)) (d1:Int)=>(⟨[(1,aI x1),(4,.p (.c (cN))),(5,aS 1),(6,aI (((LA.gjAt x0 k).2:Nat):Int)),(7,aI ((k:Nat):Int)),(10,aI d1),(17,aI (((LA.gjAt x0 k).2:Nat):Int)),(18,aS 1),(19,aI ((List.length (LA.gjAt x0 k).1:Nat):Int)),(20,aB (decide ((((LA.gjAt x0 k).2:Nat):Int) < ((List.length (LA.gjAt x0 k).1:Nat):Int)))),(30,aS 1),(31,aI (((LA.gjAt x0 k).2+j:Nat):Int)),(32,aE 1 ((LA.gjAt x0 k).2+j) 0 1),(33,aF (.int 3) ((LA.gjAt x0 k).1.getD ((LA.gjAt x0 k).2+j) [])),(34,aI ((k:Nat):Int)),(35,aR (.int 3) (((LA.gjAt x0 k).1.getD ((LA.gjAt x0 k).2+j) []).getD k 0) 0),(36,aI (((LA.gjAt x0 k).1.getD ((LA.gjAt x0 k).2+j) []).getD k 0)),(37,aB (decide ((((LA.gjAt x0 k).1.getD ((LA.gjAt x0 k).2+j) []).getD k 0)=0)))],[(1,oF s22 d0)]⟩:St)) (show ((LA.gm x0 k i):List (List Int))=(LA.gm x0 k (i+1)) from by first | with_reducible rfl | (first | exact (LA.gm_same (by omega) (Or.inl (by omega))).symm | exact (LA.gm_same (by omega) (Or.inr (by assumption))).symm | (rw [addV_L hmi hma hw2 (by omega)];exact (LA.gm_add (by omega) hat (by omega) (by assumption)).symm)) | rfl) (show (((i:Nat):Int)+1:Int)=(((i+1):Nat):Int) from by first | with_reducible rfl | (omega) | rfl)),(by omega),(by omega)⟩
      ·replace h6 : ¬ (((i : Nat) : Int) < ((List.length (LA.gm x0 k i) : Nat) : Int)) := of_decide_eq_false h6
       refine wp_exit (then_exit (then_exit (in_hit (then_normal ?_))))
       refine at_regq [{},{ nw:=true }] { ts:=[1,4,5,6,7,17,18,19,20,30,31,32,33,34,35,36,37],os:=[1] } [I64 ((((LA.gjAt x0 k).2:Nat):Int)+1)] gamOK hT h (by kernel_rfl) ⟨⟨by first | omega | (simp only [lsA];omega) | (simp<;>omega),by first | omega | (simp only [lsA];omega) | (simp<;>omega)⟩,trivial⟩ fun a w h=>in_normal (then_normal ?_)
       refine at_regq [{},{ nw:=true }] { ts:=[1,4,5,6,7,17,18,19,20,30,31,32,33,34,35,36,37],os:=[1] } [I64 (((k:Nat):Int)+1)] gamOK hT h (by kernel_rfl) ⟨⟨by first | omega | (simp only [lsA];omega) | (simp<;>omega),by first | omega | (simp only [lsA];omega) | (simp<;>omega)⟩,trivial⟩ fun a w h=>?_
       replace h:=at_out (σ':=⟨[(1,aI x1),(4,.p (.c (cN))),(5,aS 1),(6,aI ((((LA.gjAt x0 k).2:Nat):Int)+1)),(7,aI (((k:Nat):Int)+1))],[(1,oF s22 (LA.gm x0 k i))]⟩) { ts:=[1,4,5,6,7],os:=[1] } h (by kernel_rfl)
       exact ⟨k+1,at_eq h (st_congr3 (fun (d0:List (List Int)) (d1:Int) (d2:Int)=>(⟨[(1,aI x1),(4,.p (.c (cN))),(5,aS 1),(6,aI d1),(7,aI d2)],[(1,oF s22 d0)]⟩:St)) (show ((LA.gm x0 k i):List (List Int))=(LA.gjAt x0 (k+1)).1 from by first | with_reducible rfl | (first | (rw [LA.gm_none (by omega) (by omega)];done) | (rw [LA.gm_done (i:=i) hat (by omega) (by omega)];try first | rfl | (dsimp only;omega))) | rfl) (show ((((LA.gjAt x0 k).2:Nat):Int)+1:Int)=(((LA.gjAt x0 (k+1)).2:Nat):Int) from by first | with_reducible rfl | (first | (rw [LA.gm_none (by omega) (by omega)];done) | (rw [LA.gm_done (i:=i) hat (by omega) (by omega)];try first | rfl | (dsimp only;omega))) | rfl) (show (((k:Nat):Int)+1:Int)=(((k+1):Nat):Int) from by first | with_reducible rfl | (omega) | rfl)),(by omega),(by omega)⟩
   ·refine at_regq [{}, {}, {}, { hint := some (aB false) }] { ts := [1, 4, 5, 6, 7, 8, 17, 18, 19, 20, 30, 31, 32, 33, 34, 35, 36, 37, 38], os := [1] } [(AV.p (.c (.v (.bool (decide ((((LA.gjAt x0 k).2 + j : Nat) : Int) < ((List.length (LA.gjAt x0 k).1 : Nat) : Int)))))) = AV.p (.c (.v (.bool false))))] gamOK hT h (by kernel_rfl) ⟨hint_bool (decide_eq_false h3), trivial⟩ fun a w h => then_normal ?_
    refine at_test false h (by kernel_rfl) (fun hh=>nomatch hh) (fun hh=>?_)
    refine wp_exit (then_exit ?_)
    replace h:=at_out (σ':=⟨[(1,aI x1),(4,.p (.c (cN))),(5,aS 1),(6,aI (((LA.gjAt x0 k).2:Nat):Int)),(7,aI ((k:Nat):Int)),(8,aI (((LA.gjAt x0 k).2+j:Nat):Int)),(17,aI (((LA.gjAt x0 k).2:Nat):Int)),(18,aS 1),(19,aI ((List.length (LA.gjAt x0 k).1:Nat):Int)),(20,aB (decide ((((LA.gjAt x0 k).2:Nat):Int) < ((List.length (LA.gjAt x0 k).1:Nat):Int)))),(30,.p (.c (.v undef))),(31,.p (.c (.v undef))),(32,.p (.c (.v undef))),(33,.p (.c (.v undef))),(34,.p (.c (.v undef))),(35,.p (.c (.v undef))),(36,.p (.c (.v undef))),(37,.p (.c (.v undef)))],[(1,oF s22 (LA.gjAt x0 k).1)]⟩) { ts:=[1,4,5,6,7,8,17,18,19,20,30,31,32,33,34,35,36,37],os:=[1] } h (by kernel_rfl)
    replace h:=at_eq (σ':=⟨[(1,aI x1),(4,.p (.c (cN))),(5,aS 1),(6,aI (((LA.gjAt x0 k).2:Nat):Int)),(7,aI ((k:Nat):Int)),(8,aI ((LA.gp x0 k:Nat):Int)),(17,aI (((LA.gjAt x0 k).2:Nat):Int)),(18,aS 1),(19,aI ((List.length (LA.gjAt x0 k).1:Nat):Int)),(20,aB (decide ((((LA.gjAt x0 k).2:Nat):Int) < ((List.length (LA.gjAt x0 k).1:Nat):Int)))),(30,.p (.c (.v undef))),(31,.p (.c (.v undef))),(32,.p (.c (.v undef))),(33,.p (.c (.v undef))),(34,.p (.c (.v undef))),(35,.p (.c (.v undef))),(36,.p (.c (.v undef))),(37,.p (.c (.v undef)))],[(1,oF s22 (LA.gjAt x0 k).1)]⟩) h (st_congr1 (fun (d0:Int)=>(⟨[(1,aI x1),(4,.p (.c (cN))),(5,aS 1),(6,aI (((LA.gjAt x0 k).2:Nat):Int)),(7,aI ((k:Nat):Int)),(8,aI d0),(17,aI (((LA.gjAt x0 k).2:Nat):Int)),(18,aS 1),(19,aI ((List.length (LA.gjAt x0 k).1:Nat):Int)),(20,aB (decide ((((LA.gjAt x0 k).2:Nat):Int) < ((List.length (LA.gjAt x0 k).1:Nat):Int)))),(30,.p (.c (.v undef))),(31,.p (.c (.v undef))),(32,.p (.c (.v undef))),(33,.p (.c (.v undef))),(34,.p (.c (.v undef))),(35,.p (.c (.v undef))),(36,.p (.c (.v undef))),(37,.p (.c (.v undef)))],[(1,oF s22 (LA.gjAt x0 k).1)]⟩:St)) (show ((((LA.gjAt x0 k).2+j:Nat):Int):Int)=((LA.gp x0 k:Nat):Int) from by first | with_reducible rfl | (rw [LA.gp_eq hok1.1 hok1.2 (fun hh=>by first | (exfalso;omega) | assumption)]) | rfl))
    have hgb:=LA.gp_bd x0 k
    refine then_exit (in_hit (then_normal (wp_seq (wp_seq ?_))))
    refine at_regq [] { ts:=[1,4,5,6,7,8,17,18,19,20,30,31,32,33,34,35,36,37,44],os:=[1] } [] gamOK hT h (by kernel_rfl) trivial fun a w h=>then_normal ?_
    refine at_test (decide (((LA.gp x0 k:Nat):Int)=((List.length (LA.gjAt x0 k).1:Nat):Int))) h (by kernel_rfl) (fun h9=>?_) (fun h9=>?_)
    ·replace h9 : ((LA.gp x0 k : Nat) : Int) = ((List.length (LA.gjAt x0 k).1 : Nat) : Int) := of_decide_eq_true h9
     refine wp_exit (then_exit (in_hit (then_normal ?_)))
     refine at_regq [{},{ nw:=true }] { ts:=[1,4,5,6,7,17,18,19,20,30,31,32,33,34,35,36,37],os:=[1] } [I64 (((k:Nat):Int)+1)] gamOK hT h (by kernel_rfl) ⟨⟨by first | omega | (simp only [lsA];omega) | (simp<;>omega),by first | omega | (simp only [lsA];omega) | (simp<;>omega)⟩,trivial⟩ fun a w h=>?_
     replace h:=at_out (σ':=⟨[(1,aI x1),(4,.p (.c (cN))),(5,aS 1),(6,aI (((LA.gjAt x0 k).2:Nat):Int)),(7,aI (((k:Nat):Int)+1))],[(1,oF s22 (LA.gjAt x0 k).1)]⟩) { ts:=[1,4,5,6,7],os:=[1] } h (by kernel_rfl)
     exact ⟨k+1,at_eq h (st_congr3 (fun (d0:List (List Int)) (d1:Int) (d2:Int)=>(⟨[(1,aI x1),(4,.p (.c (cN))),(5,aS 1),(6,aI d1),(7,aI d2)],[(1,oF s22 d0)]⟩:St)) (show ((LA.gjAt x0 k).1:List (List Int))=(LA.gjAt x0 (k+1)).1 from by first | with_reducible rfl | (first | (rw [LA.gm_none (by omega) (by omega)];done) | (rw [LA.gm_done (i:=i) hat (by omega) (by omega)];try first | rfl | (dsimp only;omega))) | rfl) (show ((((LA.gjAt x0 k).2:Nat):Int):Int)=(((LA.gjAt x0 (k+1)).2:Nat):Int) from by first | with_reducible rfl | (first | (rw [LA.gm_none (by omega) (by omega)];done) | (rw [LA.gm_done (i:=i) hat (by omega) (by omega)];try first | rfl | (dsimp only;omega))) | rfl) (show (((k:Nat):Int)+1:Int)=(((k+1):Nat):Int) from by first | with_reducible rfl | (omega) | rfl)),(by omega),(by omega)⟩
    ·replace h9 : ¬ (((LA.gp x0 k : Nat) : Int) = ((List.length (LA.gjAt x0 k).1 : Nat) : Int)) := of_decide_eq_false h9
     have hgpl:LA.gp x0 k < List.length (LA.gjAt x0 k).1:=by have:=LA.gp_bd x0 k;omega
     have hgpz:=(LA.gp_bd x0 k).2.2 hgpl
     have hpv:=hgv _ (LA.getD_in (rows:=(LA.gjAt x0 k).1) hgpl)
     have hpvl:=hpv.1
     have hav:=hgv _ (LA.getD_in (rows:=(LA.gjAt x0 k).1) hat)
     refine wp_skip (then_normal (wp_seq ?_))
     refine at_regq [] { ts:=[1,4,5,6,7,8,9,17,18,19,20,30,31,32,33,34,35,36,37],os:=[1] } [(0:Int)≤((LA.gp x0 k:Nat):Int)∧((LA.gp x0 k:Nat):Int) < ((List.length (LA.gjAt x0 k).1:Nat):Int),LA.gp x0 k < List.length (LA.gjAt x0 k).1] gamOK hT h (by kernel_rfl) ⟨(by refine ⟨?_,?_⟩<;>(first | omega | (simp only [lsA];omega) | (simp<;>omega))),(by first | omega | (simp only [lsA];omega) | (simp<;>omega)),trivial⟩ fun a w h=>then_normal (wp_seq ?_)
     refine at_regq [] { ts:=[1,4,5,6,7,9,17,18,19,20,30,31,32,33,34,35,36,37],os:=[1] } [(0:Int)≤(((LA.gjAt x0 k).2:Nat):Int)∧(((LA.gjAt x0 k).2:Nat):Int) < ((List.length (LA.gjAt x0 k).1:Nat):Int),(LA.gjAt x0 k).2 < List.length (LA.gjAt x0 k).1,(0:Int)≤((LA.gp x0 k:Nat):Int)∧((LA.gp x0 k:Nat):Int) < ((List.length (LA.gjAt x0 k).1:Nat):Int),LA.gp x0 k < List.length (LA.gjAt x0 k).1] gamOK hT h (by kernel_rfl) ⟨(by refine ⟨?_,?_⟩<;>(first | omega | (simp only [lsA];omega) | (simp<;>omega))),(by first | omega | (simp only [lsA];omega) | (simp<;>omega)),(by refine ⟨?_,?_⟩<;>(first | omega | (simp only [lsA];omega) | (simp<;>omega))),(by first | omega | (simp only [lsA];omega) | (simp<;>omega)),trivial⟩ fun a w h=>then_normal (wp_seq ?_)
     refine at_regq [{},{},{},{},{},{},{},{},{ frz:=true }] { ts:=[1,4,5,6,7,17,18,19,20,30,31,32,33,34,35,36,37],os:=[1] } [(0:Int)≤((k:Nat):Int)∧((k:Nat):Int) < ((List.length ((LA.gjAt x0 k).1.getD (LA.gp x0 k) []):Nat):Int),True,Q_spec_ScaleVector ((LA.gjAt x0 k).1.getD (LA.gp x0 k) []) (invF (((LA.gjAt x0 k).1.getD (LA.gp x0 k) []).getD k 0)),(0:Int)≤(((LA.gjAt x0 k).2:Nat):Int)∧(((LA.gjAt x0 k).2:Nat):Int) < ((List.length (List.set (LA.gjAt x0 k).1 (LA.gp x0 k) ((LA.gjAt x0 k).1.getD (LA.gjAt x0 k).2 [])):Nat):Int),(LA.gjAt x0 k).2 < List.length (List.set (LA.gjAt x0 k).1 (LA.gp x0 k) ((LA.gjAt x0 k).1.getD (LA.gjAt x0 k).2 []))] gamOK hT h (by kernel_rfl) ⟨(by refine ⟨?_,?_⟩<;>(first | omega | (simp only [lsA];omega) | (simp<;>omega))),trivial,(by exact fitV hpv hw2),(by refine ⟨?_,?_⟩<;>(first | omega | (simp only [lsA];omega) | (simp<;>omega))),(by first | omega | (simp only [lsA];omega) | (simp<;>omega)),trivial⟩ fun a w h=>then_normal (wp_seq (wp_seq ?_))
     refine at_regq [] { ts:=[1,4,5,6,7,10,17,18,19,20,30,31,32,33,34,35,36,37],os:=[1] } [] gamOK hT h (by kernel_rfl) trivial fun a w h=>then_normal (wp_block ?_)
     replace h:=at_out (σ':=⟨[(1,aI x1),(4,.p (.c (cN))),(5,aS 1),(6,aI (((LA.gjAt x0 k).2:Nat):Int)),(7,aI ((k:Nat):Int)),(10,aI 0),(17,aI (((LA.gjAt x0 k).2:Nat):Int)),(18,aS 1),(19,aI ((List.length (LA.gjAt x0 k).1:Nat):Int)),(20,aB (decide ((((LA.gjAt x0 k).2:Nat):Int) < ((List.length (LA.gjAt x0 k).1:Nat):Int)))),(30,.p (.c (.v undef))),(31,.p (.c (.v undef))),(32,.p (.c (.v undef))),(33,.p (.c (.v undef))),(34,.p (.c (.v undef))),(35,.p (.c (.v undef))),(36,.p (.c (.v undef))),(37,.p (.c (.v undef)))],[(1,oF s22 (List.set (List.set (LA.gjAt x0 k).1 (LA.gp x0 k) ((LA.gjAt x0 k).1.getD (LA.gjAt x0 k).2 [])) (LA.gjAt x0 k).2 (scaleV ((LA.gjAt x0 k).1.getD (LA.gp x0 k) []) (invF (((LA.gjAt x0 k).1.getD (LA.gp x0 k) []).getD k 0)))))]⟩) { ts:=[1,4,5,6,7,10,17,18,19,20,30,31,32,33,34,35,36,37],os:=[1] } h (by kernel_rfl)
     refine at_loop (fun i:Nat=>(⟨[(1,aI x1),(4,.p (.c (cN))),(5,aS 1),(6,aI (((LA.gjAt x0 k).2:Nat):Int)),(7,aI ((k:Nat):Int)),(10,aI ((i:Nat):Int)),(17,aI (((LA.gjAt x0 k).2:Nat):Int)),(18,aS 1),(19,aI ((List.length (LA.gjAt x0 k).1:Nat):Int)),(20,aB (decide ((((LA.gjAt x0 k).2:Nat):Int) < ((List.length (LA.gjAt x0 k).1:Nat):Int)))),(30,.p (.c (.v undef))),(31,.p (.c (.v undef))),(32,.p (.c (.v undef))),(33,.p (.c (.v undef))),(34,.p (.c (.v undef))),(35,.p (.c (.v undef))),(36,.p (.c (.v undef))),(37,.p (.c (.v undef)))],[(1,oF s22 (LA.gm x0 k i))]⟩:St)) (fun i=>i≤List.length (LA.gjAt x0 k).1) (fun i=>List.length (LA.gjAt x0 k).1 - i) (0) h (st_congr2 (fun (d0:List (List Int)) (d1:Int)=>(⟨[(1,aI x1),(4,.p (.c (cN))),(5,aS 1),(6,aI (((LA.gjAt x0 k).2:Nat):Int)),(7,aI ((k:Nat):Int)),(10,aI d1),(17,aI (((LA.gjAt x0 k).2:Nat):Int)),(18,aS 1),(19,aI ((List.length (LA.gjAt x0 k).1:Nat):Int)),(20,aB (decide ((((LA.gjAt x0 k).2:Nat):Int) < ((List.length (LA.gjAt x0 k).1:Nat):Int)))),(30,.p (.c (.v undef))),(31,.p (.c (.v undef))),(32,.p (.c (.v undef))),(33,.p (.c (.v undef))),(34,.p (.c (.v undef))),(35,.p (.c (.v undef))),(36,.p (.c (.v undef))),(37,.p (.c (.v undef)))],[(1,oF s22 d0)]⟩:St)) (show ((List.set (List.set (LA.gjAt x0 k).1 (LA.gp x0 k) ((LA.gjAt x0 k).1.getD (LA.gjAt x0 k).2 [])) (LA.gjAt x0 k).2 (scaleV ((LA.gjAt x0 k).1.getD (LA.gp x0 k) []) (invF (((LA.gjAt x0 k).1.getD (LA.gp x0 k) []).getD k 0)))):List (List Int))=(LA.gm x0 k (0)) from by first | with_reducible rfl | (exact LA.gm_zero (l7_lead hgv hw2 hgpl hgpz)) | rfl) (show (0:Int)=(((0):Nat):Int) from by first | with_reducible rfl | (exact LA.gm_zero (l7_lead hgv hw2 hgpl hgpz)) | rfl)) (by omega) ?_
     intro i a w hok2 h
     have hml:=LA.gm_len x0 k i
     refine wp_seq (wp_seq ?_)
     refine at_regq [] { ts:=[1,4,5,6,7,10,17,18,19,20,30,31,32,33,34,35,36,37,69],os:=[1] } [] gamOK hT h (by kernel_rfl) trivial fun a w h=>then_normal ?_
     refine at_test (decide (((i:Nat):Int) < ((List.length (LA.gm x0 k i):Nat):Int))) h (by kernel_rfl) (fun h10=>?_) (fun h10=>?_)
     ·replace h10 : ((i : Nat) : Int) < ((List.length (LA.gm x0 k i) : Nat) : Int) := of_decide_eq_true h10
      have hmi:=LA.gm_ok (i:=i) hw1 hat hgpl (show i < List.length (LA.gjAt x0 k).1 by omega)
      have hmil:=hmi.1
      have hmir:=hmi.rng k
      have hma:=LA.gm_piv (i:=i) hw1 hat hgpl
      have hmal:=hma.1
      refine wp_skip (then_normal (wp_seq (wp_block (wp_seq ?_))))
      by_cases h11:((i:Nat):Int)=(((LA.gjAt x0 k).2:Nat):Int)
      ·refine at_regq [{}, {}, { hint := some (aB false) }] { ts := [1, 4, 5, 6, 7, 10, 17, 18, 19, 20, 30, 31, 32, 33, 34, 35, 36, 37, 76, 77, 78, 79, 80, 81, 82, 83, 84], os := [1] } [(AV.p (.c (.v (.bool (!decide (((i : Nat) : Int) = (((LA.gjAt x0 k).2 : Nat) : Int)))))) = AV.p (.c (.v (.bool false))))] gamOK hT h (by kernel_rfl) ⟨hint_bool (ndT h11), trivial⟩ fun a w h => then_normal ?_
       refine at_test false h (by kernel_rfl) (fun hh=>nomatch hh) (fun hh=>?_)
       refine wp_skip (in_normal (then_normal ?_))
       refine at_regq [{},{ nw:=true }] { ts:=[1,4,5,6,7,10,17,18,19,20,30,31,32,33,34,35,36,37,76,77,78,79,80,81,82,83],os:=[1] } [I64 (((i:Nat):Int)+1)] gamOK hT h (by kernel_rfl) ⟨⟨by first | omega | (simp only [lsA];omega) | (simp<;>omega),by first | omega | (simp only [lsA];omega) | (simp<;>omega)⟩,trivial⟩ fun a w h=>?_
       replace h:=at_out (σ':=⟨[(1,aI x1),(4,.p (.c (cN))),(5,aS 1),(6,aI (((LA.gjAt x0 k).2:Nat):Int)),(7,aI ((k:Nat):Int)),(10,aI (((i:Nat):Int)+1)),(17,aI (((LA.gjAt x0 k).2:Nat):Int)),(18,aS 1),(19,aI ((List.length (LA.gjAt x0 k).1:Nat):Int)),(20,aB (decide ((((LA.gjAt x0 k).2:Nat):Int) < ((List.length (LA.gjAt x0 k).1:Nat):Int)))),(30,.p (.c (.v undef))),(31,.p (.c (.v undef))),(32,.p (.c (.v undef))),(33,.p (.c (.v undef))),(34,.p (.c (.v undef))),(35,.p (.c (.v undef))),(36,.p (.c (.v undef))),(37,.p (.c (.v undef)))],[(1,oF s22 (LA.gm x0 k i))]⟩) { ts:=[1,4,5,6,7,10,17,18,19,20,30,31,32,33,34,35,36,37],os:=[1] } h (by kernel_rfl)
       exact ⟨i+1,at_eq h (st_congr2 (fun (d0:List (List Int)) (d1:Int)=>(⟨[(1,aI x1),(4,.p (.c (cN))),(5,aS 1),(6,aI (((LA.gjAt x0 k).2:Nat):Int)),(7,aI ((k:Nat):Int)),(10,aI d1),(17,aI (((LA.gjAt x0 k).2:Nat):Int)),(18,aS 1),(19,aI ((List.length (LA.gjAt x0 k).1:Nat):Int)),(20,aB (decide ((((LA.gjAt x0 k).2:Nat):Int) < ((List.length (LA.gjAt x0 k).1:Nat):Int)))),(30,.p (.c (.v undef))),(31,.p (.c (.v undef))),(32,.p (.c (.v undef))),(33,.p (.c (.v undef))),(34,.p (.c (.v undef))),(35,.p (.c (.v undef))),(36,.p (.c (.v undef))),(37,.p (.c (.v undef)))],[(1,oF s22 d0)]⟩:St)) (show ((LA.gm x0 k i):List (List Int))=(LA.gm x0 k (i+1)) from by first | with_reducible rfl | (first | exact (LA.gm_same (by omega) (Or.inl (by omega))).symm | exact (LA.gm_same (by omega) (Or.inr (by assumption))).symm | (rw [addV_L hmi hma hw2 (by omega)];exact (LA.gm_add (by omega) hat (by omega) (by assumption)).symm)) | rfl) (show (((i:Nat):Int)+1:Int)=(((i+1):Nat):Int) from by first | with_reducible rfl | (omega) | rfl)),(by omega),(by omega)⟩
      ·refine at_regq [{}, {}, { hint := some (aB true) }] { ts := [1, 4, 5, 6, 7, 10, 17, 18, 19, 20, 30, 31, 32, 33, 34, 35, 36, 37, 76, 77, 78, 79, 80, 81, 82, 83, 84], os := [1] } [(AV.p (.c (.v (.bool (!decide (((i : Nat) : Int) = (((LA.gjAt x0 k).2 : Nat) : Int)))))) = AV.p (.c (.v (.bool true)))), (0 : Int) ≤ ((i : Nat) : Int) ∧ ((i : Nat) : Int) < ((List.length (LA.gm x0 k i) : Nat) : Int), i < List.length (LA.gm x0 k i), (0 : Int) ≤ ((k : Nat) : Int) ∧ ((k : Nat) : Int) < ((List.length ((LA.gm x0 k i).getD i []) : Nat) : Int)] gamOK hT h (by kernel_rfl) ⟨hint_bool (ndF h11), (by refine ⟨?_, ?_⟩ <;> (first | omega | (simp only [lsA]; omega) | (simp <;> omega))), (by first | omega | (simp only [lsA]; omega) | (simp <;> omega)), (by refine ⟨?_, ?_⟩ <;> (first | omega | (simp only [lsA]; omega) | (simp <;> omega))), trivial⟩ fun a w h => then_normal ?_
       refine at_test (!decide ((((LA.gm x0 k i).getD i []).getD k 0)=0)) h (by kernel_rfl) (fun h12=>?_) (fun h12=>?_)
       ·replace h12 : ¬ ((((LA.gm x0 k i).getD i []).getD k 0) = 0) := of_decide_eq_false (notT h12)
        refine at_anyq [{},{},{},{},{},{},{},{},{},{},{},{},{},{},{},{},{},{ nw:=true },{ frz:=true },{},{}] { ts:=[1,4,5,6,7,10,17,18,19,20,30,31,32,33,34,35,36,37,76,77,78,79,80,81,82,83],os:=[1] } [(0:Int)≤((i:Nat):Int)∧((i:Nat):Int) < ((List.length (LA.gm x0 k i):Nat):Int),i < List.length (LA.gm x0 k i),(0:Int)≤(((LA.gjAt x0 k).2:Nat):Int)∧(((LA.gjAt x0 k).2:Nat):Int) < ((List.length (LA.gm x0 k i):Nat):Int),(LA.gjAt x0 k).2 < List.length (LA.gm x0 k i),(0:Int)≤((i:Nat):Int)∧((i:Nat):Int) < ((List.length (LA.gm x0 k i):Nat):Int),i < List.length (LA.gm x0 k i),(0:Int)≤((k:Nat):Int)∧((k:Nat):Int) < ((List.length ((LA.gm x0 k i).getD i []):Nat):Int),I64 (1019 - (((LA.gm x0 k i).getD i []).getD k 0)),Q_spec_AddScaled ((LA.gm x0 k i).getD i []) ((LA.gm x0 k i).getD (LA.gjAt x0 k).2 []) (1019 - (((LA.gm x0 k i).getD i []).getD k 0)),(0:Int)≤((i:Nat):Int)∧((i:Nat):Int) < ((List.length (LA.gm x0 k i):Nat):Int),i < List.length (LA.gm x0 k i)] gamOK hT mixed h (by kernel_rfl) ⟨(by refine ⟨?_,?_⟩<;>(first | omega | (simp only [lsA];omega) | (simp<;>omega))),(by first | omega | (simp only [lsA];omega) | (simp<;>omega)),(by refine ⟨?_,?_⟩<;>(first | omega | (simp only [lsA];omega) | (simp<;>omega))),(by first | omega | (simp only [lsA];omega) | (simp<;>omega)),(by refine ⟨?_,?_⟩<;>(first | omega | (simp only [lsA];omega) | (simp<;>omega))),(by first | omega | (simp only [lsA];omega) | (simp<;>omega)),(by refine ⟨?_,?_⟩<;>(first | omega | (simp only [lsA];omega) | (simp<;>omega))),⟨by first | omega | (simp only [lsA];omega) | (simp<;>omega),by first | omega | (simp only [lsA];omega) | (simp<;>omega)⟩,(by exact ⟨fitV hmi hw2,fitV hma hw2⟩),(by refine ⟨?_,?_⟩<;>(first | omega | (simp only [lsA];omega) | (simp<;>omega))),(by first | omega | (simp only [lsA];omega) | (simp<;>omega)),trivial⟩ fun a w h=>in_normal (then_normal ?_)
        refine at_regq [{},{ nw:=true }] { ts:=[1,4,5,6,7,10,17,18,19,20,30,31,32,33,34,35,36,37,76,77,78,79,80,81,82,83],os:=[1] } [I64 (((i:Nat):Int)+1)] gamOK hT h (by kernel_rfl) ⟨⟨by first | omega | (simp only [lsA];omega) | (simp<;>omega),by first | omega | (simp only [lsA];omega) | (simp<;>omega)⟩,trivial⟩ fun a w h=>?_
        replace h:=at_out (σ':=⟨[(1,aI x1),(4,.p (.c (cN))),(5,aS 1),(6,aI (((LA.gjAt x0 k).2:Nat):Int)),(7,aI ((k:Nat):Int)),(10,aI (((i:Nat):Int)+1)),(17,aI (((LA.gjAt x0 k).2:Nat):Int)),(18,aS 1),(19,aI ((List.length (LA.gjAt x0 k).1:Nat):Int)),(20,aB (decide ((((LA.gjAt x0 k).2:Nat):Int) < ((List.length (LA.gjAt x0 k).1:Nat):Int)))),(30,.p (.c (.v undef))),(31,.p (.c (.v undef))),(32,.p (.c (.v undef))),(33,.p (.c (.v undef))),(34,.p (.c (.v undef))),(35,.p (.c (.v undef))),(36,.p (.c (.v undef))),(37,.p (.c (.v undef)))],[(1,oF s22 (List.set (LA.gm x0 k i) i (addV ((LA.gm x0 k i).getD i []) ((LA.gm x0 k i).getD (LA.gjAt x0 k).2 []) (1019 - (((LA.gm x0 k i).getD i []).getD k 0)))))]⟩) { ts:=[1,4,5,6,7,10,17,18,19,20,30,31,32,33,34,35,36,37],os:=[1] } h (by kernel_rfl)
        exact ⟨i+1,at_eq h (st_congr2 (fun (d0:List (List Int)) (d1:Int)=>(⟨[(1,aI x1),(4,.p (.c (cN))),(5,aS 1),(6,aI (((LA.gjAt x0 k).2:Nat):Int)),(7,aI ((k:Nat):Int)),(10,aI d1),(17,aI (((LA.gjAt x0 k).2:Nat):Int)),(18,aS 1),(19,aI ((List.length (LA.gjAt x0 k).1:Nat):Int)),(20,aB (decide ((((LA.gjAt x0 k).2:Nat):Int) < ((List.length (LA.gjAt x0 k).1:Nat):Int)))),(30,.p (.c (.v undef))),(31,.p (.c (.v undef))),(32,.p (.c (.v undef))),(33,.p (.c (.v undef))),(34,.p (.c (.v undef))),(35,.p (.c (.v undef))),(36,.p (.c (.v undef))),(37,.p (.c (.v undef)))],[(1,oF s22 d0)]⟩:St)) (show ((List.set (LA.gm x0 k i) i (addV ((LA.gm x0 k i).getD i []) ((LA.gm x0 k i).getD (LA.gjAt x0 k).2 []) (1019 - (((LA.gm x0 k i).getD i []).getD k 0)))):List (List Int))=(LA.gm x0 k (i+1)) from by first | with_reducible rfl | (first | exact (LA.gm_same (by omega) (Or.inl (by omega))).symm | exact (LA.gm_same (by omega) (Or.inr (by assumption))).symm | (rw [addV_L hmi hma hw2 (by omega)];exact (LA.gm_add (by omega) hat (by omega) (by assumption)).symm)) | rfl) (show (((i:Nat):Int)+1:Int)=(((i+1):Nat):Int) from by first | with_reducible rfl | (omega) | rfl)),(by omega),(by omega)⟩
       ·replace h12 : (((LA.gm x0 k i).getD i []).getD k 0) = 0 := of_decide_eq_true (notF h12)
        refine wp_skip (in_normal (then_normal ?_))
        refine at_regq [{},{ nw:=true }] { ts:=[1,4,5,6,7,10,17,18,19,20,30,31,32,33,34,35,36,37,76,77,78,79,80,81,82,83],os:=[1] } [I64 (((i:Nat):Int)+1)] gamOK hT h (by kernel_rfl) ⟨⟨by first | omega | (simp only [lsA];omega) | (simp<;>omega),by first | omega | (simp only [lsA];omega) | (simp<;>omega)⟩,trivial⟩ fun a w h=>?_
        replace h:=at_out (σ':=⟨[(1,aI x1),(4,.p (.c (cN))),(5,aS 1),(6,aI (((LA.gjAt x0 k).2:Nat):Int)),(7,aI ((k:Nat):Int)),(10,aI (((i:Nat):Int)+1)),(17,aI (((LA.gjAt x0 k).2:Nat):Int)),(18,aS 1),(19,aI ((List.length (LA.gjAt x0 k).1:Nat):Int)),(20,aB (decide ((((LA.gjAt x0 k).2:Nat):Int) < ((List.length (LA.gjAt x0 k).1:Nat):Int)))),(30,.p (.c (.v undef))),(31,.p (.c (.v undef))),(32,.p (.c (.v undef))),(33,.p (.c (.v undef))),(34,.p (.c (.v undef))),(35,.p (.c (.v undef))),(36,.p (.c (.v undef))),(37,.p (.c (.v undef)))],[(1,oF s22 (LA.gm x0 k i))]⟩) { ts:=[1,4,5,6,7,10,17,18,19,20,30,31,32,33,34,35,36,37],os:=[1] } h (by kernel_rfl)
        exact ⟨i+1,at_eq h (st_congr2 (fun (d0:List (List Int)) (d1:Int)=>(⟨[(1,aI x1),(4,.p (.c (cN))),(5,aS 1),(6,aI (((LA.gjAt x0 k).2:Nat):Int)),(7,aI ((k:Nat):Int)),(10,aI d1),(17,aI (((LA.gjAt x0 k).2:Nat):Int)),(18,aS 1),(19,aI ((List.length (LA.gjAt x0 k).1:Nat):Int)),(20,aB (decide ((((LA.gjAt x0 k).2:Nat):Int) < ((List.length (LA.gjAt x0 k).1:Nat):Int)))),(30,.p (.c (.v undef))),(31,.p (.c (.v undef))),(32,.p (.c (.v undef))),(33,.p (.c (.v undef))),(34,.p (.c (.v undef))),(35,.p (.c (.v undef))),(36,.p (.c (.v undef))),(37,.p (.c (.v undef)))],[(1,oF s22 d0)]⟩:St)) (show ((LA.gm x0 k i):List (List Int))=(LA.gm x0 k (i+1)) from by first | with_reducible rfl | (first | exact (LA.gm_same (by omega) (Or.inl (by omega))).symm | exact (LA.gm_same (by omega) (Or.inr (by assumption))).symm | (rw [addV_L hmi hma hw2 (by omega)];exact (LA.gm_add (by omega) hat (by omega) (by assumption)).symm)) | rfl) (show (((i:Nat):Int)+1:Int)=(((i+1):Nat):Int) from by first | with_reducible rfl | (omega) | rfl)),(by omega),(by omega)⟩
     ·replace h10 : ¬ (((i : Nat) : Int) < ((List.length (LA.gm x0 k i) : Nat) : Int)) := of_decide_eq_false h10
      refine wp_exit (then_exit (then_exit (in_hit (then_normal ?_))))
      refine at_regq [{},{ nw:=true }] { ts:=[1,4,5,6,7,17,18,19,20,30,31,32,33,34,35,36,37],os:=[1] } [I64 ((((LA.gjAt x0 k).2:Nat):Int)+1)] gamOK hT h (by kernel_rfl) ⟨⟨by first | omega | (simp only [lsA];omega) | (simp<;>omega),by first | omega | (simp only [lsA];omega) | (simp<;>omega)⟩,trivial⟩ fun a w h=>in_normal (then_normal ?_)
      refine at_regq [{},{ nw:=true }] { ts:=[1,4,5,6,7,17,18,19,20,30,31,32,33,34,35,36,37],os:=[1] } [I64 (((k:Nat):Int)+1)] gamOK hT h (by kernel_rfl) ⟨⟨by first | omega | (simp only [lsA];omega) | (simp<;>omega),by first | omega | (simp only [lsA];omega) | (simp<;>omega)⟩,trivial⟩ fun a w h=>?_
      replace h:=at_out (σ':=⟨[(1,aI x1),(4,.p (.c (cN))),(5,aS 1),(6,aI ((((LA.gjAt x0 k).2:Nat):Int)+1)),(7,aI (((k:Nat):Int)+1))],[(1,oF s22 (LA.gm x0 k i))]⟩) { ts:=[1,4,5,6,7],os:=[1] } h (by kernel_rfl)
      exact ⟨k+1,at_eq h (st_congr3 (fun (d0:List (List Int)) (d1:Int) (d2:Int)=>(⟨[(1,aI x1),(4,.p (.c (cN))),(5,aS 1),(6,aI d1),(7,aI d2)],[(1,oF s22 d0)]⟩:St)) (show ((LA.gm x0 k i):List (List Int))=(LA.gjAt x0 (k+1)).1 from by first | with_reducible rfl | (first | (rw [LA.gm_none (by omega) (by omega)];done) | (rw [LA.gm_done (i:=i) hat (by omega) (by omega)];try first | rfl | (dsimp only;omega))) | rfl) (show ((((LA.gjAt x0 k).2:Nat):Int)+1:Int)=(((LA.gjAt x0 (k+1)).2:Nat):Int) from by first | with_reducible rfl | (first | (rw [LA.gm_none (by omega) (by omega)];done) | (rw [LA.gm_done (i:=i) hat (by omega) (by omega)];try first | rfl | (dsimp only;omega))) | rfl) (show (((k:Nat):Int)+1:Int)=(((k+1):Nat):Int) from by first | with_reducible rfl | (omega) | rfl)),(by omega),(by omega)⟩
  ·replace h2 : ¬ ((((LA.gjAt x0 k).2 : Nat) : Int) < ((List.length (LA.gjAt x0 k).1 : Nat) : Int)) := of_decide_eq_false h2
   refine wp_exit (then_exit (then_exit (in_hit (then_normal (wp_seq ?_)))))
   refine at_regq [{},{},{ ids:=[2] }] { ts:=[4],os:=[2] } [(0:Int)≤(((LA.gjAt x0 k).2:Nat):Int)∧(((LA.gjAt x0 k).2:Nat):Int)≤((List.length (LA.gjAt x0 k).1:Nat):Int)] gamOK hT h (by kernel_rfl) ⟨(by refine ⟨?_,?_⟩<;>(first | omega | (simp only [lsA];omega) | (simp<;>omega))),trivial⟩ fun a w h=>then_normal (wp_ret ?_)
   exact at_return ((List.take (LA.gjAt x0 k).2 (LA.gjAt x0 k).1),()) [] h (by kernel_rfl) trivial (congrArg (fun z=>(z,())) (show ((List.take (LA.gjAt x0 k).2 (LA.gjAt x0 k).1))=D_spec_l7Reduce x0 x1 from by unfold D_spec_l7Reduce;(exact LA.gm_end hok0 (by omega))))
 ·refine at_regq [{}, {}, { hint := some (aB false) }] { ts := [1, 4, 5, 6, 7, 17, 18, 19, 20, 21], os := [1] } [(AV.p (.c (.v (.bool (decide (((k : Nat) : Int) < x1))))) = AV.p (.c (.v (.bool false))))] gamOK hT h (by kernel_rfl) ⟨hint_bool (decide_eq_false h1), trivial⟩ fun a w h => then_normal ?_
  refine at_test false h (by kernel_rfl) (fun hh=>nomatch hh) (fun hh=>?_)
  refine wp_exit (then_exit (then_exit (in_hit (then_normal (wp_seq ?_)))))
  refine at_regq [{},{},{ ids:=[2] }] { ts:=[4],os:=[2] } [(0:Int)≤(((LA.gjAt x0 k).2:Nat):Int)∧(((LA.gjAt x0 k).2:Nat):Int)≤((List.length (LA.gjAt x0 k).1:Nat):Int)] gamOK hT h (by kernel_rfl) ⟨(by refine ⟨?_,?_⟩<;>(first | omega | (simp only [lsA];omega) | (simp<;>omega))),trivial⟩ fun a w h=>then_normal (wp_ret ?_)
  exact at_return ((List.take (LA.gjAt x0 k).2 (LA.gjAt x0 k).1),()) [] h (by kernel_rfl) trivial (congrArg (fun z=>(z,())) (show ((List.take (LA.gjAt x0 k).2 (LA.gjAt x0 k).1))=D_spec_l7Reduce x0 x1 from by unfold D_spec_l7Reduce;(exact LA.gm_end hok0 (by omega))))

def rowRed (x0:(List (List Int))):(List (List Int)):=(if (validM x0)=true then (D_spec_l7Reduce x0 (colsOf x0)) else ([]:List (List Int)))
abbrev Q_spec_RowReduce:=(fun (x0:(List (List Int)))=>Sh.fit s66 x0)
def S_spec_RowReduce:Sum:={ fid:=145,dom:=[s66],cod:=[s66],dp:=false,fz:=false,pre:=fun x=>Q_spec_RowReduce x.1,g:=fun x=>((rowRed x.1),()) }
def S_spec_RowReduce_tab:List (Nat×Sum):=[(107,S_spec_IsValidMatrix),(66,S_spec_ColumnsOf),(155,S_spec_l7Reduce)]
theorem S_spec_RowReduce_ok:FnOK Try.prog 145 S_spec_RowReduce:=by
 refine at_enter 11 (fun x=>⟨[(0,aF s22 x.1)],[]⟩) Try.func145 rfl (by kernel_rfl) (fun x=>rfl) ?_
 rintro w0 Z0 ⟨x0,u⟩ a w
 revert x0
 intro (x0:(List (List Int))) hpre hlens h
 replace hpre:Q_spec_RowReduce x0:=hpre
 have hT:TabOK Try.prog S_spec_RowReduce_tab:=(.cons S_spec_IsValidMatrix_ok (.cons S_spec_ColumnsOf_ok (.cons S_spec_l7Reduce_ok .nil)))
 have hf0:Sh.fit s66 x0:=hpre
 have hn0_1:List.length x0≤1073741824:=hf0.1
 refine wp_seq ?_
 refine at_regq [] { ts:=[0,2],os:=[] } [] gamOK hT h (by kernel_rfl) trivial fun a w h=>then_normal (wp_seq (wp_seq ?_))
 refine at_regq [] { ts:=[0,2,5],os:=[] } [Q_spec_IsValidMatrix x0] gamOK hT h (by kernel_rfl) ⟨(by exact hf0),trivial⟩ fun a w h=>then_normal ?_
 refine at_test (!(validM x0)) h (by kernel_rfl) (fun h1=>?_) (fun h1=>?_)
 ·replace h1 : (validM x0) = false := notT h1
  refine wp_seq ?_
  refine at_regq [{ ids:=[1],dp:=false }] { ts:=[0,2],os:=[1] } [] gamOK hT h (by kernel_rfl) trivial fun a w h=>then_normal (wp_ret (then_ret ?_))
  exact at_return (([]:List (List Int)),()) [] h (by kernel_rfl) trivial (congrArg (fun z=>(z,())) (show (([]:List (List Int)))=rowRed x0 from by first | rfl | (unfold rowRed;rw [if_neg (neT h1)])))
 ·replace h1 : (validM x0) = true := notF h1
  have hvh1:=validM_t h1
  refine wp_skip (then_normal (wp_seq ?_))
  refine at_regq [{},{},{},{ ids:=[2] }] { ts:=[2],os:=[2] } [Q_spec_ColumnsOf x0,Q_spec_l7Reduce x0 (colsOf x0)] gamOK hT h (by kernel_rfl) ⟨(by exact hf0),(by exact ⟨hf0,l7P_of (by assumption)⟩),trivial⟩ fun a w h=>then_normal (wp_ret ?_)
  exact at_return ((D_spec_l7Reduce x0 (colsOf x0)),()) [] h (by kernel_rfl) trivial (congrArg (fun z=>(z,())) (show ((D_spec_l7Reduce x0 (colsOf x0)))=rowRed x0 from by first | rfl | (unfold rowRed;rw [if_pos h1])))
theorem rowRed_at {m:List (List Int)} (h:validM m=true):rowRed m=LA.gjS m (List.length (m.getD 0 [])):=by
 unfold rowRed D_spec_l7Reduce
 rw [if_pos h,l7_cols]
theorem rowRed_fit {m:List (List Int)} (h:Sh.fit s66 m):Sh.fit s66 (rowRed m):=by
 by_cases hv:validM m=true
 ·rw [rowRed_at hv]
  have hr:=(LA.gjS_ok (validM_ok hv)).1
  have hl:=hr.len
  have hc:=l7_w hv
  exact fitM hr.ok hc (by omega)
 ·unfold rowRed;rw [if_neg hv];exact Sh.fit_nil

def isRedS (x0:(List (List Int))):Bool:=(if (validM x0)=true then ((Sh.eqB s66) (rowRed x0) x0) else false)
abbrev Q_spec_IsReduced:=(fun (x0:(List (List Int)))=>Sh.fit s66 x0)
def S_spec_IsReduced:Sum:={ fid:=138,dom:=[s66],cod:=[(.bool 4)],dp:=true,fz:=false,pre:=fun x=>Q_spec_IsReduced x.1,g:=fun x=>((isRedS x.1),()) }
def S_spec_IsReduced_tab:List (Nat×Sum):=[(107,S_spec_IsValidMatrix),(145,S_spec_RowReduce),(152,S_spec_EqualMatrices)]
theorem S_spec_IsReduced_ok:FnOK Try.prog 138 S_spec_IsReduced:=by
 refine at_enter 11 (fun x=>⟨[(0,aF s22 x.1)],[]⟩) Try.func138 rfl (by kernel_rfl) (fun x=>rfl) ?_
 rintro w0 Z0 ⟨x0,u⟩ a w
 revert x0
 intro (x0:(List (List Int))) hpre hlens h
 replace hpre:Q_spec_IsReduced x0:=hpre
 have hT:TabOK Try.prog S_spec_IsReduced_tab:=(.cons S_spec_IsValidMatrix_ok (.cons S_spec_RowReduce_ok (.cons S_spec_EqualMatrices_ok .nil)))
 have hf0:Sh.fit s66 x0:=hpre
 have hn0_1:List.length x0≤1073741824:=hf0.1
 refine wp_seq ?_
 refine at_regq [] { ts:=[0,2],os:=[] } [] gamOK hT h (by kernel_rfl) trivial fun a w h=>then_normal (wp_seq ?_)
 rcases Bool.eq_false_or_eq_true ((validM x0)) with h1 | h1
 ·have hvh1 := validM_t h1
  refine at_regq [{},{ hint:=some (aB true) },{},{},{ ids:=[1] }] { ts:=[2],os:=[] } [Q_spec_IsValidMatrix x0,(AV.p (.c (.v (.bool ((validM x0)))))=AV.p (.c (.v (.bool true)))),Q_spec_RowReduce x0,True] gamOK hT h (by kernel_rfl) ⟨(by exact hf0),hint_bool (h1),(by exact hf0),trivial,trivial⟩ fun a w h=>then_normal (wp_ret ?_)
  exact at_return (((Sh.eqB s66) (rowRed x0) x0),()) [] h (by kernel_rfl) trivial (congrArg (fun z=>(z,())) (show (((Sh.eqB s66) (rowRed x0) x0))=isRedS x0 from by first | rfl | (unfold isRedS;rw [if_pos h1])))
 ·refine at_regq [{}, { hint := some (aB false) }] { ts := [2], os := [] } [Q_spec_IsValidMatrix x0, (AV.p (.c (.v (.bool ((validM x0))))) = AV.p (.c (.v (.bool false))))] gamOK hT h (by kernel_rfl) ⟨(by exact hf0), hint_bool (h1), trivial⟩ fun a w h => then_normal (wp_ret ?_)
  exact at_return (false,()) [] h (by kernel_rfl) trivial (congrArg (fun z=>(z,())) (show (false)=isRedS x0 from by first | rfl | (unfold isRedS;rw [if_neg (neT h1)])))
theorem isRed_all {n:Nat} {m:List (List Int)} (h:∀ r∈m,LA.VokB n r) (hn:n≤40):isRed m=true↔LA.RedL n m:=by
 rw [← isRed_iff h hn];unfold isRed
 by_cases h1:validM m=true
 ·rw [if_pos h1]; by_cases h2 : allN (redB m) (List.length m) = true
  ·simp [h1,h2]
  ·simp [h1,h2]
 ·rw [if_neg h1];simp [h1]
theorem isRedS_eq (m:List (List Int)):isRedS m=isRed m:=by
 unfold isRedS isRed
 by_cases h1:validM m=true
 ·rw [if_pos h1, if_pos h1, rowRed_at h1, Bool.eq_iff_iff, Sh.eqB_iff, LA.gjS_iff (validM_ok h1), ← red_all (validM_ok h1)]
  by_cases h2:allN (redB m) (List.length m)=true
  ·simp [h2]
  ·simp [h2]
 ·rw [if_neg h1,if_neg h1]
theorem isRed_v {m:List (List Int)} (h:isRed m=true):validM m=true:=by
 unfold isRed at h;split at h
 ·assumption
 ·cases h

def validB (x0:T95):Bool:=(if (inR x0.1 0 40)=true then (if (isRed x0.2)=true then (if ((List.length x0.2:Nat):Int)=0 then true else decide (((List.length (x0.2.getD 0 []):Nat):Int)=x0.1)) else false) else false)
abbrev Q_impl_IsValidBasis:=(fun (x0:T95)=>Sh.fit s95 x0)
def S_impl_IsValidBasis:Sum:={ fid:=115,dom:=[s95],cod:=[(.bool 4)],dp:=true,fz:=false,pre:=fun x=>Q_impl_IsValidBasis x.1,g:=fun x=>((validB x.1),()) }
def S_impl_IsValidBasis_tab:List (Nat×Sum):=[(73,S_impl_InRange),(141,S_impl_IsReduced)]
theorem S_impl_IsValidBasis_ok:FnOK Try.prog 115 S_impl_IsValidBasis:=by
 refine at_enter 27 (fun x=>⟨[(0,aG [cI x.1.1,.ro s22 x.1.2])],[]⟩) Try.func115 rfl (by kernel_rfl) (fun x=>rfl) ?_
 rintro w0 Z0 ⟨x0,u⟩ a w
 revert x0
 intro (x0:T95) hpre hlens h
 replace hpre:Q_impl_IsValidBasis x0:=hpre
 have hT:TabOK Try.prog S_impl_IsValidBasis_tab:=(.cons S_impl_InRange_ok (.cons S_impl_IsReduced_ok .nil))
 have hf0:Sh.fit s95 x0:=hpre
 have hn0_1:List.length x0.2≤1073741824:=hf0.2.1
 refine wp_seq ?_
 refine at_regq [{ ids:=[1] }] { ts:=[1,2],os:=[1] } [] gamOK hT h (by kernel_rfl) trivial fun a w h=>then_normal (wp_seq ?_)
 rcases Bool.eq_false_or_eq_true ((inR x0.1 0 40)) with h1 | h1
 ·have hvh1 := inR_t h1
  rcases Bool.eq_false_or_eq_true ((isRed x0.2)) with h2 | h2
  ·by_cases h3 : ((List.length x0.2 : Nat) : Int) = 0
   ·refine at_anyq [{}, {}, { hint := some (aB true) }, {}, {}, {}, { hint := some (aB true) }, {}, {}, {}, {}, {}, { hint := some (aB true) }, {}, {}, {}, {}, {}, {}, {}, {}, {}, {}, {}, {}] { ts := [2], os := [] } [True, (AV.p (.c (.v (.bool ((inR x0.1 0 40))))) = AV.p (.c (.v (.bool true)))), Q_impl_IsReduced x0.2, (AV.p (.c (.v (.bool ((isRed x0.2))))) = AV.p (.c (.v (.bool true)))), (AV.p (.c (.v (.bool (decide (((List.length x0.2 : Nat) : Int) = 0))))) = AV.p (.c (.v (.bool true))))] gamOK hT mixed h (by kernel_rfl) ⟨trivial, hint_bool (h1), (by exact hf0.2), hint_bool (h2), hint_bool (decide_eq_true h3), trivial⟩ fun a w h => then_normal (wp_ret ?_)
    exact at_return (true,()) [] h (by kernel_rfl) trivial (congrArg (fun z=>(z,())) (show (true)=validB x0 from by first | rfl | (unfold validB;rw [if_pos h1,if_pos h2,if_pos h3])))
   ·refine at_anyq [{}, {}, { hint := some (aB true) }, {}, {}, {}, { hint := some (aB true) }, {}, {}, {}, {}, {}, { hint := some (aB false) }, {}, {}, {}, {}, {}, {}, {}, {}, {}, {}, {}, {}] { ts := [2], os := [] } [True, (AV.p (.c (.v (.bool ((inR x0.1 0 40))))) = AV.p (.c (.v (.bool true)))), Q_impl_IsReduced x0.2, (AV.p (.c (.v (.bool ((isRed x0.2))))) = AV.p (.c (.v (.bool true)))), (AV.p (.c (.v (.bool (decide (((List.length x0.2 : Nat) : Int) = 0))))) = AV.p (.c (.v (.bool false)))), (0 : Int) ≤ 0 ∧ 0 < ((List.length x0.2 : Nat) : Int)] gamOK hT mixed h (by kernel_rfl) ⟨trivial, hint_bool (h1), (by exact hf0.2), hint_bool (h2), hint_bool (decide_eq_false h3), (by refine ⟨?_, ?_⟩ <;> (first | omega | (simp only [lsA]; omega) | (simp <;> omega))), trivial⟩ fun a w h => then_normal (wp_ret ?_)
    exact at_return (decide (((List.length (x0.2.getD 0 []):Nat):Int)=x0.1),()) [] h (by kernel_rfl) trivial (congrArg (fun z=>(z,())) (show (decide (((List.length (x0.2.getD 0 []):Nat):Int)=x0.1))=validB x0 from by first | rfl | (unfold validB;rw [if_pos h1,if_pos h2,if_neg h3])))
  ·refine at_anyq [{}, {}, { hint := some (aB true) }, {}, {}, {}, { hint := some (aB false) }, {}, {}, {}, {}, {}, {}, {}, {}, {}, {}, {}, {}, {}, {}, {}, {}, {}, {}] { ts := [2], os := [] } [True, (AV.p (.c (.v (.bool ((inR x0.1 0 40))))) = AV.p (.c (.v (.bool true)))), Q_impl_IsReduced x0.2, (AV.p (.c (.v (.bool ((isRed x0.2))))) = AV.p (.c (.v (.bool false))))] gamOK hT mixed h (by kernel_rfl) ⟨trivial, hint_bool (h1), (by exact hf0.2), hint_bool (h2), trivial⟩ fun a w h => then_normal (wp_ret ?_)
   exact at_return (false,()) [] h (by kernel_rfl) trivial (congrArg (fun z=>(z,())) (show (false)=validB x0 from by first | rfl | (unfold validB;rw [if_pos h1,if_neg (neT h2)])))
 ·have hvh1 := inR_f h1
  refine at_anyq [{},{},{ hint:=some (aB false) },{},{},{},{},{},{},{},{},{},{},{},{},{},{},{},{},{},{},{},{},{},{}] { ts:=[2],os:=[] } [True,(AV.p (.c (.v (.bool ((inR x0.1 0 40)))))=AV.p (.c (.v (.bool false))))] gamOK hT mixed h (by kernel_rfl) ⟨trivial,hint_bool (h1),trivial⟩ fun a w h=>then_normal (wp_ret ?_)
  exact at_return (false,()) [] h (by kernel_rfl) trivial (congrArg (fun z=>(z,())) (show (false)=validB x0 from by first | rfl | (unfold validB;rw [if_neg (neT h1)])))

def validBS (x0:T95):Bool:=(if (List.all x0.2 (fun r=>decide (((List.length r:Nat):Int)=x0.1)))=true then (if (inR x0.1 0 40)=true then (isRedS x0.2) else false) else false)
abbrev Q_spec_IsValidBasis:=(fun (x0:T95)=>Sh.fit s95 x0)
def S_spec_IsValidBasis:Sum:={ fid:=104,dom:=[s95],cod:=[(.bool 4)],dp:=true,fz:=false,pre:=fun x=>Q_spec_IsValidBasis x.1,g:=fun x=>((validBS x.1),()) }
def S_spec_IsValidBasis_tab:List (Nat×Sum):=[(59,S_spec_l1In),(138,S_spec_IsReduced)]
theorem S_spec_IsValidBasis_ok:FnOK Try.prog 104 S_spec_IsValidBasis:=by
 refine at_enter 28 (fun x=>⟨[(0,aG [cI x.1.1,.ro s22 x.1.2])],[]⟩) Try.func104 rfl (by kernel_rfl) (fun x=>rfl) ?_
 rintro w0 Z0 ⟨x0,u⟩ a w
 revert x0
 intro (x0:T95) hpre hlens h
 replace hpre:Q_spec_IsValidBasis x0:=hpre
 have hT:TabOK Try.prog S_spec_IsValidBasis_tab:=(.cons S_spec_l1In_ok (.cons S_spec_IsReduced_ok .nil))
 have hf0:Sh.fit s95 x0:=hpre
 have hn0_1:List.length x0.2≤1073741824:=hf0.2.1
 refine wp_seq ?_
 refine at_regq [{ ids:=[1] }] { ts:=[1,2],os:=[1] } [] gamOK hT h (by kernel_rfl) trivial fun a w h=>then_normal (wp_seq (wp_seq ?_))
 refine at_regq [] { ts:=[1,2,3],os:=[1] } [] gamOK hT h (by kernel_rfl) trivial fun a w h=>then_normal (wp_block ?_)
 replace h:=at_out (σ':=⟨[(1,aP 1 0),(2,aB false),(3,aI 0)],[(1,oX 95 [cI x0.1,.ro s22 x0.2])]⟩) { ts:=[1,2,3],os:=[1] } h (by kernel_rfl)
 refine at_loop (fun i:Nat=>(⟨[(1,aP 1 0),(2,aB false),(3,aI ((i:Nat):Int))],[(1,oX 95 [cI x0.1,.ro s22 x0.2])]⟩:St)) (fun i=>(i≤List.length x0.2∧allTo1 (fun r=>decide (((List.length r:Nat):Int)=x0.1)) x0.2 [] i)) (fun i=>List.length x0.2 - i) (0) h (st_congr1 (fun (d0:Int)=>(⟨[(1,aP 1 0),(2,aB false),(3,aI d0)],[(1,oX 95 [cI x0.1,.ro s22 x0.2])]⟩:St)) (show (0:Int)=(((0):Nat):Int) from by first | with_reducible rfl | (rfl) | rfl)) (by exact ⟨Nat.zero_le _,allTo1_zero⟩) ?_
 intro i a w hok0 h
 refine wp_seq (wp_seq ?_)
 refine at_regq [] { ts:=[1,2,3,8],os:=[1] } [] gamOK hT h (by kernel_rfl) trivial fun a w h=>then_normal ?_
 refine at_test (decide (((i:Nat):Int) < ((List.length x0.2:Nat):Int))) h (by kernel_rfl) (fun h1=>?_) (fun h1=>?_)
 ·replace h1 : ((i : Nat) : Int) < ((List.length x0.2 : Nat) : Int) := of_decide_eq_true h1
  refine wp_skip (then_normal (wp_seq (wp_block (wp_seq ?_))))
  refine at_anyq [{},{},{},{},{},{},{},{},{}] { ts:=[1,2,3,19],os:=[1] } [(0:Int)≤((i:Nat):Int)∧((i:Nat):Int) < ((List.length x0.2:Nat):Int)] gamOK hT mixed h (by kernel_rfl) ⟨(by refine ⟨?_,?_⟩<;>(first | omega | (simp only [lsA];omega) | (simp<;>omega))),trivial⟩ fun a w h=>then_normal ?_
  refine at_test (!decide (((List.length (x0.2.getD i []):Nat):Int)=x0.1)) h (by kernel_rfl) (fun h2=>?_) (fun h2=>?_)
  ·replace h2 : ¬ (((List.length (x0.2.getD i []) : Nat) : Int) = x0.1) := of_decide_eq_false (notT h2)
   refine wp_seq ?_
   refine at_regq [] { ts:=[1,2,3],os:=[1] } [] gamOK hT h (by kernel_rfl) trivial fun a w h=>then_normal (wp_ret (in_ret (then_ret ?_)))
   have hs3:(List.all x0.2 (fun r=>decide (((List.length r:Nat):Int)=x0.1)))=false:=by exact all_at (z:=[]) (i:=i) (by omega) (by first | assumption | exact decide_eq_false (by omega) | (simp_all;done))
   refine then_ret (in_ret (then_ret ?_))
   exact at_return (false,()) [] h (by kernel_rfl) trivial (congrArg (fun z=>(z,())) (show (false)=validBS x0 from by first | rfl | (unfold validBS;rw [if_neg (neT hs3)])))
  ·replace h2 : ((List.length (x0.2.getD i []) : Nat) : Int) = x0.1 := of_decide_eq_true (notF h2)
   refine wp_skip (in_normal (then_normal ?_))
   refine at_regq [{},{ nw:=true }] { ts:=[1,2,3],os:=[1] } [I64 (((i:Nat):Int)+1)] gamOK hT h (by kernel_rfl) ⟨⟨by first | omega | (simp only [lsA];omega) | (simp<;>omega),by first | omega | (simp only [lsA];omega) | (simp<;>omega)⟩,trivial⟩ fun a w h=>?_
   replace h:=at_out (σ':=⟨[(1,aP 1 0),(2,aB false),(3,aI (((i:Nat):Int)+1))],[(1,oX 95 [cI x0.1,.ro s22 x0.2])]⟩) { ts:=[1,2,3],os:=[1] } h (by kernel_rfl)
   exact ⟨i+1,at_eq h (st_congr1 (fun (d0:Int)=>(⟨[(1,aP 1 0),(2,aB false),(3,aI d0)],[(1,oX 95 [cI x0.1,.ro s22 x0.2])]⟩:St)) (show (((i:Nat):Int)+1:Int)=(((i+1):Nat):Int) from by first | with_reducible rfl | (omega) | rfl)),(by exact ⟨by omega,allTo1_succ hok0.2 (by first | assumption | exact decide_eq_true (by omega) | (simp_all;done))⟩),(by omega)⟩
 ·replace h1 : ¬ (((i : Nat) : Int) < ((List.length x0.2 : Nat) : Int)) := of_decide_eq_false h1
  refine wp_exit (then_exit ?_)
  have hs4:(List.all x0.2 (fun r=>decide (((List.length r:Nat):Int)=x0.1)))=true:=by exact all_of (z:=[]) (i:=i) (by omega) hok0.2
  refine then_exit (in_hit (then_normal (wp_seq ?_)))
  rcases Bool.eq_false_or_eq_true ((inR x0.1 0 40)) with h5 | h5
  ·have hvh5 := inR_t h5
   refine at_regq [{},{},{ hint:=some (aB true) }] { ts:=[2],os:=[] } [True,(AV.p (.c (.v (.bool ((inR x0.1 0 40)))))=AV.p (.c (.v (.bool true)))),Q_spec_IsReduced x0.2] gamOK hT h (by kernel_rfl) ⟨trivial,hint_bool (h5),(by exact hf0.2),trivial⟩ fun a w h=>then_normal (wp_ret ?_)
   exact at_return ((isRedS x0.2),()) [] h (by kernel_rfl) trivial (congrArg (fun z=>(z,())) (show ((isRedS x0.2))=validBS x0 from by first | rfl | (unfold validBS;rw [if_pos hs4,if_pos h5])))
  ·have hvh5 := inR_f h5
   refine at_regq [{},{},{ hint:=some (aB false) }] { ts:=[2],os:=[] } [True,(AV.p (.c (.v (.bool ((inR x0.1 0 40)))))=AV.p (.c (.v (.bool false))))] gamOK hT h (by kernel_rfl) ⟨trivial,hint_bool (h5),trivial⟩ fun a w h=>then_normal (wp_ret ?_)
   exact at_return (false,()) [] h (by kernel_rfl) trivial (congrArg (fun z=>(z,())) (show (false)=validBS x0 from by first | rfl | (unfold validBS;rw [if_pos hs4,if_neg (neT h5)])))
def basP (b:T95):Prop:=(0≤b.1∧b.1≤40)∧LA.RedL b.1.toNat b.2
theorem basP_w {b:T95} (h:isRed b.2=true) (h0:0≤b.1∧b.1≤40) (hw:∀ r∈b.2,((List.length r:Nat):Int)=b.1):basP b:=by
 refine ⟨h0,?_⟩
 have hv:=validM_t (isRed_v h)
 have hk:∀ r∈b.2,LA.VokB b.1.toNat r:=fun r hr=>⟨by have:=hw r hr;omega,(validV_t (hv.2 r hr).1).2.1⟩
 exact (isRed_all hk (by omega)).1 h
theorem validB_iff (b:T95):validB b=true↔basP b:=by
 constructor
 ·intro h
  unfold validB at h
  split at h
  ·split at h
   ·rename_i h1 h2
    have h0:=inR_t h1
    refine basP_w h2 h0 fun r hr=>?_
    have hv:=(validM_t (isRed_v h2)).2 r hr
    have hp:=List.length_pos_of_mem hr
    split at h
    ·omega
    ·have:=of_decide_eq_true h;rw [hv.2];exact this
   ·cases h
  ·cases h
 ·intro h
  have hr:isRed b.2=true:=(isRed_all h.2.ok (by have:=h.1;omega)).2 h.2
  unfold validB
  rw [if_pos (inR_true h.1),if_pos hr]
  split
  ·rfl
  ·rename_i h0
   have:=(h.2.ok _ (LA.getD_in (rows:=b.2) (i:=0) (by omega))).1
   exact decide_eq_true (by have:=h.1;omega)
theorem validBS_eq (b:T95):validBS b=validB b:=by
 rw [Bool.eq_iff_iff,validB_iff]
 constructor
 ·intro h
  unfold validBS at h
  split at h
  ·split at h
   ·rename_i h1 h2
    rw [isRedS_eq] at h
    exact basP_w h (inR_t h2) fun r hr=>of_decide_eq_true (List.all_eq_true.1 h1 r hr)
   ·cases h
  ·cases h
 ·intro h
  have hr:isRed b.2=true:=(isRed_all h.2.ok (by have:=h.1;omega)).2 h.2
  unfold validBS
  rw [if_pos (List.all_eq_true.2 fun r hr=>decide_eq_true (by have:=(h.2.ok r hr).1;have:=h.1;omega)),if_pos (inR_true h.1),isRedS_eq]
  exact hr
theorem validB_t {b:T95} (h:validB b=true):basP b:=(validB_iff b).1 h
theorem validBS_t {b:T95} (h:validBS b=true):basP b:=validB_t (by rwa [validBS_eq] at h)
def redP (b:T95) (v:List Int):Prop:=basP b∧LA.VokB b.1.toNat v
def takesB (x0:T95) (x1:List Int):Bool:=if validB x0=true then (if validV x1=true then decide (((List.length x1:Nat):Int)=x0.1) else false) else false
theorem takesB_t {b:T95} {v:List Int} (h:takesB b v=true):redP b v:=by
 unfold takesB at h
 split at h
 ·split at h
  ·rename_i h1 h2
   have:=of_decide_eq_true h
   have hb:=validB_t h1
   exact ⟨hb,by omega,(validV_t h2).2.1⟩
  ·cases h
 ·cases h
theorem takesB_of {b:T95} {v:List Int} (h:redP b v):takesB b v=true:=by
 unfold takesB
 rw [if_pos ((validB_iff b).2 h.1),if_pos (validV_of h.2 (by have:=h.1.1;omega))]
 exact decide_eq_true (by have:=h.2.1;have:=h.1.1;omega)
theorem basP_fit {a:T95} (h:basP a):Sh.fit s95 a:=⟨trivial,fitM h.2.ok (by have:=h.1;omega) (by have:=h.2.len;have:=h.1;omega)⟩
theorem ctL_bd {α:Type} {c:α→Nat} {m:Nat}:∀ {xs:List α},(∀ x∈xs,c x≤m)→ctL c xs≤m*xs.length
 | [],_=>Nat.zero_le _
 | x :: l, h => by
  have h1:=h x (by simp)
  have h2:=ctL_bd (xs:=l) (fun y hy=>h y (by simp [hy]))
  simp only [ctL,List.length_cons,Nat.mul_add,Nat.mul_one];omega
theorem basP_sz {a:T95} (h:basP a):Sh.sz s95 a≤2000:=by
 have h1:Sh.sz s95 a=0+(List.length a.2+ctL (Sh.sz s22) a.2):=rfl
 have h2:=ctL_bd (c:=Sh.sz s22) (m:=40) (xs:=a.2) (fun x hx=>by rw [sz_flat (by rfl)];have:=(h.2.ok x hx).1;have:=h.1;omega)
 have h3:=h.2.len;have h4:=h.1
 omega
def insU (b:T95) (v:List Int):T95:=(b.1,(LA.insS b.2 v).1)
def insD (b:T95) (v:List Int):Bool:=(LA.insS b.2 v).2

def newBas (x0:Int):T95:=(if (inR x0 0 40)=true then (x0,([]:List (List Int))) else (0,([]:List (List Int))))
def S_impl_NewBasis:Sum:={ fid:=130,dom:=[(.int 3)],cod:=[s95],dp:=true,fz:=false,pre:=fun x=>True,g:=fun x=>((newBas x.1),()) }
def S_impl_NewBasis_tab:List (Nat×Sum):=[(73,S_impl_InRange)]
theorem S_impl_NewBasis_ok:FnOK Try.prog 130 S_impl_NewBasis:=by
 refine at_enter 9 (fun x=>⟨[(0,aI x.1)],[]⟩) Try.func130 rfl (by kernel_rfl) (fun x=>rfl) ?_
 rintro w0 Z0 ⟨x0,u⟩ a w
 revert x0
 intro (x0:Int) hpre hlens h
 have hT:TabOK Try.prog S_impl_NewBasis_tab:=(.cons S_impl_InRange_ok .nil)
 refine wp_seq ?_
 refine at_regq [{ ids:=[1] }] { ts:=[0,2],os:=[1] } [] gamOK hT h (by kernel_rfl) trivial fun a w h=>then_normal (wp_seq (wp_seq ?_))
 refine at_regq [] { ts:=[0,2,5],os:=[1] } [True] gamOK hT h (by kernel_rfl) ⟨trivial,trivial⟩ fun a w h=>then_normal ?_
 refine at_test (!(inR x0 0 40)) h (by kernel_rfl) (fun h1=>?_) (fun h1=>?_)
 ·replace h1 : (inR x0 0 40) = false := notT h1
  have hvh1:=inR_f h1
  refine wp_seq ?_
  refine at_regq [] { ts:=[0,2],os:=[1] } [] gamOK hT h (by kernel_rfl) trivial fun a w h=>then_normal (wp_ret (then_ret ?_))
  exact at_return ((0,([]:List (List Int))),()) [] h (by kernel_rfl) trivial (congrArg (fun z=>(z,())) (show ((0,([]:List (List Int))))=newBas x0 from by first | rfl | (unfold newBas;rw [if_neg (neT h1)])))
 ·replace h1 : (inR x0 0 40) = true := notF h1
  have hvh1:=inR_t h1
  refine wp_skip (then_normal (wp_seq ?_))
  refine at_regq [] { ts:=[2],os:=[1] } [] gamOK hT h (by kernel_rfl) trivial fun a w h=>then_normal (wp_ret ?_)
  exact at_return ((x0,([]:List (List Int))),()) [] h (by kernel_rfl) trivial (congrArg (fun z=>(z,())) (show ((x0,([]:List (List Int))))=newBas x0 from by first | rfl | (unfold newBas;rw [if_pos h1])))

def D__impl_Basis_reduce:=(fun (b:T95) (v:List Int)=>LA.redS b.2 v)
abbrev Q__impl_Basis_reduce:=(fun (x0:T95) (x1:(List Int))=>Sh.fit s95 x0∧Sh.fit s22 x1∧redP x0 x1)
def S__impl_Basis_reduce:Sum:={ fid:=146,dom:=[s95,s22],cod:=[s22],dp:=true,fz:=false,pre:=fun x=>Q__impl_Basis_reduce x.1 x.2.1,g:=fun x=>((D__impl_Basis_reduce x.1 x.2.1),()) }
def S__impl_Basis_reduce_tab:List (Nat×Sum):=[(69,S_slices_Clone_S_int_int_),(116,S_impl_LeadingIndex),(149,S_impl_addScaled)]
theorem S__impl_Basis_reduce_ok:FnOK Try.prog 146 S__impl_Basis_reduce:=by
 refine at_enter 32 (fun x=>⟨[(0,aG [cI x.1.1,.ro s22 x.1.2]),(1,aF (.int 3) x.2.1)],[]⟩) Try.func146 rfl (by kernel_rfl) (fun x=>rfl) ?_
 rintro w0 Z0 ⟨x0,x1,u⟩ a w
 revert x0 x1
 intro (x0:T95) (x1:(List Int)) hpre hlens h
 replace hpre:Q__impl_Basis_reduce x0 x1:=hpre
 have hT:TabOK Try.prog S__impl_Basis_reduce_tab:=(.cons S_slices_Clone_S_int_int__ok (.cons S_impl_LeadingIndex_ok (.cons S_impl_addScaled_ok .nil)))
 obtain ⟨hf0,hf1,hpx⟩:=hpre
 have hn0_1:List.length x0.2≤1073741824:=hf0.2.1
 have hn1_2:List.length x1≤1073741824:=hf1.1
 have hb0:=hpx.1.1
 have hbR:=hpx.1.2
 have hbv:=hpx.2
 refine wp_seq ?_
 refine at_regq [{ ids:=[1] }] { ts:=[1,2,4],os:=[1] } [] gamOK hT h (by kernel_rfl) trivial fun a w h=>then_normal (wp_seq ?_)
 refine at_regq [{},{ ids:=[2] }] { ts:=[2,4,5],os:=[1,2] } [(lenOK (α:=Int)) x1] gamOK hT h (by kernel_rfl) ⟨(by exact hf1.1),trivial⟩ fun a w h=>then_normal (wp_seq (wp_seq ?_))
 refine at_regq [] { ts:=[4,5,12,13,14],os:=[2] } [] gamOK hT h (by kernel_rfl) trivial fun a w h=>then_normal (wp_block ?_)
 replace h:=at_out (σ':=⟨[(4,.p (.c (cN))),(5,aS 2),(12,aF s22 x0.2),(13,aI ((List.length x0.2:Nat):Int)),(14,aI 0)],[(2,oR (.int 3) x1)]⟩) { ts:=[4,5,12,13,14],os:=[2] } h (by kernel_rfl)
 refine at_loop (fun i:Nat=>(⟨[(4,.p (.c (cN))),(5,aS 2),(12,aF s22 x0.2),(13,aI ((List.length x0.2:Nat):Int)),(14,aI ((i:Nat):Int))],[(2,oR (.int 3) (foldTo LA.redStep x1 x0.2 i))]⟩:St)) (fun i=>i≤List.length x0.2) (fun i=>List.length x0.2 - i) (0) h (st_congr2 (fun (d0:List Int) (d1:Int)=>(⟨[(4,.p (.c (cN))),(5,aS 2),(12,aF s22 x0.2),(13,aI ((List.length x0.2:Nat):Int)),(14,aI d1)],[(2,oR (.int 3) d0)]⟩:St)) (show (x1:List Int)=(foldTo LA.redStep x1 x0.2 (0)) from by first | with_reducible rfl | (rfl) | rfl) (show (0:Int)=(((0):Nat):Int) from by first | with_reducible rfl | (rfl) | rfl)) (by omega) ?_
 intro i a w hok0 h
 refine wp_seq ?_
 refine at_regq [] { ts:=[4,5,12,13,14,15],os:=[2] } [] gamOK hT h (by kernel_rfl) trivial fun a w h=>then_normal (wp_seq ?_)
 refine at_test (decide (((i:Nat):Int) < ((List.length x0.2:Nat):Int))) h (by kernel_rfl) (fun h1=>?_) (fun h1=>?_)
 ·replace h1 : ((i : Nat) : Int) < ((List.length x0.2 : Nat) : Int) := of_decide_eq_true h1
  have hro:LA.VokB x0.1.toNat (foldTo LA.redStep x1 x0.2 i):=LA.redS_to hbR.ok hbv i (by omega)
  have hrol:=hro.1
  have hrr:=hbR.at_ (show i < List.length x0.2 by omega)
  have hror:=hro.rng (LA.leadS (x0.2.getD i [])).toNat
  refine wp_skip (then_normal (wp_seq (wp_block (wp_seq ?_))))
  refine at_regq [] { ts:=[4,5,7,12,13,14],os:=[2] } [(0:Int)≤((i:Nat):Int)∧((i:Nat):Int) < ((List.length x0.2:Nat):Int)] gamOK hT h (by kernel_rfl) ⟨(by refine ⟨?_,?_⟩<;>(first | omega | (simp only [lsA];omega) | (simp<;>omega))),trivial⟩ fun a w h=>then_normal (wp_seq ?_)
  refine at_regq [] { ts:=[4,5,7,8,12,13,14],os:=[2] } [Q_impl_LeadingIndex (x0.2.getD i []),(0:Int)≤(LA.leadS (x0.2.getD i []))∧(LA.leadS (x0.2.getD i [])) < ((List.length (foldTo LA.redStep x1 x0.2 i):Nat):Int),((LA.leadS (x0.2.getD i []))).toNat < List.length (foldTo LA.redStep x1 x0.2 i)] gamOK hT h (by kernel_rfl) ⟨(by exact fitV hrr.1 (by omega)),(by refine ⟨?_,?_⟩<;>(first | omega | (simp only [lsA];omega) | (simp<;>omega))),(by first | omega | (simp only [lsA];omega) | (simp<;>omega)),trivial⟩ fun a w h=>then_normal (wp_seq ?_)
  refine at_regq [] { ts:=[4,5,7,8,12,13,14,24],os:=[2] } [] gamOK hT h (by kernel_rfl) trivial fun a w h=>then_normal ?_
  refine at_test (!decide (((foldTo LA.redStep x1 x0.2 i).getD (((LA.leadS (x0.2.getD i []))).toNat) 0)=0)) h (by kernel_rfl) (fun h2=>?_) (fun h2=>?_)
  ·replace h2 : ¬ (((foldTo LA.redStep x1 x0.2 i).getD (((LA.leadS (x0.2.getD i []))).toNat) 0) = 0) := of_decide_eq_false (notT h2)
   refine at_regq [{},{},{},{ nw:=true }] { ts:=[4,5,12,13,14],os:=[2] } [I64 (1019 - ((foldTo LA.redStep x1 x0.2 i).getD (((LA.leadS (x0.2.getD i []))).toNat) 0)),Q_impl_addScaled (foldTo LA.redStep x1 x0.2 i) (x0.2.getD i []) (1019 - ((foldTo LA.redStep x1 x0.2 i).getD (((LA.leadS (x0.2.getD i []))).toNat) 0))] gamOK hT h (by kernel_rfl) ⟨⟨by first | omega | (simp only [lsA];omega) | (simp<;>omega),by first | omega | (simp only [lsA];omega) | (simp<;>omega)⟩,(by exact ⟨fitV hro (by omega),fitV hrr.1 (by omega),addOK_of hro hrr.1 (by omega)⟩),trivial⟩ fun a w h=>in_normal (then_normal ?_)
   refine at_regq [{ nw:=true }] { ts:=[4,5,12,13,14],os:=[2] } [I64 (((i:Nat):Int)+1)] gamOK hT h (by kernel_rfl) ⟨⟨by first | omega | (simp only [lsA];omega) | (simp<;>omega),by first | omega | (simp only [lsA];omega) | (simp<;>omega)⟩,trivial⟩ fun a w h=>?_
   replace h:=at_out (σ':=⟨[(4,.p (.c (cN))),(5,aS 2),(12,aF s22 x0.2),(13,aI ((List.length x0.2:Nat):Int)),(14,aI (((i:Nat):Int)+1))],[(2,oR (.int 3) (LA.addS (foldTo LA.redStep x1 x0.2 i) (x0.2.getD i []) (1019 - ((foldTo LA.redStep x1 x0.2 i).getD (((LA.leadS (x0.2.getD i []))).toNat) 0))))]⟩) { ts:=[4,5,12,13,14],os:=[2] } h (by kernel_rfl)
   exact ⟨i+1,at_eq h (st_congr2 (fun (d0:List Int) (d1:Int)=>(⟨[(4,.p (.c (cN))),(5,aS 2),(12,aF s22 x0.2),(13,aI ((List.length x0.2:Nat):Int)),(14,aI d1)],[(2,oR (.int 3) d0)]⟩:St)) (show ((LA.addS (foldTo LA.redStep x1 x0.2 i) (x0.2.getD i []) (1019 - ((foldTo LA.redStep x1 x0.2 i).getD (((LA.leadS (x0.2.getD i []))).toNat) 0))):List Int)=(foldTo LA.redStep x1 x0.2 (i+1)) from by first | with_reducible rfl | (rw [foldTo_succ [] (by omega)];unfold LA.redStep;first | (rw [if_pos (by assumption)];done) | (rw [if_neg (fun e=>e (by assumption))];done)) | rfl) (show (((i:Nat):Int)+1:Int)=(((i+1):Nat):Int) from by first | with_reducible rfl | (omega) | rfl)),(by omega),(by omega)⟩
  ·replace h2 : ((foldTo LA.redStep x1 x0.2 i).getD (((LA.leadS (x0.2.getD i []))).toNat) 0) = 0 := of_decide_eq_true (notF h2)
   refine wp_skip (in_normal (then_normal ?_))
   refine at_regq [{ nw:=true }] { ts:=[4,5,12,13,14],os:=[2] } [I64 (((i:Nat):Int)+1)] gamOK hT h (by kernel_rfl) ⟨⟨by first | omega | (simp only [lsA];omega) | (simp<;>omega),by first | omega | (simp only [lsA];omega) | (simp<;>omega)⟩,trivial⟩ fun a w h=>?_
   replace h:=at_out (σ':=⟨[(4,.p (.c (cN))),(5,aS 2),(12,aF s22 x0.2),(13,aI ((List.length x0.2:Nat):Int)),(14,aI (((i:Nat):Int)+1))],[(2,oR (.int 3) (foldTo LA.redStep x1 x0.2 i))]⟩) { ts:=[4,5,12,13,14],os:=[2] } h (by kernel_rfl)
   exact ⟨i+1,at_eq h (st_congr2 (fun (d0:List Int) (d1:Int)=>(⟨[(4,.p (.c (cN))),(5,aS 2),(12,aF s22 x0.2),(13,aI ((List.length x0.2:Nat):Int)),(14,aI d1)],[(2,oR (.int 3) d0)]⟩:St)) (show ((foldTo LA.redStep x1 x0.2 i):List Int)=(foldTo LA.redStep x1 x0.2 (i+1)) from by first | with_reducible rfl | (rw [foldTo_succ [] (by omega)];unfold LA.redStep;first | (rw [if_pos (by assumption)];done) | (rw [if_neg (fun e=>e (by assumption))];done)) | rfl) (show (((i:Nat):Int)+1:Int)=(((i+1):Nat):Int) from by first | with_reducible rfl | (omega) | rfl)),(by omega),(by omega)⟩
 ·replace h1 : ¬ (((i : Nat) : Int) < ((List.length x0.2 : Nat) : Int)) := of_decide_eq_false h1
  refine wp_exit (then_exit (then_exit (in_hit (then_normal (wp_seq ?_)))))
  refine at_regq [] { ts:=[4],os:=[2] } [] gamOK hT h (by kernel_rfl) trivial fun a w h=>then_normal (wp_ret ?_)
  exact at_return ((foldTo LA.redStep x1 x0.2 i),()) [] h (by kernel_rfl) trivial (congrArg (fun z=>(z,())) (show ((foldTo LA.redStep x1 x0.2 i))=D__impl_Basis_reduce x0 x1 from by unfold D__impl_Basis_reduce;(rw [foldTo_all (by omega)];rfl)))

section
open Go.Shelf Go.Lib
set_option maxRecDepth 100000 in
theorem insA150 (w:World) (A:Option Addr) (n c gu m cu:Nat) (hm:0 < m) (hnc:n≤c) (hc:c≤9223372036854775807) (hA:A=none→c=0) (v':Value) (w':World)
    (hrun:∀ ty,(Builtin.append_ #[66,66] ty #[.slice A n c,.slice (some ⟨gu,0,none⟩) m cu]).run Try.prog w=.ok v' w') :
    Calls Try.prog 150 #[.slice A n c,.int .i64 n,.slice (some ⟨gu,0,none⟩) m cu] w fun e w''=>e=.returned v'∧w''=w':=by
  have u34:=run_underlying Try.underlying66
  have hz1:¬ ((m:Int)=0):=by omega
  go_enter Try.func150,Try.ntmps150
  go_wp2_with (at_builtin;refine Lib.wpList_append_run _ rfl _ _ _ _ rfl _ _ rfl rfl _ _ (hrun _) ?_)
  all_goals (go_ret;exact ⟨rfl,rfl⟩)
set_option maxRecDepth 100000 in
theorem insB150 (w:World) (g n c i gu m cu W C:Nat) (hm:0 < m) (hi:i < n) (hnc:n≤c) (hroom:c < n+m) (hbig:n+m≤9223372036854775807) (hC:n+m≤C) (w1 w2 w3:World) (x1 x2:Value)
    (hrun0:∀ ty,(Builtin.append_ #[66,3] ty #[.slice (some ⟨g,0,none⟩) i c,.int .i64 ((n:Int)+(m:Int) - (i:Int))]).run Try.prog w=.ok (.slice (some ⟨W,0,none⟩) (n+m) C) w1)
    (hrun1:∀ ty,(Builtin.copy_ #[66,66] ty #[.slice (some ⟨W,i,none⟩) (n+m - i) (C - i),.slice (some ⟨gu,0,none⟩) m cu]).run Try.prog w1=.ok x1 w2)
    (hrun2:∀ ty,(Builtin.copy_ #[66,66] ty #[.slice (some ⟨W,i+m,none⟩) (n+m - (i+m)) (C - (i+m)),.slice (some ⟨g,i,none⟩) (n - i) (c - i)]).run Try.prog w2.drew=.ok x2 w3) :
    Calls Try.prog 150 #[.slice (some ⟨g,0,none⟩) n c,.int .i64 i,.slice (some ⟨gu,0,none⟩) m cu] w fun e w''=>e=.returned (.slice (some ⟨W,0,none⟩) (n+m) C)∧w''=w3:=by
  have u34:=run_underlying Try.underlying66
  have u3:=run_underlying Try.underlying3
  have hz1:¬ ((m:Int)=0):=by omega
  have hz2:¬ ((i:Int)=(n:Int)):=by omega
  have hz3:(c:Int) < (n:Int)+(m:Int):=by omega
  have hw0:IntKind.i64.wrap ((n:Int)+(m:Int))=(n:Int)+(m:Int):=by rw [IntKind.wrap_i64];omega
  have hw2:IntKind.i64.wrap ((n:Int)+(m:Int) - (i:Int))=(n:Int)+(m:Int) - (i:Int):=by rw [IntKind.wrap_i64];omega
  have hw1:IntKind.i64.wrap ((i:Int)+(m:Int))=(i:Int)+(m:Int):=by rw [IntKind.wrap_i64];omega
  have hb1:(0:Int)≤(i:Int)+(m:Int):=by omega
  have hin:i≤n:=by omega
  have hic:i≤c:=by omega
  have hinm:i≤n+m:=by omega
  have htn:((i:Int)+(m:Int)).toNat=i+m:=by omega
  have hb2:¬ (C=i+m):=by omega
  have hb5:¬ (C=i):=by omega
  have hb3:(i:Int)≤(n:Int)+(m:Int):=by omega
  have hb4:¬ (c=i):=by omega
  have mixed:Try.prog.follows .mixedOrders=true:=by kernel_rfl
  go_enter Try.func150,Try.ntmps150
  go_wp2_with (first
    | (at_builtin;refine Lib.wpList_append_run _ rfl _ _ _ _ rfl _ _ rfl rfl _ _ (hrun0 _) ?_)
    | (at_builtin;refine wpList_copy_runI _ rfl _ _ _ _ rfl _ _ rfl rfl (hrun1 _) ?_))
  go_region_law_o (refine step_copy_runI rfl _ _ 66 66 rfl _ _ (by simp [Act.eval,Act.put]) (by simp [Act.eval,Act.put]) (hrun2 _) ?_)
  go_wp2_with (fail)
  go_ret
  exact ⟨rfl,rfl⟩
set_option maxRecDepth 100000 in
theorem insC150 (w:World) (g n c i gu m cu:Nat) (hm:0 < m) (hi:i < n) (hroom:n+m≤c) (hc:c≤9223372036854775807) (hne:gu≠g) (tA tB:TypeId) (kA kB:Nat) (hsa:w.shape? gu=some (tA,kA)) (hsb:w.shape? g=some (tB,kB)) (hkB:kB≠0) (hfa:w.frozen? ⟨gu,0,none⟩=false) (hfe:w.frozen? ⟨gu,kA,none⟩=false)
    (w1 w2:World) (x1 x2:Value)
    (hrun1:∀ ty,(Builtin.copy_ #[66,66] ty #[.slice (some ⟨g,i+m,none⟩) (n+m - (i+m)) (c - (i+m)),.slice (some ⟨g,i,none⟩) (n+m - i) (c - i)]).run Try.prog w.drew=.ok x1 w1)
    (hrun2:∀ ty,(Builtin.copy_ #[66,66] ty #[.slice (some ⟨g,i,none⟩) (n+m - i) (c - i),.slice (some ⟨gu,0,none⟩) m cu]).run Try.prog w1=.ok x2 w2) :
    Calls Try.prog 150 #[.slice (some ⟨g,0,none⟩) n c,.int .i64 i,.slice (some ⟨gu,0,none⟩) m cu] w fun e w''=>e=.returned (.slice (some ⟨g,0,none⟩) (n+m) c)∧w''=w2:=by
  have u34:=run_underlying Try.underlying66
  have u3:=run_underlying Try.underlying3
  have hz1:¬ ((m:Int)=0):=by omega
  have hz2:¬ ((i:Int)=(n:Int)):=by omega
  have hz3:¬ ((c:Int) < (n:Int)+(m:Int)):=by omega
  have hw0:IntKind.i64.wrap ((n:Int)+(m:Int))=(n:Int)+(m:Int):=by rw [IntKind.wrap_i64];omega
  have hw1:IntKind.i64.wrap ((i:Int)+(m:Int))=(i:Int)+(m:Int):=by rw [IntKind.wrap_i64];omega
  have hb1:(0:Int)≤(i:Int)+(m:Int):=by omega
  have hb0:(0:Int)≤(n:Int)+(m:Int):=by omega
  have hb6:(n:Int)+(m:Int)≤(c:Int):=by omega
  have hin:i≤n:=by omega
  have hic:i≤c:=by omega
  have hinm:i≤n+m:=by omega
  have htn:((i:Int)+(m:Int)).toNat=i+m:=by omega
  have htn2:((n:Int)+(m:Int)).toNat=n+m:=by omega
  have hb2:¬ (c=i+m):=by omega
  have hb3:(i:Int)≤(n:Int)+(m:Int):=by omega
  have hb4:¬ (c=i):=by omega
  have mixed:Try.prog.follows .mixedOrders=true:=by kernel_rfl
  have hsz:∀ w,(Go.sizeOf 22).run Try.prog w=.ok 1 w:=fun w=>size_run (P:=Try.prog) (t:=22) (n:=1) (by kernel_rfl) w
  have hov:∀ lb cb,(callFunc 157 #[.slice (some ⟨gu,0,none⟩) m cu,.slice (some ⟨g,i+m,none⟩) lb cb]).run Try.prog w=.ok (.value (.bool false)) w:=fun lb cb=>by
    rw [run_callFunc_extern Try.func157 (by kernel_rfl) (by kernel_rfl) (by kernel_rfl) (e:=Extern.SlicesOverlaps.overlaps #[66,66] #[4]) (by kernel_rfl),
      Lib.run_overlaps_apart w 66 4 22 Try.underlying66 1 hsz ⟨gu,0,none⟩ ⟨g,i+m,none⟩ m cu lb cb hne tA tB kA kB hsa hsb hkB hfa hfe]
    rfl
  go_enter Try.func150,Try.ntmps150
  go_wp2_with (simp only [hov])
  go_region_law_o (refine step_copy_runI rfl _ _ 66 66 rfl _ _ (by simp [Act.eval,Act.put]) (by simp [Act.eval,Act.put]) (hrun1 _) ?_)
  go_wp2_with (at_builtin;refine wpList_copy_runI _ rfl _ _ _ _ rfl _ _ rfl rfl (hrun2 _) ?_)
  go_ret
  exact ⟨rfl,rfl⟩

theorem insR150:InsRoads Try.prog 150 66 3 1:=⟨insA150,fun w g n c i gu m cu W C h1 h2 h3 h4 h5 h6 w1 w2 w3 x1 x2 a b d=>insB150 w g n c i gu m cu W C h1 h2 h3 h4 h5 h6 w1 w2 w3 x1 x2 a (by simpa only [Nat.mul_one] using b) (by simpa only [Nat.mul_one] using d),fun w g n c i gu m cu h1 h2 h3 h4 h5 tA tB kA kB a1 a2 a3 a4 a5 w1 w2 x1 x2 b d=>insC150 w g n c i gu m cu h1 h2 h3 h4 h5 tA tB kA kB a1 a2 a3 a4 a5 w1 w2 x1 x2 (by simpa only [Nat.mul_one] using b) (by simpa only [Nat.mul_one] using d)⟩
def D_slices_Insert_S_S_int_S_int_ (x0:List (List Int)) (x1:Int) (x2:List (List Int)):List (List Int):=insAt x0 x1.toNat x2
def S_slices_Insert_S_S_int_S_int_:Sum:=insSum 150 66 3 s22 24
theorem S_slices_Insert_S_S_int_S_int__ok:FnOK Try.prog 150 S_slices_Insert_S_S_int_S_int_:=insert_ok (bytes:=24) s22 insR150 (Elem.of (.slice none 0 0) Try.underlying66 (by kernel_rfl) rfl (by decide) (by decide)) Try.underlying3
end

abbrev Q__P_impl_Basis_insert:=(fun (x0:T95) (x1:(List Int))=>Sh.fit s95 x0∧Sh.fit s22 x1∧redP x0 x1)
def S__P_impl_Basis_insert:Sum:={ fid:=132,dom:=[s95,s22],cod:=[(.bool 4)],dp:=true,fz:=false,pre:=fun x=>Q__P_impl_Basis_insert x.1 x.2.1,g:=fun x=>((insD x.1 x.2.1),()),kinds:=[(.bx 95 0),.rd],upd:=fun x=>(insU x.1 x.2.1,(x.2.1,())) }
def S__P_impl_Basis_insert_tab:List (Nat×Sum):=[(146,S__impl_Basis_reduce),(116,S_impl_LeadingIndex),(148,S_impl_InverseField),(147,S_impl_ScaleVector),(149,S_impl_addScaled),(150,S_slices_Insert_S_S_int_S_int_)]
theorem S__P_impl_Basis_insert_ok:FnOK Try.prog 132 S__P_impl_Basis_insert:=by
 refine at_enterI 66 [1,2] [3] (fun us x=>⟨[(0,aP 1 0),(1,aF (.int 3) x.2.1)],[(1,oX 95 [cI x.1.1,.sl 2]),(2,oR s22 x.1.2),(3,oP 1 (S__P_impl_Basis_insert.hd us 0))]⟩) Try.func132 rfl (by kernel_rfl) (fun us x=>rfl) ?_
 rintro w0 Z0 us ⟨x0,x1,u⟩ L a w
 revert x0 x1
 intro (x0:T95) (x1:(List Int)) hio hpre hlens h
 replace h:At w0 Z0 L 66 ⟨[(0,aP 1 0),(1,aF (.int 3) x1)],[(1,oX 95 [cI x0.1,.sl 2]),(2,oR s22 x0.2),(3,oP 1 (S__P_impl_Basis_insert.hd us 0))]⟩ a w:=h
 replace hpre:Q__P_impl_Basis_insert x0 x1:=hpre
 have hT:TabOK Try.prog S__P_impl_Basis_insert_tab:=(.cons S__impl_Basis_reduce_ok (.cons S_impl_LeadingIndex_ok (.cons S_impl_InverseField_ok (.cons S_impl_ScaleVector_ok (.cons S_impl_addScaled_ok (.cons S_slices_Insert_S_S_int_S_int__ok .nil))))))
 obtain ⟨hf0,hf1,hpx⟩:=hpre
 have hn0_1:List.length x0.2≤1073741824:=hf0.2.1
 have hn1_2:List.length x1≤1073741824:=hf1.1
 have hb0:=hpx.1.1
 have hbR:=hpx.1.2
 have hbv:=hpx.2
 have hrd:=LA.redS_rng hbR hbv
 have hrdl:=hrd.1
 have hrn:=hbR.len
 refine wp_seq ?_
 refine at_regq [] { ts:=[0,1,4],os:=[1,2,3] } [] gamOK hT h (by kernel_rfl) trivial fun a w h=>then_normal (wp_seq ?_)
 refine at_regq [{},{},{},{},{ ids:=[4] }] { ts:=[0,4,5],os:=[1,2,3,4] } [Q__impl_Basis_reduce x0 x1] gamOK hT h (by kernel_rfl) ⟨(by exact ⟨hf0,hf1,hpx⟩),trivial⟩ fun a w h=>then_normal (wp_seq ?_)
 refine at_regq [] { ts:=[0,4,5,6],os:=[1,2,3,4] } [Q_impl_LeadingIndex (LA.redS x0.2 x1)] gamOK hT h (by kernel_rfl) ⟨(by first | exact fitV hrd (by omega) | exact fitV hrk (by omega) | exact Sh.fit_len rfl (by rw [LA.addS_len (by omega)];omega)),trivial⟩ fun a w h=>then_normal (wp_seq (wp_seq ?_))
 refine at_regq [] { ts:=[0,4,5,6,19],os:=[1,2,3,4] } [] gamOK hT h (by kernel_rfl) trivial fun a w h=>then_normal ?_
 refine at_test (decide ((LA.leadS (LA.redS x0.2 x1)) < 0)) h (by kernel_rfl) (fun h1=>?_) (fun h1=>?_)
 ·replace h1 : (LA.leadS (LA.redS x0.2 x1)) < 0 := of_decide_eq_true h1
  refine wp_seq ?_
  refine at_regq [] { ts:=[0,4,5,6],os:=[1,2,3,4] } [] gamOK hT h (by kernel_rfl) trivial fun a w h=>then_normal (wp_ret (then_ret ?_))
  exact at_returnI (S:=S__P_impl_Basis_insert) (x:=(x0,x1,())) [1,2] [3] (x0,(x1,())) (some (false,())) [S__P_impl_Basis_insert.hd us 0=S__P_impl_Basis_insert.hd us 0] hio h (by kernel_rfl) ⟨rfl,trivial⟩ (by first | rfl | exact congrArg (fun (z:T95)=>(z,(x1,()))) (show (x0:T95)=insU x0 x1 from by (unfold insU;first | (rw [LA.insS_no (by assumption)];done) | (rw [LA.insS_yes (by assumption)];rfl)))) (fun z e=>(Option.some.inj e) ▸ (congrArg (fun z=>(z,())) (show (false)=insD x0 x1 from by (unfold insD;first | (rw [LA.insS_no (by assumption)];done) | (rw [LA.insS_yes (by assumption)];done)))))
 ·replace h1 : ¬ ((LA.leadS (LA.redS x0.2 x1)) < 0) := of_decide_eq_false h1
  have hlp:=LA.leadS_bd (LA.redS x0.2 x1)
  have hwk:=LA.insW_ok hbR hbv (by omega)
  have hwl:=hwk.1
  have hpz:=(LA.leadS_pos (v:=LA.redS x0.2 x1) (by omega)).1
  refine wp_skip (then_normal (wp_seq ?_))
  refine at_regq [{},{},{},{},{},{},{ ids:=[5] }] { ts:=[0,4,5,6],os:=[1,2,3,5] } [(0:Int)≤(LA.leadS (LA.redS x0.2 x1))∧(LA.leadS (LA.redS x0.2 x1)) < ((List.length (LA.redS x0.2 x1):Nat):Int),((LA.leadS (LA.redS x0.2 x1))).toNat < List.length (LA.redS x0.2 x1),True,Q_impl_ScaleVector (LA.redS x0.2 x1) (invF ((LA.redS x0.2 x1).getD (((LA.leadS (LA.redS x0.2 x1))).toNat) 0))] gamOK hT h (by kernel_rfl) ⟨(by refine ⟨?_,?_⟩<;>(first | omega | (simp only [lsA];omega) | (simp<;>omega))),(by first | omega | (simp only [lsA];omega) | (simp<;>omega)),trivial,(by exact fitV hrd (by omega)),trivial⟩ fun a w h=>then_normal (wp_seq ?_)
  refine at_regq [] { ts:=[0,4,5,6,7],os:=[1,2,3,5] } [] gamOK hT h (by kernel_rfl) trivial fun a w h=>then_normal (wp_seq (wp_seq ?_))
  refine at_regq [] { ts:=[0,4,5,6,7,30,31,32],os:=[1,2,3,5] } [] gamOK hT h (by kernel_rfl) trivial fun a w h=>then_normal (wp_block ?_)
  replace h:=at_out (σ':=⟨[(0,aP 1 0),(4,aB false),(5,aS 5),(6,aI (LA.leadS (LA.redS x0.2 x1))),(7,aI 0),(30,aS 2),(31,aI ((List.length x0.2:Nat):Int)),(32,aI 0)],[(1,oX 95 [cI x0.1,.sl 2]),(2,oR s22 x0.2),(3,oP 1 (S__P_impl_Basis_insert.hd us 0)),(5,oR (.int 3) (scaleV (LA.redS x0.2 x1) (invF ((LA.redS x0.2 x1).getD (((LA.leadS (LA.redS x0.2 x1))).toNat) 0))))]⟩) { ts:=[0,4,5,6,7,30,31,32],os:=[1,2,3,5] } h (by kernel_rfl)
  refine at_loop (fun i:Nat=>(⟨[(0,aP 1 0),(4,aB false),(5,aS 5),(6,aI (LA.leadS (LA.redS x0.2 x1))),(7,aI ((LA.atTo (LA.insE x0.2 x1) (LA.leadS (LA.redS x0.2 x1)) i:Nat):Int)),(30,aS 2),(31,aI ((List.length x0.2:Nat):Int)),(32,aI ((i:Nat):Int))],[(1,oX 95 [cI x0.1,.sl 2]),(2,oR s22 (LA.elTo x0.2 (LA.insW x0.2 x1) (LA.leadS (LA.redS x0.2 x1)).toNat i)),(3,oP 1 (S__P_impl_Basis_insert.hd us 0)),(5,oR (.int 3) (LA.insW x0.2 x1))]⟩:St)) (fun i=>i≤List.length x0.2) (fun i=>List.length x0.2 - i) (0) h (st_congr4 (fun (d0:List (List Int)) (d1:List Int) (d2:Int) (d3:Int)=>(⟨[(0,aP 1 0),(4,aB false),(5,aS 5),(6,aI (LA.leadS (LA.redS x0.2 x1))),(7,aI d2),(30,aS 2),(31,aI ((List.length x0.2:Nat):Int)),(32,aI d3)],[(1,oX 95 [cI x0.1,.sl 2]),(2,oR s22 d0),(3,oP 1 (S__P_impl_Basis_insert.hd us 0)),(5,oR (.int 3) d1)]⟩:St)) (show (x0.2:List (List Int))=(LA.elTo x0.2 (LA.insW x0.2 x1) (LA.leadS (LA.redS x0.2 x1)).toNat (0)) from by first | with_reducible rfl | (first | rfl | exact ins_w hrd (by omega) (by omega)) | rfl) (show ((scaleV (LA.redS x0.2 x1) (invF ((LA.redS x0.2 x1).getD (((LA.leadS (LA.redS x0.2 x1))).toNat) 0))):List Int)=(LA.insW x0.2 x1) from by first | with_reducible rfl | (first | rfl | exact ins_w hrd (by omega) (by omega)) | rfl) (show (0:Int)=((LA.atTo (LA.insE x0.2 x1) (LA.leadS (LA.redS x0.2 x1)) (0):Nat):Int) from by first | with_reducible rfl | (first | rfl | exact ins_w hrd (by omega) (by omega)) | rfl) (show (0:Int)=(((0):Nat):Int) from by first | with_reducible rfl | (first | rfl | exact ins_w hrd (by omega) (by omega)) | rfl)) (by omega) ?_
  intro i a w hok0 h
  have hel:=LA.elTo_len (rows:=x0.2) (w:=(LA.insW x0.2 x1)) (l:=(LA.leadS (LA.redS x0.2 x1)).toNat) (i:=i)
  refine wp_seq ?_
  refine at_regq [] { ts:=[0,4,5,6,7,30,31,32,33],os:=[1,2,3,5] } [] gamOK hT h (by kernel_rfl) trivial fun a w h=>then_normal (wp_seq ?_)
  refine at_test (decide (((i:Nat):Int) < ((List.length x0.2:Nat):Int))) h (by kernel_rfl) (fun h2=>?_) (fun h2=>?_)
  ·replace h2 : ((i : Nat) : Int) < ((List.length x0.2 : Nat) : Int) := of_decide_eq_true h2
   have hrr:=hbR.at_ (show i < List.length x0.2 by omega)
   have hge:=LA.elTo_get (w:=(LA.insW x0.2 x1)) (l:=(LA.leadS (LA.redS x0.2 x1)).toNat) (show i < List.length x0.2 by omega)
   have hrk:LA.VokB x0.1.toNat ((LA.elTo x0.2 (LA.insW x0.2 x1) (LA.leadS (LA.redS x0.2 x1)).toNat i).getD i []):=by rw [hge];exact hrr.1
   have hrkl:=hrk.1
   have hrkr:=hrk.rng (LA.leadS (LA.redS x0.2 x1)).toNat
   refine wp_skip (then_normal (wp_seq (wp_block (wp_seq ?_))))
   replace h:=at_open (σ':=⟨[(0,aP 1 0),(4,aB false),(5,aS 5),(6,aI (LA.leadS (LA.redS x0.2 x1))),(7,aI ((LA.atTo (LA.insE x0.2 x1) (LA.leadS (LA.redS x0.2 x1)) i:Nat):Int)),(30,aS 2),(31,aI ((List.length x0.2:Nat):Int)),(32,aI ((i:Nat):Int)),(33,aB (decide (((i:Nat):Int) < ((List.length x0.2:Nat):Int))))],[(1,oX 95 [cI x0.1,.sl 2]),(2,some (.op s22 (LA.elTo x0.2 (LA.insW x0.2 x1) (LA.leadS (LA.redS x0.2 x1)).toNat i) i [.sl 6])),(3,oP 1 (S__P_impl_Basis_insert.hd us 0)),(5,oR (.int 3) (LA.insW x0.2 x1)),(6,oR (.int 3) ((LA.elTo x0.2 (LA.insW x0.2 x1) (LA.leadS (LA.redS x0.2 x1)).toNat i).getD i []))]⟩) (ps:=[i < List.length (LA.elTo x0.2 (LA.insW x0.2 x1) (LA.leadS (LA.redS x0.2 x1)).toNat i)]) 2 i [6] { ts:=[0,4,5,6,7,30,31,32,33],os:=[1,2,3,5,6] } h (by kernel_rfl) ⟨(by first | omega | (simp only [lsA];omega) | (simp<;>omega)),trivial⟩
   refine at_regq [] { ts:=[0,4,5,6,7,8,9,30,31,32],os:=[1,2,3,5,6] } [(0:Int)≤((i:Nat):Int)∧((i:Nat):Int) < ((List.length (LA.elTo x0.2 (LA.insW x0.2 x1) (LA.leadS (LA.redS x0.2 x1)).toNat i):Nat):Int),i=i] gamOK hT h (by kernel_rfl) ⟨(by refine ⟨?_,?_⟩<;>(first | omega | (simp only [lsA];omega) | (simp<;>omega))),rfl,trivial⟩ fun a w h=>then_normal (wp_seq (wp_seq ?_))
   refine at_regq [] { ts:=[0,4,5,6,7,8,9,10,30,31,32],os:=[1,2,3,5,6] } [(0:Int)≤(LA.leadS (LA.redS x0.2 x1))∧(LA.leadS (LA.redS x0.2 x1)) < ((List.length ((LA.elTo x0.2 (LA.insW x0.2 x1) (LA.leadS (LA.redS x0.2 x1)).toNat i).getD i []):Nat):Int),((LA.leadS (LA.redS x0.2 x1))).toNat < List.length ((LA.elTo x0.2 (LA.insW x0.2 x1) (LA.leadS (LA.redS x0.2 x1)).toNat i).getD i [])] gamOK hT h (by kernel_rfl) ⟨(by refine ⟨?_,?_⟩<;>(first | omega | (simp only [lsA];omega) | (simp<;>omega))),(by first | omega | (simp only [lsA];omega) | (simp<;>omega)),trivial⟩ fun a w h=>then_normal (wp_seq ?_)
   refine at_regq [] { ts:=[0,4,5,6,7,8,9,10,30,31,32,42],os:=[1,2,3,5,6] } [] gamOK hT h (by kernel_rfl) trivial fun a w h=>then_normal ?_
   refine at_test (!decide ((((LA.elTo x0.2 (LA.insW x0.2 x1) (LA.leadS (LA.redS x0.2 x1)).toNat i).getD i []).getD (((LA.leadS (LA.redS x0.2 x1))).toNat) 0)=0)) h (by kernel_rfl) (fun h3=>?_) (fun h3=>?_)
   ·replace h3 : ¬ ((((LA.elTo x0.2 (LA.insW x0.2 x1) (LA.leadS (LA.redS x0.2 x1)).toNat i).getD i []).getD (((LA.leadS (LA.redS x0.2 x1))).toNat) 0) = 0) := of_decide_eq_false (notT h3)
    refine at_regq [{},{},{},{ nw:=true }] { ts:=[0,4,5,6,7,8,9,30,31,32],os:=[1,2,3,5,6] } [I64 (1019 - (((LA.elTo x0.2 (LA.insW x0.2 x1) (LA.leadS (LA.redS x0.2 x1)).toNat i).getD i []).getD (((LA.leadS (LA.redS x0.2 x1))).toNat) 0)),Q_impl_addScaled ((LA.elTo x0.2 (LA.insW x0.2 x1) (LA.leadS (LA.redS x0.2 x1)).toNat i).getD i []) (LA.insW x0.2 x1) (1019 - (((LA.elTo x0.2 (LA.insW x0.2 x1) (LA.leadS (LA.redS x0.2 x1)).toNat i).getD i []).getD (((LA.leadS (LA.redS x0.2 x1))).toNat) 0))] gamOK hT h (by kernel_rfl) ⟨⟨by first | omega | (simp only [lsA];omega) | (simp<;>omega),by first | omega | (simp only [lsA];omega) | (simp<;>omega)⟩,(by exact ⟨fitV hrk (by omega),fitV hwk (by omega),addOK_of hrk hwk (by omega)⟩),trivial⟩ fun a w h=>then_normal (wp_seq ?_)
    refine at_regq [] { ts:=[0,4,5,6,7,8,30,31,32,51],os:=[1,2,3,5,6] } [Q_impl_LeadingIndex (LA.addS ((LA.elTo x0.2 (LA.insW x0.2 x1) (LA.leadS (LA.redS x0.2 x1)).toNat i).getD i []) (LA.insW x0.2 x1) (1019 - (((LA.elTo x0.2 (LA.insW x0.2 x1) (LA.leadS (LA.redS x0.2 x1)).toNat i).getD i []).getD (((LA.leadS (LA.redS x0.2 x1))).toNat) 0)))] gamOK hT h (by kernel_rfl) ⟨(by first | exact fitV hrd (by omega) | exact fitV hrk (by omega) | exact Sh.fit_len rfl (by rw [LA.addS_len (by omega)];omega)),trivial⟩ fun a w h=>then_normal ?_
    refine at_test (decide ((LA.leadS (LA.addS ((LA.elTo x0.2 (LA.insW x0.2 x1) (LA.leadS (LA.redS x0.2 x1)).toNat i).getD i []) (LA.insW x0.2 x1) (1019 - (((LA.elTo x0.2 (LA.insW x0.2 x1) (LA.leadS (LA.redS x0.2 x1)).toNat i).getD i []).getD (((LA.leadS (LA.redS x0.2 x1))).toNat) 0)))) < (LA.leadS (LA.redS x0.2 x1)))) h (by kernel_rfl) (fun h4=>?_) (fun h4=>?_)
    ·replace h4 : (LA.leadS (LA.addS ((LA.elTo x0.2 (LA.insW x0.2 x1) (LA.leadS (LA.redS x0.2 x1)).toNat i).getD i []) (LA.insW x0.2 x1) (1019 - (((LA.elTo x0.2 (LA.insW x0.2 x1) (LA.leadS (LA.redS x0.2 x1)).toNat i).getD i []).getD (((LA.leadS (LA.redS x0.2 x1))).toNat) 0)))) < (LA.leadS (LA.redS x0.2 x1)) := of_decide_eq_true h4
     refine at_regq [{},{ nw:=true }] { ts:=[0,4,5,6,7,30,31,32],os:=[1,2,3,5,6] } [I64 (((i:Nat):Int)+1)] gamOK hT h (by kernel_rfl) ⟨⟨by first | omega | (simp only [lsA];omega) | (simp<;>omega),by first | omega | (simp only [lsA];omega) | (simp<;>omega)⟩,trivial⟩ fun a w h=>in_normal (then_normal ?_)
     refine at_regq [{ nw:=true }] { ts:=[0,4,5,6,7,30,31,32],os:=[1,2,3,5,6] } [I64 (((i:Nat):Int)+1)] gamOK hT h (by kernel_rfl) ⟨⟨by first | omega | (simp only [lsA];omega) | (simp<;>omega),by first | omega | (simp only [lsA];omega) | (simp<;>omega)⟩,trivial⟩ fun a w h=>?_
     replace h:=at_shut (σ':=⟨[(0,aP 1 0),(4,aB false),(5,aS 5),(6,aI (LA.leadS (LA.redS x0.2 x1))),(7,aI (((i:Nat):Int)+1)),(30,aS 2),(31,aI ((List.length x0.2:Nat):Int)),(32,aI (((i:Nat):Int)+1))],[(1,oX 95 [cI x0.1,.sl 2]),(2,oR s22 (List.set (LA.elTo x0.2 (LA.insW x0.2 x1) (LA.leadS (LA.redS x0.2 x1)).toNat i) i (LA.addS ((LA.elTo x0.2 (LA.insW x0.2 x1) (LA.leadS (LA.redS x0.2 x1)).toNat i).getD i []) (LA.insW x0.2 x1) (1019 - (((LA.elTo x0.2 (LA.insW x0.2 x1) (LA.leadS (LA.redS x0.2 x1)).toNat i).getD i []).getD (((LA.leadS (LA.redS x0.2 x1))).toNat) 0))))),(3,oP 1 (S__P_impl_Basis_insert.hd us 0)),(5,oR (.int 3) (LA.insW x0.2 x1))]⟩) (ps:=[]) 2 { ts:=[0,4,5,6,7,30,31,32],os:=[1,2,3,5] } h (by kernel_rfl) trivial
     replace h:=at_out (σ':=⟨[(0,aP 1 0),(4,aB false),(5,aS 5),(6,aI (LA.leadS (LA.redS x0.2 x1))),(7,aI (((i:Nat):Int)+1)),(30,aS 2),(31,aI ((List.length x0.2:Nat):Int)),(32,aI (((i:Nat):Int)+1))],[(1,oX 95 [cI x0.1,.sl 2]),(2,oR s22 (List.set (LA.elTo x0.2 (LA.insW x0.2 x1) (LA.leadS (LA.redS x0.2 x1)).toNat i) i (LA.addS ((LA.elTo x0.2 (LA.insW x0.2 x1) (LA.leadS (LA.redS x0.2 x1)).toNat i).getD i []) (LA.insW x0.2 x1) (1019 - (((LA.elTo x0.2 (LA.insW x0.2 x1) (LA.leadS (LA.redS x0.2 x1)).toNat i).getD i []).getD (((LA.leadS (LA.redS x0.2 x1))).toNat) 0))))),(3,oP 1 (S__P_impl_Basis_insert.hd us 0)),(5,oR (.int 3) (LA.insW x0.2 x1))]⟩) { ts:=[0,4,5,6,7,30,31,32],os:=[1,2,3,5] } h (by kernel_rfl)
     exact ⟨i+1,at_eq h (st_congr4 (fun (d0:List (List Int)) (d1:List Int) (d2:Int) (d3:Int)=>(⟨[(0,aP 1 0),(4,aB false),(5,aS 5),(6,aI (LA.leadS (LA.redS x0.2 x1))),(7,aI d2),(30,aS 2),(31,aI ((List.length x0.2:Nat):Int)),(32,aI d3)],[(1,oX 95 [cI x0.1,.sl 2]),(2,oR s22 d0),(3,oP 1 (S__P_impl_Basis_insert.hd us 0)),(5,oR (.int 3) d1)]⟩:St)) (show ((List.set (LA.elTo x0.2 (LA.insW x0.2 x1) (LA.leadS (LA.redS x0.2 x1)).toNat i) i (LA.addS ((LA.elTo x0.2 (LA.insW x0.2 x1) (LA.leadS (LA.redS x0.2 x1)).toNat i).getD i []) (LA.insW x0.2 x1) (1019 - (((LA.elTo x0.2 (LA.insW x0.2 x1) (LA.leadS (LA.redS x0.2 x1)).toNat i).getD i []).getD (((LA.leadS (LA.redS x0.2 x1))).toNat) 0)))):List (List Int))=(LA.elTo x0.2 (LA.insW x0.2 x1) (LA.leadS (LA.redS x0.2 x1)).toNat (i+1)) from by first | with_reducible rfl | (first | exact LA.ins_b1 (by omega) (by assumption) | exact LA.ins_b0 (by omega) (by omega)) | rfl) (show ((LA.insW x0.2 x1):List Int)=(LA.insW x0.2 x1) from by first | with_reducible rfl | (rfl) | rfl) (show (((i:Nat):Int)+1:Int)=((LA.atTo (LA.insE x0.2 x1) (LA.leadS (LA.redS x0.2 x1)) (i+1):Nat):Int) from by first | with_reducible rfl | (first | (rw [LA.atTo_y (LA.at_b1 (by omega) (by assumption)) (by assumption)];omega) | (rw [LA.atTo_y (LA.at_b0 (by omega) (by omega)) (by assumption)];omega) | (rw [LA.atTo_n (LA.at_b1 (by omega) (by assumption)) (by assumption)];done) | (rw [LA.atTo_n (LA.at_b0 (by omega) (by omega)) (by assumption)];done)) | rfl) (show (((i:Nat):Int)+1:Int)=(((i+1):Nat):Int) from by first | with_reducible rfl | (omega) | rfl)),(by omega),(by omega)⟩
    ·replace h4 : ¬ ((LA.leadS (LA.addS ((LA.elTo x0.2 (LA.insW x0.2 x1) (LA.leadS (LA.redS x0.2 x1)).toNat i).getD i []) (LA.insW x0.2 x1) (1019 - (((LA.elTo x0.2 (LA.insW x0.2 x1) (LA.leadS (LA.redS x0.2 x1)).toNat i).getD i []).getD (((LA.leadS (LA.redS x0.2 x1))).toNat) 0)))) < (LA.leadS (LA.redS x0.2 x1))) := of_decide_eq_false h4
     refine wp_skip (in_normal (then_normal ?_))
     refine at_regq [{ nw:=true }] { ts:=[0,4,5,6,7,30,31,32],os:=[1,2,3,5,6] } [I64 (((i:Nat):Int)+1)] gamOK hT h (by kernel_rfl) ⟨⟨by first | omega | (simp only [lsA];omega) | (simp<;>omega),by first | omega | (simp only [lsA];omega) | (simp<;>omega)⟩,trivial⟩ fun a w h=>?_
     replace h:=at_shut (σ':=⟨[(0,aP 1 0),(4,aB false),(5,aS 5),(6,aI (LA.leadS (LA.redS x0.2 x1))),(7,aI ((LA.atTo (LA.insE x0.2 x1) (LA.leadS (LA.redS x0.2 x1)) i:Nat):Int)),(30,aS 2),(31,aI ((List.length x0.2:Nat):Int)),(32,aI (((i:Nat):Int)+1))],[(1,oX 95 [cI x0.1,.sl 2]),(2,oR s22 (List.set (LA.elTo x0.2 (LA.insW x0.2 x1) (LA.leadS (LA.redS x0.2 x1)).toNat i) i (LA.addS ((LA.elTo x0.2 (LA.insW x0.2 x1) (LA.leadS (LA.redS x0.2 x1)).toNat i).getD i []) (LA.insW x0.2 x1) (1019 - (((LA.elTo x0.2 (LA.insW x0.2 x1) (LA.leadS (LA.redS x0.2 x1)).toNat i).getD i []).getD (((LA.leadS (LA.redS x0.2 x1))).toNat) 0))))),(3,oP 1 (S__P_impl_Basis_insert.hd us 0)),(5,oR (.int 3) (LA.insW x0.2 x1))]⟩) (ps:=[]) 2 { ts:=[0,4,5,6,7,30,31,32],os:=[1,2,3,5] } h (by kernel_rfl) trivial
     replace h:=at_out (σ':=⟨[(0,aP 1 0),(4,aB false),(5,aS 5),(6,aI (LA.leadS (LA.redS x0.2 x1))),(7,aI ((LA.atTo (LA.insE x0.2 x1) (LA.leadS (LA.redS x0.2 x1)) i:Nat):Int)),(30,aS 2),(31,aI ((List.length x0.2:Nat):Int)),(32,aI (((i:Nat):Int)+1))],[(1,oX 95 [cI x0.1,.sl 2]),(2,oR s22 (List.set (LA.elTo x0.2 (LA.insW x0.2 x1) (LA.leadS (LA.redS x0.2 x1)).toNat i) i (LA.addS ((LA.elTo x0.2 (LA.insW x0.2 x1) (LA.leadS (LA.redS x0.2 x1)).toNat i).getD i []) (LA.insW x0.2 x1) (1019 - (((LA.elTo x0.2 (LA.insW x0.2 x1) (LA.leadS (LA.redS x0.2 x1)).toNat i).getD i []).getD (((LA.leadS (LA.redS x0.2 x1))).toNat) 0))))),(3,oP 1 (S__P_impl_Basis_insert.hd us 0)),(5,oR (.int 3) (LA.insW x0.2 x1))]⟩) { ts:=[0,4,5,6,7,30,31,32],os:=[1,2,3,5] } h (by kernel_rfl)
     exact ⟨i+1,at_eq h (st_congr4 (fun (d0:List (List Int)) (d1:List Int) (d2:Int) (d3:Int)=>(⟨[(0,aP 1 0),(4,aB false),(5,aS 5),(6,aI (LA.leadS (LA.redS x0.2 x1))),(7,aI d2),(30,aS 2),(31,aI ((List.length x0.2:Nat):Int)),(32,aI d3)],[(1,oX 95 [cI x0.1,.sl 2]),(2,oR s22 d0),(3,oP 1 (S__P_impl_Basis_insert.hd us 0)),(5,oR (.int 3) d1)]⟩:St)) (show ((List.set (LA.elTo x0.2 (LA.insW x0.2 x1) (LA.leadS (LA.redS x0.2 x1)).toNat i) i (LA.addS ((LA.elTo x0.2 (LA.insW x0.2 x1) (LA.leadS (LA.redS x0.2 x1)).toNat i).getD i []) (LA.insW x0.2 x1) (1019 - (((LA.elTo x0.2 (LA.insW x0.2 x1) (LA.leadS (LA.redS x0.2 x1)).toNat i).getD i []).getD (((LA.leadS (LA.redS x0.2 x1))).toNat) 0)))):List (List Int))=(LA.elTo x0.2 (LA.insW x0.2 x1) (LA.leadS (LA.redS x0.2 x1)).toNat (i+1)) from by first | with_reducible rfl | (first | exact LA.ins_b1 (by omega) (by assumption) | exact LA.ins_b0 (by omega) (by omega)) | rfl) (show ((LA.insW x0.2 x1):List Int)=(LA.insW x0.2 x1) from by first | with_reducible rfl | (rfl) | rfl) (show (((LA.atTo (LA.insE x0.2 x1) (LA.leadS (LA.redS x0.2 x1)) i:Nat):Int):Int)=((LA.atTo (LA.insE x0.2 x1) (LA.leadS (LA.redS x0.2 x1)) (i+1):Nat):Int) from by first | with_reducible rfl | (first | (rw [LA.atTo_y (LA.at_b1 (by omega) (by assumption)) (by assumption)];omega) | (rw [LA.atTo_y (LA.at_b0 (by omega) (by omega)) (by assumption)];omega) | (rw [LA.atTo_n (LA.at_b1 (by omega) (by assumption)) (by assumption)];done) | (rw [LA.atTo_n (LA.at_b0 (by omega) (by omega)) (by assumption)];done)) | rfl) (show (((i:Nat):Int)+1:Int)=(((i+1):Nat):Int) from by first | with_reducible rfl | (omega) | rfl)),(by omega),(by omega)⟩
   ·replace h3 : (((LA.elTo x0.2 (LA.insW x0.2 x1) (LA.leadS (LA.redS x0.2 x1)).toNat i).getD i []).getD (((LA.leadS (LA.redS x0.2 x1))).toNat) 0) = 0 := of_decide_eq_true (notF h3)
    refine wp_skip (then_normal (wp_seq ?_))
    refine at_regq [] { ts:=[0,4,5,6,7,8,30,31,32,51],os:=[1,2,3,5,6] } [Q_impl_LeadingIndex ((LA.elTo x0.2 (LA.insW x0.2 x1) (LA.leadS (LA.redS x0.2 x1)).toNat i).getD i [])] gamOK hT h (by kernel_rfl) ⟨(by first | exact fitV hrd (by omega) | exact fitV hrk (by omega) | exact Sh.fit_len rfl (by rw [LA.addS_len (by omega)];omega)),trivial⟩ fun a w h=>then_normal ?_
    refine at_test (decide ((LA.leadS ((LA.elTo x0.2 (LA.insW x0.2 x1) (LA.leadS (LA.redS x0.2 x1)).toNat i).getD i [])) < (LA.leadS (LA.redS x0.2 x1)))) h (by kernel_rfl) (fun h5=>?_) (fun h5=>?_)
    ·replace h5 : (LA.leadS ((LA.elTo x0.2 (LA.insW x0.2 x1) (LA.leadS (LA.redS x0.2 x1)).toNat i).getD i [])) < (LA.leadS (LA.redS x0.2 x1)) := of_decide_eq_true h5
     refine at_regq [{},{ nw:=true }] { ts:=[0,4,5,6,7,30,31,32],os:=[1,2,3,5,6] } [I64 (((i:Nat):Int)+1)] gamOK hT h (by kernel_rfl) ⟨⟨by first | omega | (simp only [lsA];omega) | (simp<;>omega),by first | omega | (simp only [lsA];omega) | (simp<;>omega)⟩,trivial⟩ fun a w h=>in_normal (then_normal ?_)
     refine at_regq [{ nw:=true }] { ts:=[0,4,5,6,7,30,31,32],os:=[1,2,3,5,6] } [I64 (((i:Nat):Int)+1)] gamOK hT h (by kernel_rfl) ⟨⟨by first | omega | (simp only [lsA];omega) | (simp<;>omega),by first | omega | (simp only [lsA];omega) | (simp<;>omega)⟩,trivial⟩ fun a w h=>?_
     replace h:=at_shut (σ':=⟨[(0,aP 1 0),(4,aB false),(5,aS 5),(6,aI (LA.leadS (LA.redS x0.2 x1))),(7,aI (((i:Nat):Int)+1)),(30,aS 2),(31,aI ((List.length x0.2:Nat):Int)),(32,aI (((i:Nat):Int)+1))],[(1,oX 95 [cI x0.1,.sl 2]),(2,oR s22 (List.set (LA.elTo x0.2 (LA.insW x0.2 x1) (LA.leadS (LA.redS x0.2 x1)).toNat i) i ((LA.elTo x0.2 (LA.insW x0.2 x1) (LA.leadS (LA.redS x0.2 x1)).toNat i).getD i []))),(3,oP 1 (S__P_impl_Basis_insert.hd us 0)),(5,oR (.int 3) (LA.insW x0.2 x1))]⟩) (ps:=[]) 2 { ts:=[0,4,5,6,7,30,31,32],os:=[1,2,3,5] } h (by kernel_rfl) trivial
     replace h:=at_out (σ':=⟨[(0,aP 1 0),(4,aB false),(5,aS 5),(6,aI (LA.leadS (LA.redS x0.2 x1))),(7,aI (((i:Nat):Int)+1)),(30,aS 2),(31,aI ((List.length x0.2:Nat):Int)),(32,aI (((i:Nat):Int)+1))],[(1,oX 95 [cI x0.1,.sl 2]),(2,oR s22 (List.set (LA.elTo x0.2 (LA.insW x0.2 x1) (LA.leadS (LA.redS x0.2 x1)).toNat i) i ((LA.elTo x0.2 (LA.insW x0.2 x1) (LA.leadS (LA.redS x0.2 x1)).toNat i).getD i []))),(3,oP 1 (S__P_impl_Basis_insert.hd us 0)),(5,oR (.int 3) (LA.insW x0.2 x1))]⟩) { ts:=[0,4,5,6,7,30,31,32],os:=[1,2,3,5] } h (by kernel_rfl)
     exact ⟨i+1,at_eq h (st_congr4 (fun (d0:List (List Int)) (d1:List Int) (d2:Int) (d3:Int)=>(⟨[(0,aP 1 0),(4,aB false),(5,aS 5),(6,aI (LA.leadS (LA.redS x0.2 x1))),(7,aI d2),(30,aS 2),(31,aI ((List.length x0.2:Nat):Int)),(32,aI d3)],[(1,oX 95 [cI x0.1,.sl 2]),(2,oR s22 d0),(3,oP 1 (S__P_impl_Basis_insert.hd us 0)),(5,oR (.int 3) d1)]⟩:St)) (show ((List.set (LA.elTo x0.2 (LA.insW x0.2 x1) (LA.leadS (LA.redS x0.2 x1)).toNat i) i ((LA.elTo x0.2 (LA.insW x0.2 x1) (LA.leadS (LA.redS x0.2 x1)).toNat i).getD i [])):List (List Int))=(LA.elTo x0.2 (LA.insW x0.2 x1) (LA.leadS (LA.redS x0.2 x1)).toNat (i+1)) from by first | with_reducible rfl | (first | exact LA.ins_b1 (by omega) (by assumption) | exact LA.ins_b0 (by omega) (by omega)) | rfl) (show ((LA.insW x0.2 x1):List Int)=(LA.insW x0.2 x1) from by first | with_reducible rfl | (rfl) | rfl) (show (((i:Nat):Int)+1:Int)=((LA.atTo (LA.insE x0.2 x1) (LA.leadS (LA.redS x0.2 x1)) (i+1):Nat):Int) from by first | with_reducible rfl | (first | (rw [LA.atTo_y (LA.at_b1 (by omega) (by assumption)) (by assumption)];omega) | (rw [LA.atTo_y (LA.at_b0 (by omega) (by omega)) (by assumption)];omega) | (rw [LA.atTo_n (LA.at_b1 (by omega) (by assumption)) (by assumption)];done) | (rw [LA.atTo_n (LA.at_b0 (by omega) (by omega)) (by assumption)];done)) | rfl) (show (((i:Nat):Int)+1:Int)=(((i+1):Nat):Int) from by first | with_reducible rfl | (omega) | rfl)),(by omega),(by omega)⟩
    ·replace h5 : ¬ ((LA.leadS ((LA.elTo x0.2 (LA.insW x0.2 x1) (LA.leadS (LA.redS x0.2 x1)).toNat i).getD i [])) < (LA.leadS (LA.redS x0.2 x1))) := of_decide_eq_false h5
     refine wp_skip (in_normal (then_normal ?_))
     refine at_regq [{ nw:=true }] { ts:=[0,4,5,6,7,30,31,32],os:=[1,2,3,5,6] } [I64 (((i:Nat):Int)+1)] gamOK hT h (by kernel_rfl) ⟨⟨by first | omega | (simp only [lsA];omega) | (simp<;>omega),by first | omega | (simp only [lsA];omega) | (simp<;>omega)⟩,trivial⟩ fun a w h=>?_
     replace h:=at_shut (σ':=⟨[(0,aP 1 0),(4,aB false),(5,aS 5),(6,aI (LA.leadS (LA.redS x0.2 x1))),(7,aI ((LA.atTo (LA.insE x0.2 x1) (LA.leadS (LA.redS x0.2 x1)) i:Nat):Int)),(30,aS 2),(31,aI ((List.length x0.2:Nat):Int)),(32,aI (((i:Nat):Int)+1))],[(1,oX 95 [cI x0.1,.sl 2]),(2,oR s22 (List.set (LA.elTo x0.2 (LA.insW x0.2 x1) (LA.leadS (LA.redS x0.2 x1)).toNat i) i ((LA.elTo x0.2 (LA.insW x0.2 x1) (LA.leadS (LA.redS x0.2 x1)).toNat i).getD i []))),(3,oP 1 (S__P_impl_Basis_insert.hd us 0)),(5,oR (.int 3) (LA.insW x0.2 x1))]⟩) (ps:=[]) 2 { ts:=[0,4,5,6,7,30,31,32],os:=[1,2,3,5] } h (by kernel_rfl) trivial
     replace h:=at_out (σ':=⟨[(0,aP 1 0),(4,aB false),(5,aS 5),(6,aI (LA.leadS (LA.redS x0.2 x1))),(7,aI ((LA.atTo (LA.insE x0.2 x1) (LA.leadS (LA.redS x0.2 x1)) i:Nat):Int)),(30,aS 2),(31,aI ((List.length x0.2:Nat):Int)),(32,aI (((i:Nat):Int)+1))],[(1,oX 95 [cI x0.1,.sl 2]),(2,oR s22 (List.set (LA.elTo x0.2 (LA.insW x0.2 x1) (LA.leadS (LA.redS x0.2 x1)).toNat i) i ((LA.elTo x0.2 (LA.insW x0.2 x1) (LA.leadS (LA.redS x0.2 x1)).toNat i).getD i []))),(3,oP 1 (S__P_impl_Basis_insert.hd us 0)),(5,oR (.int 3) (LA.insW x0.2 x1))]⟩) { ts:=[0,4,5,6,7,30,31,32],os:=[1,2,3,5] } h (by kernel_rfl)
     exact ⟨i+1,at_eq h (st_congr4 (fun (d0:List (List Int)) (d1:List Int) (d2:Int) (d3:Int)=>(⟨[(0,aP 1 0),(4,aB false),(5,aS 5),(6,aI (LA.leadS (LA.redS x0.2 x1))),(7,aI d2),(30,aS 2),(31,aI ((List.length x0.2:Nat):Int)),(32,aI d3)],[(1,oX 95 [cI x0.1,.sl 2]),(2,oR s22 d0),(3,oP 1 (S__P_impl_Basis_insert.hd us 0)),(5,oR (.int 3) d1)]⟩:St)) (show ((List.set (LA.elTo x0.2 (LA.insW x0.2 x1) (LA.leadS (LA.redS x0.2 x1)).toNat i) i ((LA.elTo x0.2 (LA.insW x0.2 x1) (LA.leadS (LA.redS x0.2 x1)).toNat i).getD i [])):List (List Int))=(LA.elTo x0.2 (LA.insW x0.2 x1) (LA.leadS (LA.redS x0.2 x1)).toNat (i+1)) from by first | with_reducible rfl | (first | exact LA.ins_b1 (by omega) (by assumption) | exact LA.ins_b0 (by omega) (by omega)) | rfl) (show ((LA.insW x0.2 x1):List Int)=(LA.insW x0.2 x1) from by first | with_reducible rfl | (rfl) | rfl) (show (((LA.atTo (LA.insE x0.2 x1) (LA.leadS (LA.redS x0.2 x1)) i:Nat):Int):Int)=((LA.atTo (LA.insE x0.2 x1) (LA.leadS (LA.redS x0.2 x1)) (i+1):Nat):Int) from by first | with_reducible rfl | (first | (rw [LA.atTo_y (LA.at_b1 (by omega) (by assumption)) (by assumption)];omega) | (rw [LA.atTo_y (LA.at_b0 (by omega) (by omega)) (by assumption)];omega) | (rw [LA.atTo_n (LA.at_b1 (by omega) (by assumption)) (by assumption)];done) | (rw [LA.atTo_n (LA.at_b0 (by omega) (by omega)) (by assumption)];done)) | rfl) (show (((i:Nat):Int)+1:Int)=(((i+1):Nat):Int) from by first | with_reducible rfl | (omega) | rfl)),(by omega),(by omega)⟩
  ·replace h2 : ¬ (((i : Nat) : Int) < ((List.length x0.2 : Nat) : Int)) := of_decide_eq_false h2
   refine wp_exit (then_exit ?_)
   replace h:=at_out (σ':=⟨[(0,aP 1 0),(4,aB false),(5,aS 5),(7,aI ((LA.atTo (LA.insE x0.2 x1) (LA.leadS (LA.redS x0.2 x1)) i:Nat):Int))],[(1,oX 95 [cI x0.1,.sl 2]),(2,oR s22 (LA.elTo x0.2 (LA.insW x0.2 x1) (LA.leadS (LA.redS x0.2 x1)).toNat i)),(3,oP 1 (S__P_impl_Basis_insert.hd us 0)),(5,oR (.int 3) (LA.insW x0.2 x1))]⟩) { ts:=[0,4,5,7],os:=[1,2,3,5] } h (by kernel_rfl)
   replace h:=at_eq (σ':=⟨[(0,aP 1 0),(4,aB false),(5,aS 5),(7,aI ((LA.atTo (LA.insE x0.2 x1) (LA.leadS (LA.redS x0.2 x1)) (List.length x0.2):Nat):Int))],[(1,oX 95 [cI x0.1,.sl 2]),(2,oR s22 (LA.insE x0.2 x1)),(3,oP 1 (S__P_impl_Basis_insert.hd us 0)),(5,oR (.int 3) (LA.insW x0.2 x1))]⟩) h (st_congr2 (fun (d0:List (List Int)) (d1:Int)=>(⟨[(0,aP 1 0),(4,aB false),(5,aS 5),(7,aI d1)],[(1,oX 95 [cI x0.1,.sl 2]),(2,oR s22 d0),(3,oP 1 (S__P_impl_Basis_insert.hd us 0)),(5,oR (.int 3) (LA.insW x0.2 x1))]⟩:St)) (show ((LA.elTo x0.2 (LA.insW x0.2 x1) (LA.leadS (LA.redS x0.2 x1)).toNat i):List (List Int))=(LA.insE x0.2 x1) from by first | with_reducible rfl | (exact LA.elTo_all (by omega)) | rfl) (show (((LA.atTo (LA.insE x0.2 x1) (LA.leadS (LA.redS x0.2 x1)) i:Nat):Int):Int)=((LA.atTo (LA.insE x0.2 x1) (LA.leadS (LA.redS x0.2 x1)) (List.length x0.2):Nat):Int) from by first | with_reducible rfl | (rw [show i=List.length x0.2 by omega]) | rfl))
   have hal:=LA.atTo_le (LA.insE x0.2 x1) (LA.leadS (LA.redS x0.2 x1)) (List.length x0.2)
   refine then_exit (in_hit (then_normal (wp_seq ?_)))
   refine at_regq [{},{},{},{},{},{},{},{ ids:=[7] },{ ids:=[8] }] { ts:=[4],os:=[1,3,8] } [(fun (x0:List (List Int)) (x1:Int) (x2:List (List Int))=>(0≤x1∧x1≤((List.length x0:Nat):Int))∧0 < List.length x2∧(List.length x0+List.length x2)*24≤140737488355328) (LA.insE x0.2 x1) ((LA.atTo (LA.insE x0.2 x1) (LA.leadS (LA.redS x0.2 x1)) (List.length x0.2):Nat):Int) ([(LA.insW x0.2 x1)])] gamOK hT h (by kernel_rfl) ⟨(by exact ⟨⟨by omega,by first | omega | (rw [show List.length (LA.insE x0.2 x1)=List.length x0.2 from by simp [LA.insE]];omega)⟩,by simp,by simp [LA.insE];omega⟩),trivial⟩ fun a w h=>then_normal (wp_seq ?_)
   refine at_regq [] { ts:=[4],os:=[1,3,8] } [] gamOK hT h (by kernel_rfl) trivial fun a w h=>then_normal (wp_ret ?_)
   exact at_returnI (S:=S__P_impl_Basis_insert) (x:=(x0,x1,())) [1,2] [3] ((x0.1,(D_slices_Insert_S_S_int_S_int_ (LA.insE x0.2 x1) ((LA.atTo (LA.insE x0.2 x1) (LA.leadS (LA.redS x0.2 x1)) (List.length x0.2):Nat):Int) ([(LA.insW x0.2 x1)]))),(x1,())) (some (true,())) [S__P_impl_Basis_insert.hd us 0=S__P_impl_Basis_insert.hd us 0] hio h (by kernel_rfl) ⟨rfl,trivial⟩ (by first | rfl | exact congrArg (fun (z:T95)=>(z,(x1,()))) (show ((x0.1,(D_slices_Insert_S_S_int_S_int_ (LA.insE x0.2 x1) ((LA.atTo (LA.insE x0.2 x1) (LA.leadS (LA.redS x0.2 x1)) (List.length x0.2):Nat):Int) ([(LA.insW x0.2 x1)]))):T95)=insU x0 x1 from by (unfold insU;first | (rw [LA.insS_no (by assumption)];done) | (rw [LA.insS_yes (by assumption)];rfl)))) (fun z e=>(Option.some.inj e) ▸ (congrArg (fun z=>(z,())) (show (true)=insD x0 x1 from by (unfold insD;first | (rw [LA.insS_no (by assumption)];done) | (rw [LA.insS_yes (by assumption)];done)))))

def isFmt (x0:Int) (x1:Int) (x2:Int):Bool:=(if (inR x0 0 1000000000000)=true then (if (inR x1 1 8)=true then (inR x2 1 16) else false) else false)
def S_impl_isFormat:Sum:={ fid:=114,dom:=[(.int 3),(.int 3),(.int 3)],cod:=[(.bool 4)],dp:=true,fz:=false,pre:=fun x=>True,g:=fun x=>((isFmt x.1 x.2.1 x.2.2.1),()) }
def S_impl_isFormat_tab:List (Nat×Sum):=[(73,S_impl_InRange)]
theorem S_impl_isFormat_ok:FnOK Try.prog 114 S_impl_isFormat:=by
 refine at_enter 17 (fun x=>⟨[(0,aI x.1),(1,aI x.2.1),(2,aI x.2.2.1)],[]⟩) Try.func114 rfl (by kernel_rfl) (fun x=>rfl) ?_
 rintro w0 Z0 ⟨x0,x1,x2,u⟩ a w
 revert x0 x1 x2
 intro (x0:Int) (x1:Int) (x2:Int) hpre hlens h
 have hT:TabOK Try.prog S_impl_isFormat_tab:=(.cons S_impl_InRange_ok .nil)
 refine wp_seq ?_
 refine at_regq [] { ts:=[0,1,2,6],os:=[] } [] gamOK hT h (by kernel_rfl) trivial fun a w h=>then_normal (wp_seq ?_)
 rcases Bool.eq_false_or_eq_true ((inR x0 0 1000000000000)) with h1 | h1
 ·have hvh1 := inR_t h1
  rcases Bool.eq_false_or_eq_true ((inR x1 1 8)) with h2 | h2
  ·have hvh2 := inR_t h2
   refine at_regq [{},{ hint:=some (aB true) },{},{},{ hint:=some (aB true) }] { ts:=[6],os:=[] } [True,(AV.p (.c (.v (.bool ((inR x0 0 1000000000000)))))=AV.p (.c (.v (.bool true)))),True,(AV.p (.c (.v (.bool ((inR x1 1 8)))))=AV.p (.c (.v (.bool true)))),True] gamOK hT h (by kernel_rfl) ⟨trivial,hint_bool (h1),trivial,hint_bool (h2),trivial,trivial⟩ fun a w h=>then_normal (wp_ret ?_)
   exact at_return ((inR x2 1 16),()) [] h (by kernel_rfl) trivial (congrArg (fun z=>(z,())) (show ((inR x2 1 16))=isFmt x0 x1 x2 from by first | rfl | (unfold isFmt;rw [if_pos h1,if_pos h2])))
  ·have hvh2 := inR_f h2
   refine at_regq [{},{ hint:=some (aB true) },{},{},{ hint:=some (aB false) }] { ts:=[6],os:=[] } [True,(AV.p (.c (.v (.bool ((inR x0 0 1000000000000)))))=AV.p (.c (.v (.bool true)))),True,(AV.p (.c (.v (.bool ((inR x1 1 8)))))=AV.p (.c (.v (.bool false))))] gamOK hT h (by kernel_rfl) ⟨trivial,hint_bool (h1),trivial,hint_bool (h2),trivial⟩ fun a w h=>then_normal (wp_ret ?_)
   exact at_return (false,()) [] h (by kernel_rfl) trivial (congrArg (fun z=>(z,())) (show (false)=isFmt x0 x1 x2 from by first | rfl | (unfold isFmt;rw [if_pos h1,if_neg (neT h2)])))
 ·have hvh1 := inR_f h1
  refine at_regq [{},{ hint:=some (aB false) }] { ts:=[6],os:=[] } [True,(AV.p (.c (.v (.bool ((inR x0 0 1000000000000)))))=AV.p (.c (.v (.bool false))))] gamOK hT h (by kernel_rfl) ⟨trivial,hint_bool (h1),trivial⟩ fun a w h=>then_normal (wp_ret ?_)
  exact at_return (false,()) [] h (by kernel_rfl) trivial (congrArg (fun z=>(z,())) (show (false)=isFmt x0 x1 x2 from by first | rfl | (unfold isFmt;rw [if_neg (neT h1)])))
theorem isFmt_t {g s w:Int} (h:isFmt g s w=true):(0≤g∧g≤1000000000000)∧(1≤s∧s≤8)∧(1≤w∧w≤16):=by
 unfold isFmt at h
 split at h
 ·split at h
  ·exact ⟨inR_t (by assumption),inR_t (by assumption),inR_t h⟩
  ·cases h
 ·cases h

def S_spec_l14Range:Sum:={ fid:=88,dom:=[(.int 3),(.int 3),(.int 3)],cod:=[(.bool 4)],dp:=true,fz:=false,pre:=fun x=>True,g:=fun x=>((isFmt x.1 x.2.1 x.2.2.1),()) }
def S_spec_l14Range_tab:List (Nat×Sum):=[(59,S_spec_l1In)]
theorem S_spec_l14Range_ok:FnOK Try.prog 88 S_spec_l14Range:=by
 refine at_enter 17 (fun x=>⟨[(0,aI x.1),(1,aI x.2.1),(2,aI x.2.2.1)],[]⟩) Try.func88 rfl (by kernel_rfl) (fun x=>rfl) ?_
 rintro w0 Z0 ⟨x0,x1,x2,u⟩ a w
 revert x0 x1 x2
 intro (x0:Int) (x1:Int) (x2:Int) hpre hlens h
 have hT:TabOK Try.prog S_spec_l14Range_tab:=(.cons S_spec_l1In_ok .nil)
 refine wp_seq ?_
 refine at_regq [] { ts:=[0,1,2,6],os:=[] } [] gamOK hT h (by kernel_rfl) trivial fun a w h=>then_normal (wp_seq ?_)
 rcases Bool.eq_false_or_eq_true ((inR x0 0 1000000000000)) with h1 | h1
 ·have hvh1 := inR_t h1
  rcases Bool.eq_false_or_eq_true ((inR x1 1 8)) with h2 | h2
  ·have hvh2 := inR_t h2
   refine at_regq [{},{ hint:=some (aB true) },{},{},{ hint:=some (aB true) }] { ts:=[6],os:=[] } [True,(AV.p (.c (.v (.bool ((inR x0 0 1000000000000)))))=AV.p (.c (.v (.bool true)))),True,(AV.p (.c (.v (.bool ((inR x1 1 8)))))=AV.p (.c (.v (.bool true)))),True] gamOK hT h (by kernel_rfl) ⟨trivial,hint_bool (h1),trivial,hint_bool (h2),trivial,trivial⟩ fun a w h=>then_normal (wp_ret ?_)
   exact at_return ((inR x2 1 16),()) [] h (by kernel_rfl) trivial (congrArg (fun z=>(z,())) (show ((inR x2 1 16))=isFmt x0 x1 x2 from by first | rfl | (unfold isFmt;rw [if_pos h1,if_pos h2];done) | (unfold isFmt;simp_all)))
  ·have hvh2 := inR_f h2
   refine at_regq [{},{ hint:=some (aB true) },{},{},{ hint:=some (aB false) }] { ts:=[6],os:=[] } [True,(AV.p (.c (.v (.bool ((inR x0 0 1000000000000)))))=AV.p (.c (.v (.bool true)))),True,(AV.p (.c (.v (.bool ((inR x1 1 8)))))=AV.p (.c (.v (.bool false))))] gamOK hT h (by kernel_rfl) ⟨trivial,hint_bool (h1),trivial,hint_bool (h2),trivial⟩ fun a w h=>then_normal (wp_ret ?_)
   exact at_return (false,()) [] h (by kernel_rfl) trivial (congrArg (fun z=>(z,())) (show (false)=isFmt x0 x1 x2 from by first | rfl | (unfold isFmt;rw [if_pos h1,if_neg (neT h2)];done) | (unfold isFmt;simp_all)))
 ·have hvh1 := inR_f h1
  refine at_regq [{},{ hint:=some (aB false) }] { ts:=[6],os:=[] } [True,(AV.p (.c (.v (.bool ((inR x0 0 1000000000000)))))=AV.p (.c (.v (.bool false))))] gamOK hT h (by kernel_rfl) ⟨trivial,hint_bool (h1),trivial⟩ fun a w h=>then_normal (wp_ret ?_)
  exact at_return (false,()) [] h (by kernel_rfl) trivial (congrArg (fun z=>(z,())) (show (false)=isFmt x0 x1 x2 from by first | rfl | (unfold isFmt;rw [if_neg (neT h1)];done) | (unfold isFmt;simp_all)))

end Go.Proofs.Ytamibfjeldfphaa
